/- 'Take': a client's losses, and first events. No condition but the queue's own and the call's bounds. -/
import Derived.Test.YtldnnkceeeinlaaBForget
import Derived.Deep.AppendLies
import Derived.RegionIn
import Derived.BigRegionIn
namespace Go.Proofs.Ytldnnkceeeinlaa
open Go.RowKit

/-- What becomes of the events and the items with one more. -/
def tstep (c m : Nat) (s : List Ev × List (Nat × It)) (p : Nat × It) : List Ev × List (Nat × It) :=
  if s.1.length < m ∧ 0 ≤ p.2.u.getD c (-1) then (s.1 ++ [p.2.e], s.2 ++ [unw c p]) else (s.1, s.2 ++ [p])
def takeF (c m : Nat) (l : List (Nat × It)) : List Ev × List (Nat × It) := l.foldl (tstep c m) ([], [])
theorem takeF_snoc (c m : Nat) (l : List (Nat × It)) (x : Nat × It) : takeF c m (l ++ [x]) = tstep c m (takeF c m l) x := by simp [takeF]
theorem tstep_two (c m : Nat) (s : List Ev × List (Nat × It)) (p : Nat × It) : ∃ y, (y = p ∨ y = unw c p) ∧ (tstep c m s p).2 = s.2 ++ [y] := by
  rw [tstep]
  split
  · exact ⟨_, .inr rfl, rfl⟩
  · exact ⟨_, .inl rfl, rfl⟩
theorem takeF_from (c m : Nat) (l : List (Nat × It)) : ∀ s : List Ev × List (Nat × It), (l.foldl (tstep c m) s).2.map (·.1) = s.2.map (·.1) ++ l.map (·.1) := by
  induction l with
  | nil => intro s; simp
  | cons x l ih =>
    intro s
    obtain ⟨y, hy, e⟩ := tstep_two c m s x
    rw [List.foldl_cons, ih, e]
    rcases hy with rfl | rfl <;> simp [unw]
theorem takeF_ids (c m : Nat) (l : List (Nat × It)) : (takeF c m l).2.map (·.1) = l.map (·.1) := by
  have := takeF_from c m l ([], [])
  simpa [takeF] using this
theorem takeF_len (c m : Nat) (l : List (Nat × It)) : (takeF c m l).2.length = l.length := by
  have := congrArg List.length (takeF_ids c m l)
  simpa using this
def cur (c m : Nat) (l : List (Nat × It)) (j : Nat) : List (Nat × It) := (takeF c m (l.take j)).2 ++ l.drop j
theorem cur_ids (c m : Nat) (l : List (Nat × It)) (j : Nat) : (cur c m l j).map (·.1) = l.map (·.1) := by
  rw [cur, List.map_append, takeF_ids, ← List.map_append, List.take_append_drop]
theorem set_same {α : Type} {l : List α} {j : Nat} {x : α} (h : l[j]? = some x) : l.set j x = l := by
  refine List.ext_getElem? fun i => ?_
  rw [List.getElem?_set]
  split
  · rename_i e
    subst e
    rw [h]
    simp [(List.getElem?_eq_some_iff.1 h).1]
  · rfl
theorem cur_get {c m : Nat} {l : List (Nat × It)} {j : Nat} {x : Nat × It} (hx : l[j]? = some x) : (cur c m l j)[j]? = some x ∧ takeF c m (l.take (j + 1)) = tstep c m (takeF c m (l.take j)) x ∧
    ∀ y, (takeF c m (l.take (j + 1))).2 = (takeF c m (l.take j)).2 ++ [y] → cur c m l (j + 1) = (cur c m l j).set j y := by
  have hj : j < l.length := (List.getElem?_eq_some_iff.1 hx).1
  have hd : l.drop j = x :: l.drop (j + 1) := by rw [List.drop_eq_getElem_cons hj, (List.getElem?_eq_some_iff.1 hx).2]
  have hlen : (takeF c m (l.take j)).2.length = j := by rw [takeF_len]; simp; omega
  refine ⟨?_, ?_, fun y hy => ?_⟩
  · rw [cur, hd, List.getElem?_append_right (by omega), hlen]
    simp
  · rw [List.take_add_one, hx]
    exact takeF_snoc c m _ x
  · rw [cur, hy, cur, hd]
    have := set_mid (takeF c m (l.take j)).2 x y (l.drop (j + 1))
    rw [hlen] at this
    rw [this]

def ev0 : Value := .agg #[.int .i64 0, .int .i64 0, .int .i64 0, .int .i64 0, .int .i64 0, .int .i64 0]
theorem info31 : ∃ i0, Try.prog.info? 31 = some i0 ∧ i0.zero = some ev0 ∧ i0.size = 6 ∧ i0.bytes = 48 := by
  have hm : (Try.prog.info? 31).map (fun i => (i.zero, i.size, i.bytes)) = some (some ev0, 6, 48) := by kernel_rfl
  obtain ⟨i0, h1, h2, h3, h4⟩ := info_parts hm
  exact ⟨i0, h1, h2, h3, h4⟩
theorem BK.setNew {B : Nat} {w W : World} (h : BK B w W) {p : Addr} (hp : w.heap.size ≤ p.block) (u : Value) : BK B w (W.setCell p u) :=
  ⟨h.os, h.tape, h.output, by rw [show (W.setCell p u).heap.size = W.heap.size by simp [World.setCell]]; exact h.size, fun k x hx hc => by
    have := lt_of_block hx
    rw [Below.heap_setCell _ _ _ _ (by omega)]
    exact h.keep k x hx hc⟩

theorem wp_to {P : Program} {cd : Code} {Q : Exit → Act → World → Prop} {a A : Act} {w W : World} (h : cd.wp P (fun e a' w' => e = .normal ∧ a' = A ∧ w' = W) a w) (hq : Q .normal A W) : cd.wp P Q a w :=
  wp_mono h (fun _ _ _ ⟨h1, h2, h3⟩ => by rw [h1, h2, h3]; exact hq)

theorem wpIn_to {F : Fence} {n : Nat} {P : Program} {cd : Code} {Q : Exit → Act → World → Prop} {a A : Act} {w W : World} (h : cd.wpIn F n P (fun e a' w' => e = .normal ∧ a' = A ∧ w' = W) a w) (hq : Q .normal A W) : cd.wpIn F n P Q a w :=
  wpIn_mono h (fun _ _ _ ⟨h1, h2, h3⟩ => by rw [h1, h2, h3]; exact hq)

theorem append64 {a : Act} {w : World} {K : Act → World → Prop} {Q : Exit → Act → World → Prop} {v v' s : Value} {w' : World} {ty : TypeId} {pos : String} {af : Array Edge} (h1 : a.eval (.tmp 58) = v) (h2 : a.eval (.tmp 63) = s)
    (hr : (Builtin.append_ #[38, 38] ty #[v, s]).run Try.prog w = .ok v' w') (h : K (a.put (some 64) v') w') :
    Oper.wp Try.prog { dst := some 64, op := Op.call { callee := Callee.builtin Builtin.append, args := #[Operand.tmp 58, Operand.tmp 63], argTypes := #[38, 38] }, type := ty, pos := pos, after := af, guard := none } a w K Q := by
  unfold Oper.wp execOp
  simp only [resolve, invoke, builtin, Sem.run_bind, Sem.run_pure, Result.andThen_ok, List.map_toArray, List.map_cons, List.map_nil, h1, h2, hr]
  exact h

structure Tk (B : Nat) (w0 : World) (q g h k b : Nat) (M : Nat) (l : List (Nat × It)) (lost : List Int) (c m : Nat) (z : Int) (ev : List Ev) (v : Value) (W : World) : Prop where
  own : QAt B W q g h k l lost
  bk : BK B w0 W
  box4 : W.heap[b]? = some (.cells #[.int .i64 c] 3 (0, 0))
  box5 : W.heap[b + 1]? = some (.cells #[.int .i64 m] 3 (0, 0))
  box6 : W.heap[b + 1 + 1]? = some (.cells #[.int .i64 0, .int .i64 0, .slice none 0 0] 40 (0, 0))
  box8 : W.heap[b + 1 + 1 + 1]? = some (.cells #[.int .i64 c, .int .i64 z, v] 40 (0, 0))
  row : W.ownsRow M 31 6 v ev.length (ev.flatMap evs)

theorem evs_one (e : Ev) : ∀ u ∈ evs e, u.oneCell' = true := by
  intro u hu
  simp only [evs, List.mem_cons, List.not_mem_nil, or_false] at hu
  rcases hu with rfl | rfl | rfl | rfl | rfl | rfl <;> rfl
theorem QAt.below {B q g h k M : Nat} {W W' : World} {l : List (Nat × It)} {lost : List Int} (hq : QAt B W q g h k l lost) (hM : q < M ∧ g < M ∧ h < M ∧ k < M ∧ ∀ p ∈ l, p.1 < M) (hb : Below M W W') : QAt B W' q g h k l lost :=
  ⟨(hb.block _ hM.1).trans hq.own, RPtr.is_below hq.ring hb hM.2.1 hM.2.2.1 hM.2.2.2.1, fun p hp => (hb.block _ (hM.2.2.2.2 p hp)).trans (hq.item p hp), hq.wide, hq.nodup, hq.lost8, hq.base⟩
theorem BK.far {B M : Nat} {w a b : World} (h : BK B w a) (hb : Below M a b) (hM : w.heap.size ≤ M) : BK B w b :=
  ⟨hb.os.trans h.os, hb.tape.trans h.tape, hb.output.trans h.output, Nat.le_trans h.size hb.size, fun i o ho hc => (hb.block i (by have := lt_of_block ho; omega)).trans (h.keep i o ho hc)⟩
section
variable {B : Nat} {w0 W W' : World} {q g h k b M : Nat} {l : List (Nat × It)} {lost : List Int} {c m : Nat} {z : Int} {ev : List Ev} {v : Value}
theorem row_turn {D : Nat} (hr : W.ownsRow M 31 6 v ev.length (ev.flatMap evs)) (ht : Rng.Turn D W W') : W'.ownsRow M 31 6 v ev.length (ev.flatMap evs) := by
  obtain ⟨h1, h2⟩ := hr
  refine ⟨h1, ?_⟩
  rcases h2 with h3 | ⟨g', cap, cur, e1, e2, e3, e4⟩
  · exact .inl h3
  · exact .inr ⟨g', cap, cur, e1, e2, ht.heap e3, e4⟩
theorem Tk.turn {D : Nat} (hi : Tk B w0 q g h k b M l lost c m z ev v W) (ht : Rng.Turn D W W') (hD : w0.heap.size ≤ D) (hk : k < D) : Tk B w0 q g h k b M l lost c m z ev v W' :=
  ⟨hi.own.spin ht hk, hi.bk.turn ht hD, ht.heap hi.box4, ht.heap hi.box5, ht.heap hi.box6, ht.heap hi.box8, row_turn hi.row ht⟩
theorem Tk.drewN (hi : Tk B w0 q g h k b M l lost c m z ev v W) (n : Nat) : Tk B w0 q g h k b M l lost c m z ev v (W.drewN n) :=
  ⟨hi.own.drewN n, hi.bk.trans (BK.new ((Keeps.refl _ _).drewN n)), hi.box4, hi.box5, hi.box6, hi.box8, hi.row⟩
theorem Tk.unwait (hi : Tk B w0 q g h k b (b + 1 + 1 + 1 + 1) l lost c m z ev v W) {j : Nat} {x : Nat × It} (hx : l[j]? = some x) (c' : Nat) (hb : x.1 < b) : Tk B w0 q g h k b (b + 1 + 1 + 1 + 1) (l.set j (unw c' x)) lost c m z ev v (W.setCell ⟨x.1, 6 + c', none⟩ (.int .i64 (-1))) := by
  have hk : Keeps [x.1] W (W.setCell ⟨x.1, 6 + c', none⟩ (.int .i64 (-1))) := (Keeps.refl _ _).setCell (by simp) _
  refine ⟨hi.own.put hx c', hi.bk.trans (BK.of_keeps hk (fun y hy => by
    obtain rfl : y = x.1 := by simpa using hy
    exact ⟨hi.own.base.2.2.2.2 x (List.mem_of_getElem? hx), fun o ho => by rw [hi.own.item x (List.mem_of_getElem? hx)] at ho; obtain rfl := Option.some.inj ho; rfl⟩)), hk.heap hi.box4 (by simp; omega), hk.heap hi.box5 (by simp; omega), hk.heap hi.box6 (by simp; omega), hk.heap hi.box8 (by simp; omega), hi.row.1, ?_⟩
  rcases hi.row.2 with h6 | ⟨g', cap, cur, e1, e2, e3, e4⟩
  · exact .inl h6
  · exact .inr ⟨g', cap, cur, e1, e2, hk.heap e3 (by simp; omega), e4⟩
/-- One more event. -/
theorem Tk.snoc (hi : Tk B w0 q g h k b (b + 1 + 1 + 1 + 1) l lost c m z ev v W) (hn : ev.length ≤ 64) (hb : w0.heap.size ≤ b) (hM : q < b ∧ g < b ∧ h < b ∧ k < b ∧ ∀ p ∈ l, p.1 < b) (e : Ev) (nd : Nat) :
    ∃ v' w', (Builtin.append_ #[38, 38] 38 #[v, .slice (some ⟨W.heap.size, 0, none⟩) 1 1]).run Try.prog ((W.drewN nd).alloc (.cells (evs e).toArray 31)) = .ok v' w' ∧
      Tk B w0 q g h k b (b + 1 + 1 + 1 + 1) l lost c m z (ev ++ [e]) v' (w'.setCell ⟨b + 1 + 1 + 1, 2, none⟩ v') ∧ (∀ D, b + 1 + 1 + 1 + 1 ≤ D → Rng.Hold D W (w'.setCell ⟨b + 1 + 1 + 1, 2, none⟩ v')) ∧ (∃ f0, w'.heap[b + 1 + 1 + 1]? = some (.cells #[.int .i64 c, .int .i64 z, f0] 40 (0, 0))) := by
  obtain ⟨i0, hi0, hz0, hz1, hz2⟩ := info31
  have hsz : b + 1 + 1 + 1 < W.heap.size := lt_of_block hi.box8
  obtain ⟨Wd, hWd⟩ : ∃ Wd, Wd = (W.drewN nd).alloc (.cells (evs e).toArray 31) := ⟨_, rfl⟩
  rw [← hWd]
  have hkd : Keeps [] W Wd := by rw [hWd]; exact ((Keeps.refl _ _).drewN nd).alloc _
  have hx : Wd.heap[W.heap.size]? = some (.cells (evs e).toArray 31 (0, 0)) := by rw [hWd]; exact heap_alloc_new W _
  have hnews : ∀ j u, (evs e)[j]? = some u → Wd.cell? ((⟨W.heap.size, 0, none⟩ : Addr).add j) = some u := by
    intro j u hu
    rw [Addr.add_lit, Nat.zero_add]
    exact (cell_at hx (by simpa using hu)).1
  have hrow : Wd.ownsRow (b + 1 + 1 + 1 + 1) 31 6 v ev.length (ev.flatMap evs) := by
    rw [hWd]
    exact row_turn (row_turn hi.row (Rng.Turn.alloc (B := 0) W (.cells (evs e).toArray 31))) (Rng.Turn.grown (B := 0) (W := W.alloc (.cells (evs e).toArray 31)) ⟨rfl, rfl, rfl, Nat.le_refl _, fun _ _ _ => rfl⟩)
  obtain ⟨v', w', hr, h2, h3, h4, h5⟩ := run_append_own_at (P := Try.prog) Wd (b + 1 + 1 + 1 + 1) 38 38 31 i0 ev0 6 48 Try.underlying38 hi0 hz0 hz1 hz2 rfl (by omega) v ev.length _ hrow ⟨W.heap.size, 0, none⟩ 1 1 (evs e) rfl hnews (evs_one e) (by unfold maxLen; omega) (by omega) (by have := hkd.size; omega)
  have hlt : ∀ i, v.ownBlock = some i → b + 1 + 1 + 1 + 1 ≤ i := fun i hi => (hrow.lt i hi).1
  have hb1 : Below (b + 1 + 1 + 1 + 1) W w' := ⟨h3.os.trans hkd.os, h3.tape.trans hkd.tape, h3.output.trans hkd.output, Nat.le_trans hkd.size h3.size, fun i hii => by
    rw [h3.block i (by have := hkd.size; omega) (fun e => by have := hlt i e.symm; omega)]
    exact hkd.block i (by omega) (by simp)⟩
  refine ⟨v', w', hr, ?_, fun D hD => ⟨?_, fun i o hi1 hs ho => ?_⟩, ⟨v, (hb1.block (b + 1 + 1 + 1) (by omega)).trans hi.box8⟩⟩
  · have hb2 : Keeps [b + 1 + 1 + 1] w' (w'.setCell ⟨b + 1 + 1 + 1, 2, none⟩ v') := (Keeps.refl _ _).setCell (by simp) _
    have hq1 := hi.own.below (M := b + 1 + 1 + 1 + 1) ⟨by omega, by omega, by omega, by omega, fun p hp => by have := hM.2.2.2.2 p hp; omega⟩ hb1
    have hx8 := (hb1.block (b + 1 + 1 + 1) (by omega)).trans hi.box8
    refine ⟨hq1.apart hx8 (by decide) hb2, (hi.bk.far hb1 (by omega)).setNew (by simp; omega) _, hb2.heap ((hb1.block b (by omega)).trans hi.box4) (by simp; omega), hb2.heap ((hb1.block (b + 1) (by omega)).trans hi.box5) (by simp), hb2.heap ((hb1.block (b + 1 + 1) (by omega)).trans hi.box6) (by simp), ?_, ?_⟩
    · rw [heap_setCell_self hx8]
      simp
    · rw [List.flatMap_append, List.length_append]
      refine ⟨by simpa using h2.1, ?_⟩
      rcases h2.2 with h6 | ⟨g', cap, cur, e1, e2, e3, e4⟩
      · simp at h6
      · exact .inr ⟨g', cap, cur, by simpa using e1, e2, (Below.heap_setCell _ _ _ _ (by simp; omega)).trans e3, by simpa using e4⟩
  · rw [show (w'.setCell ⟨b + 1 + 1 + 1, 2, none⟩ v').heap.size = w'.heap.size by simp [World.setCell]]
    exact hb1.size
  · have hil := lt_of_block ho
    rw [Below.heap_setCell _ _ _ _ (by simp; omega), h3.block i (by have := hkd.size; omega) (fun e => ?_)]
    · exact hkd.heap ho (by simp)
    · rcases hi.row.2 with ⟨rfl, _⟩ | ⟨g', cap, cur, rfl, e2, e3, e4⟩
      · simp [Value.ownBlock] at e
      · obtain rfl : g' = i := by simpa [Value.ownBlock] using e.symm
        rw [e3] at ho
        obtain rfl := Option.some.inj ho
        simp [Rng.soft] at hs
end

attribute [local go_sem] Oper.semAt_some
set_option maxHeartbeats 1600000 in
set_option maxRecDepth 100000 in
theorem take {B q : Nat} {w : World} {l : List (Nat × It)} {lost : List Int} (hq : QIs B w q l lost) {c m : Nat} (hc8 : c < 8) (hm1 : 1 ≤ m) (hm5 : m ≤ 5) {z : Int} (hz : lost[c]? = some z) :
    Calls Try.prog 13 #[.pointer (some ⟨q, 0, none⟩), .int .i64 c, .int .i64 m] w fun e w' => ∃ v, e = .returned (.tuple #[.agg #[.int .i64 c, .int .i64 z, v], .int .i64 0]) ∧
      w'.ownsRow w.heap.size 31 6 v (takeF c m l).1.length ((takeF c m l).1.flatMap evs) ∧ QIs B w' q (sweepL (takeF c m l).2) (lost.set c 0) ∧ BK B w w' := by
  obtain ⟨g, h, k, hq⟩ := hq
  have hBw : B ≤ w.heap.size := by have := hq.base.1; have := hq.lts.1; omega
  refine (callsIn_wide (n := 9)).1 (callsIn_of_wp_marks Try.func13 rfl trivial ?_ rfl)
  refine wpIn_wide.2 ?_
  simp only [Try.ntmps13, List.size_toArray, List.length_cons, List.length_nil, Nat.reduceAdd, Nat.reduceSub, Array.replicate_succ, Array.replicate_zero, List.push_toArray, List.append_toArray, List.nil_append, List.cons_append]
  go_upto_region 1 with fail
  obtain ⟨b, hb⟩ : ∃ b, b = w.heap.size := ⟨_, rfl⟩
  obtain ⟨w1, hw1⟩ : ∃ w1, w1 = ((w.alloc (.cells #[.int .i64 c] 3)).alloc (.cells #[.int .i64 m] 3)).alloc (.cells #[.int .i64 0, .int .i64 0, .slice none 0 0] 40) := ⟨_, rfl⟩
  rw [← hw1, ← hb]
  have hk1 : Keeps [] w w1 := by rw [hw1]; exact (((Keeps.refl _ _).alloc _).alloc _).alloc _
  obtain ⟨x4, x5, x6⟩ := alloc3 w (.cells #[.int .i64 c] 3) (.cells #[.int .i64 m] 3) (.cells #[.int .i64 0, .int .i64 0, .slice none 0 0] 40)
  rw [← hw1, ← hb] at x4 x5 x6
  have hsz1 : w1.heap.size = b + 1 + 1 + 1 := by rw [hw1, hb]; simp
  have hq1 := hq.new hk1
  have hlt := hq.lts
  have HQL : Hid (∀ p ∈ l, p.1 < w.heap.size) := hlt.2.2.2.2
  have hgb : q < b ∧ g < b ∧ h < b ∧ k < b := by omega
  have hbw : w.heap.size ≤ b := by omega
  obtain ⟨e0, e1⟩ := cell_at hq1.own (qA_get (g := g) hz)
  obtain ⟨c4, _⟩ := cell_at x4 (p := 0) rfl
  obtain ⟨c5, _⟩ := cell_at x5 (p := 0) rfl
  have hd1 : decide (c < 8) = true := decide_eq_true hc8
  have hd2 : decide (m < 1) = false := decide_eq_false (by omega)
  have hd3 : decide ((m : Int) < 1) = false := decide_eq_false (by omega)
  have hd4 : decide (5 < m) = false := decide_eq_false (by omega)
  have hd5 : decide ((5 : Int) < m) = false := decide_eq_false (by omega)
  have HQ1 := Go.Lib.hid hq1
  have HK1 := Go.Lib.hid hk1
  have HX4 := Go.Lib.hid x4
  have HX5 := Go.Lib.hid x5
  have HX6 := Go.Lib.hid x6
  have HZ := Go.Lib.hid hz
  have HSZ := Go.Lib.hid hsz1
  clear hw1 hk1 hlt hq hq1 hb x4 x5 x6 hz hsz1
  go_wp2_with fail
  refine (client_yes hc8 _).mono ?_
  rintro e w' ⟨rfl, rfl⟩
  go_upto_region 3 with fail
  have hc8i : (c : Int) < 8 := by omega
  have c4' : (w1.alloc (.cells #[.int .i64 0, .int .i64 0, .slice none 0 0] 40)).cell? ⟨b, 0, none⟩ = some (.int .i64 c) := (cell_at (((Keeps.refl [] w1).alloc (.cells #[.int .i64 0, .int .i64 0, .slice none 0 0] 40)).heap HX4.out (by simp)) (p := 0) rfl).1
  have e0' : (w1.alloc (.cells #[.int .i64 0, .int .i64 0, .slice none 0 0] 40)).cell? ⟨q, 1 + c, none⟩ = some (.int .i64 z) := (cell_at (HQ1.out.new ((Keeps.refl [] w1).alloc (.cells #[.int .i64 0, .int .i64 0, .slice none 0 0] 40))).own (qA_get (g := g) HZ.out)).1
  apply wp_to
  case h =>
    go_region
    all_goals
      go_wp2
      exact ⟨rfl, rfl⟩
  case hq =>
    clear c4' e0'
    obtain ⟨w2, hw2⟩ : ∃ w2, w2 = (w1.alloc (.cells #[.int .i64 c, .int .i64 z, .slice none 0 0] 40)).drew := ⟨_, rfl⟩
    rw [← hw2, HSZ.out]
    have hk2 : Keeps [] w1 w2 := by rw [hw2]; exact ((Keeps.refl _ _).alloc _).drew
    have hx8 : w2.heap[b + 1 + 1 + 1]? = some (.cells #[.int .i64 c, .int .i64 z, .slice none 0 0] 40 (0, 0)) := by rw [hw2, ← HSZ.out]; exact heap_alloc_new w1 _
    obtain ⟨q0, q1⟩ := cell_at (HQ1.out.new hk2).own (qA_get (g := g) HZ.out)
    obtain ⟨c4', _⟩ := cell_at (hk2.heap HX4.out (by simp)) (p := 0) rfl
    have HN : Hid (∀ n, Tk B w q g h k b (b + 1 + 1 + 1 + 1) (cur c m l 0) (lost.set c 0) c m z [] (.slice none 0 0) ((w2.drewN n).setCell ⟨q, 1 + c, none⟩ (.int .i64 0))) := fun n => by
      have hq2 := HQ1.out.new hk2
      have hk3 : Keeps [q] w2 ((w2.drewN n).setCell ⟨q, 1 + c, none⟩ (.int .i64 0)) := ((Keeps.refl _ _).drewN n).setCell (by simp) _
      refine ⟨by simpa [cur, takeF] using (hq2.drewN n).lose c 0, (BK.new (HK1.out.trans hk2)).trans (hq2.loseBK n c _), ?_, ?_, ?_, ?_, World.ownsRow_nil _ _ _ _⟩
      · exact hk3.heap (hk2.heap HX4.out (by simp)) (by simp; omega)
      · exact hk3.heap (hk2.heap HX5.out (by simp)) (by simp; omega)
      · exact hk3.heap (hk2.heap HX6.out (by simp)) (by simp; omega)
      · exact hk3.heap hx8 (by simp; omega)
    clear hw2 hk2 hx8 c4 c5 e0 e1 HX4 HX5 HX6 HK1
    go_upto_region 4 with fail
    refine QTail.wp_region_dtail 5 (by kernel_rfl) (by kernel_rfl) ?_
    simp only [List.take_succ_cons, List.take_zero, List.drop_succ_cons, List.drop_zero]
    repeat (go_big_quiet_step (fail))
    refine wpQuiet_nil ?_
    rintro _ ⟨n1, rfl⟩
    go_upto_region 5 with fail
    obtain ⟨w3, hw3⟩ : ∃ w3, w3 = (w2.drewN n1).setCell ⟨q, 1 + c, none⟩ (.int .i64 0) := ⟨_, rfl⟩
    rw [← hw3]
    have HI0 : Hid (Tk B w q g h k b (b + 1 + 1 + 1 + 1) (cur c m l 0) (lost.set c 0) c m z [] (.slice none 0 0) w3) := by rw [hw3]; exact HN.out n1
    clear hw3 HN q0 q1 c4'
    obtain ⟨cq, _⟩ := cell_at HI0.out.own.own (qA_zero g (lost.set c 0))
    go_wp2_with fail
    refine (RPtr.all _ _).mono ?_
    rintro e w' ⟨rfl, rfl⟩
    go_wp2_with fail
    obtain ⟨b6, hb6⟩ : ∃ b6, b6 = w3.heap.size := ⟨_, rfl⟩
    obtain ⟨w4, hw4⟩ : ∃ w4, w4 = w3.alloc (.cells #[.pointer (some ⟨g, 0, none⟩)] 67) := ⟨_, rfl⟩
    rw [← hw4, ← hb6]
    have hk4 : Keeps [] w3 w4 := by rw [hw4]; exact (Keeps.refl _ _).alloc _
    have ht4 : Rng.Turn w3.heap.size w3 w4 := by rw [hw4]; exact Rng.Turn.alloc _ _
    have hx6 : w4.cell? ⟨b6, 0, none⟩ = some (.pointer (some ⟨g, 0, none⟩)) := by rw [hw4, hb6]; exact (cell_at (heap_alloc_new _ _) rfl).1
    have h8 := lt_of_block HI0.out.box8
    have HI : Hid (Tk B w q g h k b (b + 1 + 1 + 1 + 1) (cur c m l 0) (lost.set c 0) c m z [] (.slice none 0 0) w4) := HI0.out.turn ht4 (by omega) (by omega)
    have hR4 : RPtr.Is w4 g h k 64 (l.map (·.1)) := by
      have := HI.out.own.ring
      rwa [show (cur c m l 0).map (·.1) = l.map (·.1) by simp [cur, takeF]] at this
    have hb4 : b + 1 + 1 + 1 + 1 ≤ w4.heap.size := lt_of_block HI.out.box8
    clear hk4 hw4 HI0 hb6 cq ht4 h8
    apply Rng.wp_range1 (gf := 45) (lb := #[.pointer (some ⟨b6, 0, none⟩)]) rfl (enters_of Try.func45 (by kernel_rfl) rfl) (RPtr.all_iter hx6 hR4) (fun _ => rfl)
      (I := fun j W => ∃ v, Tk B w q g h k b (b + 1 + 1 + 1 + 1) (cur c m l j) (lost.set c 0) c m z (takeF c m (l.take j)).1 v W) (Ix := fun _ _ => False)
      (hI := fun j W W' hi ht => by obtain ⟨v, hi⟩ := hi; exact ⟨v, hi.turn ht (by omega) (by omega)⟩) (hIx := fun _ _ _ h _ => h.elim) (h0 := ⟨_, HI.out⟩)
    case hassign =>
      intro y j W hj hi
      simp only [RPtr.elem, RPtr.encv]
      gi_wp2
      trivial
    case hbody =>
      rintro y j W hj ⟨v, hi⟩
      rw [List.length_map] at hj
      obtain ⟨x, hx⟩ : ∃ x, l[j]? = some x := ⟨_, List.getElem?_eq_getElem hj⟩
      obtain ⟨hxg, hst, hset⟩ := cur_get (c := c) (m := m) hx
      have hxm := List.mem_of_getElem? hxg
      have hxl := List.mem_of_getElem? hx
      rw [show RPtr.nth (l.map (·.1)) j = x.1 from RPtr.nth_at (by simp [hx])]
      obtain ⟨t, ht⟩ : ∃ t, x.2.u[c]? = some t := ⟨_, List.getElem?_eq_getElem (by rw [hi.own.wide x hxm]; exact hc8)⟩
      obtain ⟨x0, x1⟩ := cell_at (hi.own.item x hxm) (itA_get ht)
      obtain ⟨c4, _⟩ := cell_at hi.box4 (p := 0) rfl
      obtain ⟨c5, _⟩ := cell_at hi.box5 (p := 0) rfl
      obtain ⟨c8, f8⟩ := cell_at hi.box8 (p := 2) rfl
      obtain ⟨ad, cp, hv⟩ : ∃ ad cp, v = .slice ad (takeF c m (l.take j)).1.length cp := by
        rcases hi.row.2 with ⟨rfl, h0⟩ | ⟨g', cap, cur, rfl, e2, e3, e4⟩
        · exact ⟨none, 0, by rw [h0]⟩
        · exact ⟨_, _, rfl⟩
      obtain ⟨ev, hev⟩ : ∃ ev, ev = (takeF c m (l.take j)).1 := ⟨_, rfl⟩
      rw [← hev] at hv hi
      rw [tstep, ← hev] at hst
      subst hv
      have hd1 : decide (c < 8) = true := decide_eq_true hc8
      have hc8i : (c : Int) < 8 := by omega
      have HH := Go.Lib.hid hi
      have HST := Go.Lib.hid hst
      have HSET := Go.Lib.hid hset
      have HT := Go.Lib.hid ht
      have HXG := Go.Lib.hid hxg
      have hxb : x.1 < b := by have := HQL.out x hxl; omega
      clear hi hst hset hev ht hxg hx
      by_cases h1 : ev.length < m
      · have d1 : decide (ev.length < m) = true := decide_eq_true h1
        have d1' : decide ((ev.length : Int) < m) = true := decide_eq_true (by omega)
        by_cases h2 : 0 ≤ t
        · have d2 : decide (0 ≤ t) = true := decide_eq_true h2
          gi_wp2_with fail
          refine QRound.wpIn_region_quiet_r (by kernel_rfl) (by kernel_rfl) (by kernel_rfl) ?_
          repeat (gi_big_quiet_step (fail))
          refine wpQuietIn_nil ?_
          rintro _ ⟨nq, rfl⟩
          gi_upto_region 8 with fail
          have y0 : W.cell? ⟨x.1, 0, none⟩ = some (.int .i64 x.2.e.s) := (cell_at (HH.out.own.item x hxm) rfl).1
          have y1 : W.cell? ⟨x.1, 1, none⟩ = some (.int .i64 x.2.e.t) := (cell_at (HH.out.own.item x hxm) rfl).1
          have y2 : W.cell? ⟨x.1, 2, none⟩ = some (.int .i64 x.2.e.v0) := (cell_at (HH.out.own.item x hxm) rfl).1
          have y3 : W.cell? ⟨x.1, 3, none⟩ = some (.int .i64 x.2.e.v1) := (cell_at (HH.out.own.item x hxm) rfl).1
          have y4 : W.cell? ⟨x.1, 4, none⟩ = some (.int .i64 x.2.e.v2) := (cell_at (HH.out.own.item x hxm) rfl).1
          have y5 : W.cell? ⟨x.1, 5, none⟩ = some (.int .i64 x.2.e.v3) := (cell_at (HH.out.own.item x hxm) rfl).1
          obtain ⟨v', w', hr, hTk, hHold, f0, hx8⟩ := HH.out.snoc (by omega) hbw ⟨by omega, by omega, by omega, by omega, fun p hp => by
            have : p.1 ∈ (cur c m l j).map (·.1) := List.mem_map_of_mem hp
            rw [cur_ids] at this
            obtain ⟨p', hp', e⟩ := List.mem_map.1 this
            have := HQL.out p' hp'
            omega⟩ x.2.e (nq + 1)
          simp only [evs] at hr
          obtain ⟨z8, z9⟩ := cell_at hx8 (p := 2) rfl
          obtain ⟨ad', n', cp', rfl⟩ : ∃ ad n cp, v' = .slice ad n cp := by
            rcases hTk.row.2 with ⟨rfl, _⟩ | ⟨g', cap, cur, rfl, e2, e3, e4⟩
            · exact ⟨_, _, _, rfl⟩
            · exact ⟨_, _, _, rfl⟩
          have k8 : ((W.drewN (nq + 1)).alloc (.cells #[.int .i64 x.2.e.s, .int .i64 x.2.e.t, .int .i64 x.2.e.v0, .int .i64 x.2.e.v1, .int .i64 x.2.e.v2, .int .i64 x.2.e.v3] 31)).cell? ⟨b + 1 + 1 + 1, 2, none⟩ = some (.slice ad ev.length cp) :=
            (cell_at ((((Keeps.refl [] W).drewN (nq + 1)).alloc (.cells #[.int .i64 x.2.e.s, .int .i64 x.2.e.t, .int .i64 x.2.e.v0, .int .i64 x.2.e.v1, .int .i64 x.2.e.v2, .int .i64 x.2.e.v3] 31)).heap HH.out.box8 (by simp)) (p := 2) rfl).1
          have HTK := Go.Lib.hid hTk
          have HHO := Go.Lib.hid hHold
          clear hTk hHold hx8
          apply wpIn_to
          case h =>
            refine wpIn_region_any (by kernel_rfl) (RTail.wpAnyIn_of_wpAny ?_ ?_ _ _ _ _ ?_)
            · exact RTail.no_defer (by kernel_rfl)
            · rintro ⟨_, _, hh⟩
              exact absurd hh.1 (by simp)
            change wpAny _ _ _ _ _ _ _ (World.drew _)
            refine wpAny_take (i := 0) (v := ?_) rfl (by kernel_rfl) (by kernel_rfl) (by kernel_rfl) (fun _ _ _ h => absurd h.1 (by simp)) (Or.inl ⟨by rfl, ?_⟩) ?_
            rotate_left
            · intro w
              go_simp <;> with_reducible rfl
            refine wpAny_take (i := 2) (v := ?_) rfl (by kernel_rfl) (by kernel_rfl) (by kernel_rfl) (fun _ _ _ h => absurd h.1 (by simp)) (Or.inl ⟨by rfl, ?_⟩) ?_
            rotate_left
            · intro w
              go_simp <;> with_reducible rfl
            refine wpAny_take (i := 3) (v := ?_) rfl (by kernel_rfl) (by kernel_rfl) (by kernel_rfl) (fun _ _ _ h => absurd h.1 (by simp)) (Or.inl ⟨by rfl, ?_⟩) ?_
            rotate_left
            · intro w
              go_simp <;> with_reducible rfl
            refine wpAny_take (i := 4) (v := ?_) rfl (by kernel_rfl) (by kernel_rfl) (by kernel_rfl) (fun _ _ _ h => absurd h.1 (by simp)) (Or.inl ⟨by rfl, ?_⟩) ?_
            rotate_left
            · intro w
              go_simp <;> with_reducible rfl
            refine wpAny_ready (rs := [1, 5]) (by kernel_rfl) (by simp) ?_
            refine AllReady.cons rfl (fun K hK => ?_) ?_
            · go_simp
              refine hK _ _ ?_
              clear hK K
              refine wpAny_ready (rs := [5]) (by kernel_rfl) (by simp) ?_
              refine AllReady.cons rfl (fun K hK => ?_) ?_
              · go_simp
                refine hK _ _ ?_
                clear hK K
                refine wpAny_ready (rs := [6]) (by kernel_rfl) (by simp) ?_
                refine AllReady.cons rfl (fun K hK => ?_) ?_
                · go_simp
                  refine hK _ _ ?_
                  clear hK K
                  refine wpAny_ready (rs := [7]) (by kernel_rfl) (by simp) ?_
                  refine AllReady.cons rfl (fun K hK => ?_) ?_
                  · rw [if_pos (by rfl)]
                    refine append64 rfl rfl hr ?_
                    refine hK _ _ ?_
                    clear hK K
                    refine wpAny_ready (rs := [8]) (by kernel_rfl) (by simp) ?_
                    refine AllReady.cons rfl (fun K hK => ?_) ?_
                    · go_simp
                      refine hK _ _ ?_
                      clear hK K
                      refine wpAny_ready (rs := [9]) (by kernel_rfl) (by simp) ?_
                      refine AllReady.cons rfl (fun K hK => ?_) ?_
                      · go_simp
                        refine hK _ _ ?_
                        clear hK K
                        refine wpAny_done (by kernel_rfl) ?_ _
                        exact ⟨rfl, rfl, rfl⟩
                      exact AllReady.nil
                    exact AllReady.nil
                  exact AllReady.nil
                exact AllReady.nil
              exact AllReady.nil
            refine AllReady.cons rfl (fun K hK => ?_) ?_
            · go_simp
              refine hK _ _ ?_
              clear hK K
              refine wpAny_ready (rs := [1, 6]) (by kernel_rfl) (by simp) ?_
              refine AllReady.cons rfl (fun K hK => ?_) ?_
              · go_simp
                refine hK _ _ ?_
                clear hK K
                refine wpAny_ready (rs := [6]) (by kernel_rfl) (by simp) ?_
                refine AllReady.cons rfl (fun K hK => ?_) ?_
                · go_simp
                  refine hK _ _ ?_
                  clear hK K
                  refine wpAny_ready (rs := [7]) (by kernel_rfl) (by simp) ?_
                  refine AllReady.cons rfl (fun K hK => ?_) ?_
                  · rw [if_pos (by rfl)]
                    refine append64 rfl rfl hr ?_
                    refine hK _ _ ?_
                    clear hK K
                    refine wpAny_ready (rs := [8]) (by kernel_rfl) (by simp) ?_
                    refine AllReady.cons rfl (fun K hK => ?_) ?_
                    · go_simp
                      refine hK _ _ ?_
                      clear hK K
                      refine wpAny_ready (rs := [9]) (by kernel_rfl) (by simp) ?_
                      refine AllReady.cons rfl (fun K hK => ?_) ?_
                      · go_simp
                        refine hK _ _ ?_
                        clear hK K
                        refine wpAny_done (by kernel_rfl) ?_ _
                        exact ⟨rfl, rfl, rfl⟩
                      exact AllReady.nil
                    exact AllReady.nil
                  exact AllReady.nil
                exact AllReady.nil
              refine AllReady.cons rfl (fun K hK => ?_) ?_
              · go_simp
                refine hK _ _ ?_
                clear hK K
                refine wpAny_ready (rs := [1]) (by kernel_rfl) (by simp) ?_
                refine AllReady.cons rfl (fun K hK => ?_) ?_
                · go_simp
                  refine hK _ _ ?_
                  clear hK K
                  refine wpAny_ready (rs := [7]) (by kernel_rfl) (by simp) ?_
                  refine AllReady.cons rfl (fun K hK => ?_) ?_
                  · rw [if_pos (by rfl)]
                    refine append64 rfl rfl hr ?_
                    refine hK _ _ ?_
                    clear hK K
                    refine wpAny_ready (rs := [8]) (by kernel_rfl) (by simp) ?_
                    refine AllReady.cons rfl (fun K hK => ?_) ?_
                    · go_simp
                      refine hK _ _ ?_
                      clear hK K
                      refine wpAny_ready (rs := [9]) (by kernel_rfl) (by simp) ?_
                      refine AllReady.cons rfl (fun K hK => ?_) ?_
                      · go_simp
                        refine hK _ _ ?_
                        clear hK K
                        refine wpAny_done (by kernel_rfl) ?_ _
                        exact ⟨rfl, rfl, rfl⟩
                      exact AllReady.nil
                    exact AllReady.nil
                  exact AllReady.nil
                exact AllReady.nil
              exact AllReady.nil
            exact AllReady.nil
          case hq =>
            clear hr z8 z9 k8 y0 y1 y2 y3 y4 y5 x0 x1 c4 c5 c8 f8
            obtain ⟨W1, hW1⟩ : ∃ W1, W1 = w'.setCell ⟨b + 1 + 1 + 1, 2, none⟩ (.slice ad' n' cp') := ⟨_, rfl⟩
            rw [← hW1] at HTK HHO ⊢
            have hxg := HXG.out
            obtain ⟨x0, x1⟩ := cell_at (HTK.out.own.item x hxm) (itA_get HT.out)
            obtain ⟨c4, _⟩ := cell_at HTK.out.box4 (p := 0) rfl
            have HN : Hid (∀ n, ∃ v, Tk B w q g h k b (b + 1 + 1 + 1 + 1) (cur c m l (j + 1)) (lost.set c 0) c m z (takeF c m (l.take (j + 1))).1 v ((W1.drewN n).setCell ⟨x.1, 6 + c, none⟩ (.int .i64 (-1)))) := fun n => by
              have hst := HST.out
              rw [if_pos ⟨h1, by rw [List.getD_eq_getElem?_getD, HT.out]; exact h2⟩] at hst
              have hcur := HSET.out (unw c x) (by rw [hst])
              rw [hst, hcur]
              exact ⟨_, (HTK.out.drewN n).unwait hxg c (hxb)⟩
            have HH2 : Hid (∀ n, Rng.Hold w4.heap.size W ((W1.drewN n).setCell ⟨x.1, 6 + c, none⟩ (.int .i64 (-1)))) := fun n => by
              refine (HHO.out w4.heap.size hb4).trans (Rng.Hold.of_keeps (((Keeps.refl [x.1] W1).drewN n).setCell (by simp) _) (fun z hz => ?_))
              obtain rfl : z = x.1 := by simpa using hz
              omega
            clear hW1 HTK HHO hxg
            gi_upto_region 9 with fail
            refine RTail.wpIn_region_dtail_r 5 (by kernel_rfl) (by kernel_rfl) (by kernel_rfl) ?_ ?_
            · rintro ⟨_, _, hh⟩
              exact hh
            simp only [List.take_succ_cons, List.take_zero, List.drop_succ_cons, List.drop_zero]
            repeat (go_big_quiet_step (fail))
            refine wpQuiet_nil ?_
            rintro _ ⟨n1, rfl⟩
            go_wp2_with fail
            gi_wp2
            exact ⟨HH2.out n1, HN.out n1⟩
        · have d2 : decide (0 ≤ t) = false := decide_eq_false h2
          have hno : Hid (∀ n, ∃ v, Tk B w q g h k b (b + 1 + 1 + 1 + 1) (cur c m l (j + 1)) (lost.set c 0) c m z (takeF c m (l.take (j + 1))).1 v (W.drewN n)) := fun n => by
            have hst := HST.out
            rw [if_neg (by rw [List.getD_eq_getElem?_getD, HT.out]; rintro ⟨a1, a2⟩; exact h2 a2)] at hst
            have hcur := HSET.out x (by rw [hst])
            rw [hst, hcur, set_same HXG.out]
            exact ⟨_, HH.out.drewN n⟩
          have HN := hno
          clear hno
          have HH2 : Hid (∀ n, Rng.Hold w4.heap.size W (W.drewN n)) := fun n => Rng.Hold.of_keeps ((Keeps.refl [] W).drewN n) (by simp)
          gi_wp2_with fail
          refine QRound.wpIn_region_quiet_r (by kernel_rfl) (by kernel_rfl) (by kernel_rfl) ?_
          repeat (gi_big_quiet_step (fail))
          refine wpQuietIn_nil ?_
          rintro _ ⟨nq, rfl⟩
          gi_wp2
          exact ⟨HH2.out nq, HN.out nq⟩
      · have d1 : decide (ev.length < m) = false := decide_eq_false h1
        have d1' : decide ((ev.length : Int) < m) = false := decide_eq_false (by omega)
        have hno : Hid (∀ n, ∃ v, Tk B w q g h k b (b + 1 + 1 + 1 + 1) (cur c m l (j + 1)) (lost.set c 0) c m z (takeF c m (l.take (j + 1))).1 v (W.drewN n)) := fun n => by
          have hst := HST.out
          rw [if_neg (by rw [List.getD_eq_getElem?_getD, HT.out]; rintro ⟨a1, a2⟩; exact h1 a1)] at hst
          have hcur := HSET.out x (by rw [hst])
          rw [hst, hcur, set_same HXG.out]
          exact ⟨_, HH.out.drewN n⟩
        have HN := hno
        clear hno
        have HH2 : Hid (∀ n, Rng.Hold w4.heap.size W (W.drewN n)) := fun n => Rng.Hold.of_keeps ((Keeps.refl [] W).drewN n) (by simp)
        gi_wp2_with fail
        refine QRound.wpIn_region_quiet_r (by kernel_rfl) (by kernel_rfl) (by kernel_rfl) ?_
        repeat (gi_big_quiet_step (fail))
        refine wpQuietIn_nil ?_
        rintro _ ⟨nq, rfl⟩
        gi_wp2
        exact ⟨HH2.out nq, HN.out nq⟩
    case hdone =>
      rintro D W hD ⟨v, hi⟩ hK
      rw [List.length_map, cur, List.take_of_length_le (Nat.le_refl _), List.drop_of_length_le (Nat.le_refl _), List.append_nil] at hi
      obtain ⟨ad, n', cp, rfl⟩ : ∃ ad n cp, v = .slice ad n cp := by
        rcases hi.row.2 with ⟨rfl, _⟩ | ⟨g', cap, cur, rfl, e2, e3, e4⟩
        · exact ⟨_, _, _, rfl⟩
        · exact ⟨_, _, _, rfl⟩
      have HH := Go.Lib.hid hi
      have HK := Go.Lib.hid hK
      clear hi hK
      go_wp2_with fail
      refine (sweep ⟨g, h, k, HH.out.own⟩).mono ?_
      rintro e w5 ⟨⟨v, rfl⟩, hq5, hb5⟩
      have k8 := hb5.keep _ _ HH.out.box8 (.inr rfl)
      have k6 := hb5.keep _ _ HH.out.box6 (.inr rfl)
      have hD5 := hb5.keep D _ HK.out (.inr rfl)
      have hrow : w5.ownsRow (b + 1 + 1 + 1 + 1) 31 6 (.slice ad n' cp) (takeF c m l).1.length ((takeF c m l).1.flatMap evs) := by
        refine ⟨HH.out.row.1, ?_⟩
        rcases HH.out.row.2 with h6 | ⟨g', cap, cur, e1, e2, e3, e4⟩
        · exact .inl h6
        · exact .inr ⟨g', cap, cur, e1, e2, hb5.keep _ _ e3 (.inr rfl), e4⟩
      obtain ⟨t0, _⟩ := cell_at k8 (p := 0) rfl
      obtain ⟨t1, _⟩ := cell_at k8 (p := 1) rfl
      obtain ⟨t2, _⟩ := cell_at k8 (p := 2) rfl
      obtain ⟨r0, r0'⟩ := cell_at k6 (p := 0) rfl
      obtain ⟨r1, r1'⟩ := cell_at k6 (p := 1) rfl
      obtain ⟨r2, r2'⟩ := cell_at k6 (p := 2) rfl
      have HB5 := Go.Lib.hid (HH.out.bk.trans hb5)
      have HQ5 := Go.Lib.hid hq5
      have HROW := Go.Lib.hid hrow
      have HD5 := Go.Lib.hid hD5
      have HK6 := Go.Lib.hid k6
      clear hb5 hq5 hrow hD5 k8 k6
      go_wp2_with fail
      obtain ⟨W6, hW6⟩ : ∃ W6, W6 = (((w5.setCell ⟨b + 1 + 1, 0, none⟩ (.int .i64 c)).setCell ⟨b + 1 + 1, 1, none⟩ (.int .i64 z)).setCell ⟨b + 1 + 1, 2, none⟩ (.slice ad n' cp)) := ⟨_, rfl⟩
      rw [← hW6]
      have hk : Keeps [b + 1 + 1] w5 W6 := by rw [hW6]; exact (((Keeps.refl _ _).setCell (by simp) _).setCell (by simp) _).setCell (by simp) _
      have hx6 : W6.heap[b + 1 + 1]? = some (.cells #[.int .i64 c, .int .i64 z, .slice ad n' cp] 40 (0, 0)) := by
        have s1 := heap_setCell_self (off := 0) (v := .int .i64 c) HK6.out
        have s2 := heap_setCell_self (off := 1) (v := .int .i64 z) s1
        have s3 := heap_setCell_self (off := 2) (v := .slice ad n' cp) s2
        rw [hW6, s3]
        simp
      have hDm := hk.heap HD5.out (by simp; omega)
      refine ⟨by simp, .inl ⟨_, _, rfl, run_takeDeferred hDm, ?_⟩⟩
      have u0 := Rng.cell_putObj (cell_at hx6 (p := 0) rfl).1 (D := D) (by simp; omega) (.deferred none)
      have u1 := Rng.cell_putObj (cell_at hx6 (p := 1) rfl).1 (D := D) (by simp; omega) (.deferred none)
      have u2 := Rng.cell_putObj (cell_at hx6 (p := 2) rfl).1 (D := D) (by simp; omega) (.deferred none)
      obtain ⟨g1, h1, k1, hq1⟩ := HQ5.out
      have hq6 : QIs B W6 q (sweepL (takeF c m l).2) (lost.set c 0) := ⟨g1, h1, k1, hq1.apart HK6.out (by decide) hk⟩
      have hb6 : BK B w W6 := by rw [hW6]; exact ((HB5.out.setNew (by simp; omega) _).setNew (by simp; omega) _).setNew (by simp; omega) _
      refine ⟨.tuple #[.agg #[.int .i64 c, .int .i64 z, .slice ad n' cp], .int .i64 0], ?_, _, rfl, ?_, hq6.spin hDm, hb6.putNew (by omega) _⟩
      · simp [results, Try.f13, go_sem, u0, u1, u2]
      · refine ⟨HROW.out.1, ?_⟩
        rcases HROW.out.2 with h6 | ⟨g', cap, cur, e1, e2, e3, e4⟩
        · exact .inl h6
        · have e5 := hk.heap e3 (by simp; omega)
          refine .inr ⟨g', cap, cur, e1, by omega, ?_, e4⟩
          rw [World.putObj_heap_other (block_ne e5 hDm (by simp))]
          exact e5
    case hstop =>
      rintro D c' W hD hi hK
      exact hi.elim
end Go.Proofs.Ytldnnkceeeinlaa
