/- The reference's 'Take'. No condition but the queue's own and the call's bounds. -/
import Derived.Test.YtldnnkceeeinlaaBRefF
import Derived.RegionTactic
namespace Go.Proofs.Ytldnnkceeeinlaa
open Go.RowKit

def mstep (c k : Nat) (s : List Ev × List It) (x : It) : List Ev × List It := if s.1.length < k ∧ 0 ≤ x.u.getD c (-1) then (s.1 ++ [x.e], s.2 ++ [⟨x.e, x.u.set c (-1)⟩]) else (s.1, s.2 ++ [x])
theorem takeM_snoc (c k : Nat) (m : List It) (x : It) : takeM c k (m ++ [x]) = mstep c k (takeM c k m) x := by simp [takeM, mstep]
theorem takeM_len (c k : Nat) (m : List It) : (takeM c k m).2.length = m.length := by
  rw [takeM_eq]
  have := congrArg List.length (takeR_es c m k)
  simpa using this
theorem mfold_full (c k : Nat) (l : List It) : ∀ s : List Ev × List It, k ≤ s.1.length → l.foldl (mstep c k) s = (s.1, s.2 ++ l) := by
  induction l with
  | nil => intro s _; simp
  | cons x l ih =>
    intro s h
    rw [List.foldl_cons, mstep, if_neg (fun hh => by omega), ih (s.1, s.2 ++ [x]) h]
    simp
theorem takeM_full (c k : Nat) (m : List It) (i : Nat) (h : k ≤ (takeM c k (m.take i)).1.length) : takeM c k m = ((takeM c k (m.take i)).1, (takeM c k (m.take i)).2 ++ m.drop i) := by
  have e : takeM c k m = (m.drop i).foldl (mstep c k) (takeM c k (m.take i)) := by
    show m.foldl (mstep c k) ([], []) = (m.drop i).foldl (mstep c k) ((m.take i).foldl (mstep c k) ([], []))
    rw [← List.foldl_append, List.take_append_drop]
  rw [e, mfold_full c k _ _ h]
def curM (c k : Nat) (m : List It) (i : Nat) : List It := (takeM c k (m.take i)).2 ++ m.drop i
theorem curM_len (c k : Nat) (m : List It) (i : Nat) : (curM c k m i).length = m.length := by
  rw [curM, List.length_append, takeM_len, List.length_take, List.length_drop]
  omega
theorem curM_get {c k : Nat} {m : List It} {i : Nat} {x : It} (hx : m[i]? = some x) : (curM c k m i)[i]? = some x ∧ takeM c k (m.take (i + 1)) = mstep c k (takeM c k (m.take i)) x ∧
    ∀ y, (takeM c k (m.take (i + 1))).2 = (takeM c k (m.take i)).2 ++ [y] → curM c k m (i + 1) = (curM c k m i).set i y := by
  have hj : i < m.length := (List.getElem?_eq_some_iff.1 hx).1
  have hd : m.drop i = x :: m.drop (i + 1) := by rw [List.drop_eq_getElem_cons hj, (List.getElem?_eq_some_iff.1 hx).2]
  have hlen : (takeM c k (m.take i)).2.length = i := by rw [takeM_len]; simp; omega
  refine ⟨?_, ?_, fun y hy => ?_⟩
  · rw [curM, hd, List.getElem?_append_right (by omega), hlen]
    simp
  · rw [List.take_add_one, hx]
    exact takeM_snoc c k _ x
  · rw [curM, hy, curM, hd]
    have := set_mid (takeM c k (m.take i)).2 x y (m.drop (i + 1))
    rw [hlen] at this
    rw [this]

theorem RK.setNew {B : Nat} {w W : World} (h : RK B w W) {p : Addr} (hp : w.heap.size ≤ p.block) (u : Value) : RK B w (W.setCell p u) :=
  ⟨h.os, h.tape, h.output, by rw [show (W.setCell p u).heap.size = W.heap.size by simp [World.setCell]]; exact h.size, fun k x hx hc => by
    have := lt_of_block hx
    rw [Below.heap_setCell _ _ _ _ (by omega)]
    exact h.keep k x hx hc⟩
theorem RK.grow {B : Nat} {w W W' : World} (h : RK B w W) {x : Option Nat} (hg : W.grownBy W' x) (hx : ∀ i, x = some i → w.heap.size ≤ i) : RK B w W' :=
  ⟨hg.os.trans h.os, hg.tape.trans h.tape, hg.output.trans h.output, Nat.le_trans h.size hg.size, fun k o ho hc => by
    have h1 := h.keep k o ho hc
    rw [hg.block k (lt_of_block h1) (fun e => by have := hx k e.symm; have := lt_of_block ho; omega)]
    exact h1⟩

theorem append6 {a : Go.Act} {w : World} {K : Go.Act → World → Prop} {Q : Exit → Go.Act → World → Prop} {v v' s : Value} {w' : World} {ty : TypeId} {pos : String} {af : Array Edge} (h1 : a.eval (.tmp 50) = v) (h2 : a.eval (.tmp 59) = s)
    (hr : (Builtin.append_ #[38, 38] ty #[v, s]).run Try.prog w = .ok v' w') (h : K (a.put (some 60) v') w') :
    Oper.wp Try.prog { dst := some 60, op := Op.call { callee := Callee.builtin Builtin.append, args := #[Operand.tmp 50, Operand.tmp 59], argTypes := #[38, 38] }, type := ty, pos := pos, after := af, guard := none } a w K Q := by
  unfold Oper.wp execOp
  simp only [resolve, invoke, builtin, Sem.run_bind, Sem.run_pure, Result.andThen_ok, List.map_toArray, List.map_cons, List.map_nil, h1, h2, hr]
  exact h

theorem row31_kept {B : Nat} {W W' : World} {v : Value} {n : Nat} {xs : List Value} (h : W.ownsRow B 31 6 v n xs) (hk : ∀ (i : Nat) (cs : Array Value) (fr : Nat × Nat), W.heap[i]? = some (.cells cs 31 fr) → W'.heap[i]? = some (.cells cs 31 fr)) : W'.ownsRow B 31 6 v n xs := by
  refine ⟨h.1, ?_⟩
  rcases h.2 with h6 | ⟨g', cap, cur, e1, e2, e3, e4⟩
  · exact .inl h6
  · exact .inr ⟨g', cap, cur, e1, e2, hk _ _ _ e3, e4⟩
/-- What the loop holds. -/
structure Rt (B : Nat) (W0 : World) (r : Nat) (v : Value) (b : Nat) (m : List It) (lost : List Int) (c : Nat) (z : Int) (ev : List Ev) (vE : Value) (W : World) : Prop where
  rq : RQ B W r v m lost
  rk : RK B W0 W
  box6 : W.heap[b]? = some (.cells #[.int .i64 0, .int .i64 0, .slice none 0 0] 40 (0, 0))
  box7 : W.heap[b + 1]? = some (.cells #[.int .i64 c, .int .i64 z, vE] 40 (0, 0))
  row : W.ownsRow W0.heap.size 31 6 vE ev.length (ev.flatMap evs)
theorem Rt.snoc {B : Nat} {W0 W : World} {r b : Nat} {v vE : Value} {m : List It} {lost : List Int} {c : Nat} {z : Int} {ev : List Ev} (hi : Rt B W0 r v b m lost c z ev vE W) (hn : ev.length ≤ 64) (hb : W0.heap.size ≤ b) (_ : r < W0.heap.size) (e : Ev) :
    ∃ v' w', (Builtin.append_ #[38, 38] 38 #[vE, .slice (some ⟨W.heap.size, 0, none⟩) 1 1]).run Try.prog (W.drew.alloc (.cells (evs e).toArray 31)) = .ok v' w' ∧
      Rt B W0 r v b m lost c z (ev ++ [e]) v' (w'.setCell ⟨b + 1, 2, none⟩ v') ∧ (∃ f0, w'.heap[b + 1]? = some (.cells #[.int .i64 c, .int .i64 z, f0] 40 (0, 0))) := by
  obtain ⟨i0, hi0, hz0, hz1, hz2⟩ := info31
  obtain ⟨Wd, hWd⟩ : ∃ Wd, Wd = W.drew.alloc (.cells (evs e).toArray 31) := ⟨_, rfl⟩
  rw [← hWd]
  have hkd : Keeps [] W Wd := by rw [hWd]; exact ((Keeps.refl _ _).drew).alloc _
  have hx : Wd.heap[W.heap.size]? = some (.cells (evs e).toArray 31 (0, 0)) := by rw [hWd]; exact heap_alloc_new W.drew _
  have hnews : ∀ j u, (evs e)[j]? = some u → Wd.cell? ((⟨W.heap.size, 0, none⟩ : Addr).add j) = some u := by
    intro j u hu
    rw [Addr.add_lit, Nat.zero_add]
    exact (cell_at hx (by simpa using hu)).1
  have hrow : Wd.ownsRow W0.heap.size 31 6 vE ev.length (ev.flatMap evs) := row31_kept hi.row (fun i cs fr h => hkd.heap h (by simp))
  obtain ⟨v', w', hrun, h2, h3, h4, h5⟩ := run_append_own_at (P := Try.prog) Wd W0.heap.size 38 38 31 i0 ev0 6 48 Try.underlying38 hi0 hz0 hz1 hz2 rfl (by omega) vE ev.length _ hrow ⟨W.heap.size, 0, none⟩ 1 1 (evs e) rfl hnews (evs_one e) (by unfold maxLen; omega) (by omega) (by have := hkd.size; have := hi.rk.size; omega)
  have hown : ∀ i, vE.ownBlock = some i → W0.heap.size ≤ i ∧ ∃ cs, Wd.heap[i]? = some (.cells cs 31 (0, 0)) := fun i hii => by
    rcases hrow.2 with ⟨rfl, _⟩ | ⟨g', cap, cur, rfl, e2, e3, e4⟩
    · simp [Value.ownBlock] at hii
    · obtain rfl : g' = i := by simpa [Value.ownBlock] using hii
      exact ⟨e2, _, e3⟩
  have hk : ∀ (i : Nat) (o : Obj), W.heap[i]? = some o → (∀ cs, o ≠ .cells cs 31 (0, 0)) → w'.heap[i]? = some o := fun i o ho hne => by
    have h1 := hkd.heap ho (by simp)
    rw [h3.block i (lt_of_block h1) (fun ee => ?_)]
    · exact h1
    · obtain ⟨_, cs, hc⟩ := hown i ee.symm
      rw [h1] at hc
      exact hne cs (Option.some.inj hc)
  have hq1 := hi.rq.keep (W' := w') (fun i o ho hf => hk i o ho (fun cs ee => by subst ee; simp [far] at hf))
  have hx7 := hk _ _ hi.box7 (by simp)
  have hx6 := hk _ _ hi.box6 (by simp)
  refine ⟨v', w', hrun, ⟨?_, ?_, ?_, ?_, ?_⟩, vE, hx7⟩
  · refine hq1.keep (fun i o ho hf => ?_)
    rw [Below.heap_setCell _ _ _ _ (fun ee => by subst ee; rw [hx7] at ho; obtain rfl := Option.some.inj ho; simp [far] at hf)]
    exact ho
  · exact ((hi.rk.trans (RK.new hkd)).grow h3 (fun i hii => (hown i hii).1)).setNew (by simp; omega) _
  · rw [Below.heap_setCell _ _ _ _ (by simp)]; exact hx6
  · rw [heap_setCell_self hx7]
    simp
  · rw [List.flatMap_append, List.length_append]
    refine ⟨by simpa using h2.1, ?_⟩
    rcases h2.2 with h6 | ⟨g', cap, cur, e1, e2, e3, e4⟩
    · simp at h6
    · exact .inr ⟨g', cap, cur, by simpa using e1, e2, (Below.heap_setCell _ _ _ _ (block_ne e3 hx7 (by simp))).trans e3, by simpa using e4⟩

set_option maxHeartbeats 3200000 in
set_option maxRecDepth 100000 in
theorem r_take {B r : Nat} {W : World} {m : List It} {lost : List Int} (h : RL B W r m lost) {c k : Nat} (hc8 : c < 8) (hk1 : 1 ≤ k) (hk5 : k ≤ 5) {z : Int} (hz : lost[c]? = some z) :
    Calls Try.prog 19 #[.pointer (some ⟨r, 0, none⟩), .int .i64 c, .int .i64 k] W fun e w' => ∃ v, e = .returned (.agg #[.int .i64 c, .int .i64 z, v]) ∧
      w'.ownsRow W.heap.size 31 6 v (takeM c k m).1.length ((takeM c k m).1.flatMap evs) ∧ RL B w' r (sweepM (takeM c k m).2) (lost.set c 0) ∧ RK B W w' := by
  obtain ⟨v, h⟩ := h
  obtain ⟨ad, cp, rfl⟩ := h.row.form
  have h64 := h.few
  have hc' : (c : Int) < 8 := by omega
  have hrW := lt_of_block h.own
  obtain ⟨l0, l1⟩ := cell_at h.own (rA_get (v := .slice ad m.length cp) hz)
  have HQ := Go.Lib.hid h
  have HZ := Go.Lib.hid hz
  clear h hz
  go_enter Try.func19, Try.ntmps19
  go_upto_region 2 with fail
  obtain ⟨b, hb⟩ : ∃ b, b = W.heap.size := ⟨_, rfl⟩
  obtain ⟨w1, hw1⟩ : ∃ w1, w1 = (W.alloc (.cells #[.int .i64 0, .int .i64 0, .slice none 0 0] 40)).alloc (.cells #[.int .i64 c, .int .i64 z, .slice none 0 0] 40) := ⟨_, rfl⟩
  rw [← hw1, ← hb]
  have hk1' : Keeps [] W w1 := by rw [hw1]; exact ((Keeps.refl _ _).alloc _).alloc _
  have x6 : w1.heap[b]? = some (.cells #[.int .i64 0, .int .i64 0, .slice none 0 0] 40 (0, 0)) := by rw [hw1, hb, Below.heap_alloc _ _ _ (by simp)]; exact heap_alloc_new _ _
  have x7 : w1.heap[b + 1]? = some (.cells #[.int .i64 c, .int .i64 z, .slice none 0 0] 40 (0, 0)) := by
    rw [hw1, hb]
    have := heap_alloc_new (W.alloc (.cells #[.int .i64 0, .int .i64 0, .slice none 0 0] 40)) (.cells #[.int .i64 c, .int .i64 z, .slice none 0 0] 40)
    rwa [World.size_alloc] at this
  have hq1 := HQ.out.keep (W' := w1) (fun i o ho _ => hk1'.heap ho (by simp))
  obtain ⟨p0, p1⟩ := cell_at hq1.own (rA_get (v := .slice ad m.length cp) HZ.out)
  have HT0 : Hid (Rt B W r (.slice ad m.length cp) b (curM c k m 0) (lost.set c 0) c z [] (.slice none 0 0) (w1.setCell ⟨r, 1 + c, none⟩ (.int .i64 0))) := by
    have hks : Keeps [r] w1 (w1.setCell ⟨r, 1 + c, none⟩ (.int .i64 0)) := (Keeps.refl _ _).setCell (by simp) _
    exact ⟨by rw [show curM c k m 0 = m by simp [curM, takeM]]; exact hq1.lose 0 c 0, (RK.new hk1').trans (hq1.loseRK 0 (1 + c) _), hks.heap x6 (by simp; omega), hks.heap x7 (by simp; omega), World.ownsRow_nil _ _ _ _⟩
  have hbW : W.heap.size ≤ b := by omega
  have hWD := Go.Lib.hid HQ.out.wide
  clear hw1 hk1' x6 x7 hq1 l0 l1 HQ HZ hb
  go_upto_region 3 with fail
  obtain ⟨w2, hw2⟩ : ∃ w2, w2 = w1.setCell ⟨r, 1 + c, none⟩ (.int .i64 0) := ⟨_, rfl⟩
  rw [← hw2] at HT0 ⊢
  clear hw2 p0 p1
  go_upto_region 4 with fail
  go_loopw [8] (fun si wr => ∃ (i : Nat) (vE : Value), si = .int .i64 i ∧ i ≤ m.length ∧ Hid (Rt B W r (.slice ad m.length cp) b (curM c k m i) (lost.set c 0) c z (takeM c k (m.take i)).1 vE wr)) (fun si _ => m.length - (intOf si).toNat)
  case atStart => exact ⟨0, _, rfl, by omega, HT0⟩
  case round =>
    clear HT0
    obtain ⟨i, vE, rfl, hi, HT⟩ := hrel
    obtain ⟨c0, _⟩ := cell_at HT.out.rq.own (rA_zero _ (lost.set c 0))
    obtain ⟨ev, hev⟩ : ∃ ev, ev = (takeM c k (m.take i)).1 := ⟨_, rfl⟩
    rw [← hev] at HT
    obtain ⟨aE, cE, rfl⟩ := row_len HT.out.row rfl
    have k7 : wr.cell? ⟨b + 1, 2, none⟩ = some (.slice aE ev.length cE) := (cell_at HT.out.box7 (p := 2) rfl).1
    have hev64 : ev.length ≤ 64 := by
      have h1 := congrArg List.length (takeR_evs c (m.take i) k)
      rw [← takeM_eq, ← hev, List.length_map, List.length_take] at h1
      omega
    have fin : ∀ (hst : ¬ (i < m.length) ∨ ¬ (ev.length < k)), takeM c k m = (ev, curM c k m i) := fun hst => by
      by_cases h1 : i < m.length
      · have := takeM_full c k m i (by rw [← hev]; rcases hst with h | h <;> omega)
        rw [this, ← hev]; rfl
      · have e : m.take i = m := List.take_of_length_le (by omega)
        have e2 : curM c k m i = (takeM c k m).2 := by rw [curM, e, List.drop_of_length_le (by omega), List.append_nil]
        rw [e] at hev
        rw [e2, hev]
    have HFIN := Go.Lib.hid fin
    have HEV := Go.Lib.hid hev
    clear fin
    by_cases hlt : i < m.length
    · have d1 : decide (i < m.length) = true := decide_eq_true hlt
      by_cases hek : ev.length < k
      · have d2 : decide (ev.length < k) = true := decide_eq_true hek
        obtain ⟨x, hx⟩ : ∃ x, m[i]? = some x := ⟨_, List.getElem?_eq_getElem hlt⟩
        obtain ⟨hxg, hst, hset⟩ := curM_get (c := c) (k := k) hx
        rw [mstep, ← hev] at hst
        clear hev
        obtain ⟨t, ht⟩ : ∃ t, x.u[c]? = some t := ⟨_, List.getElem?_eq_getElem (by rw [hWD.out x (List.mem_of_getElem? hx)]; exact hc8)⟩
        have htd : x.u.getD c (-1) = t := by rw [List.getD_eq_getElem?_getD, ht]; rfl
        rw [htd] at hst
        obtain ⟨g, o, rfl, _, _, hrow⟩ := HT.out.rq.row.at (by rw [curM_len]; omega)
        obtain ⟨y6, f6⟩ := hrow.line hxg ht
        have y0 : wr.cell? ⟨g, o + i * 14, none⟩ = some (.int .i64 x.e.s) := (hrow.cell hxg (j := 0) rfl).1
        have y1 : wr.cell? ⟨g, o + i * 14 + 1, none⟩ = some (.int .i64 x.e.t) := (hrow.cell hxg (j := 1) rfl).1
        have y2 : wr.cell? ⟨g, o + i * 14 + 2, none⟩ = some (.int .i64 x.e.v0) := (hrow.cell hxg (j := 2) rfl).1
        have y3 : wr.cell? ⟨g, o + i * 14 + 3, none⟩ = some (.int .i64 x.e.v1) := (hrow.cell hxg (j := 3) rfl).1
        have y4 : wr.cell? ⟨g, o + i * 14 + 4, none⟩ = some (.int .i64 x.e.v2) := (hrow.cell hxg (j := 4) rfl).1
        have y5 : wr.cell? ⟨g, o + i * 14 + 5, none⟩ = some (.int .i64 x.e.v3) := (hrow.cell hxg (j := 5) rfl).1
        have HX := Go.Lib.hid hxg
        have HTT := Go.Lib.hid ht
        by_cases h0 : 0 ≤ t
        · have d3 : decide (0 ≤ t) = true := decide_eq_true h0
          rw [if_pos ⟨hek, h0⟩] at hst
          have HST := Go.Lib.hid hst
          have HSE := Go.Lib.hid (hset (unM c x) (by rw [hst]; rfl))
          obtain ⟨v', w', hr, hTk, f0, hx8⟩ := HT.out.snoc hev64 hbW hrW x.e
          simp only [evs] at hr
          obtain ⟨aN, nN, cN, rfl⟩ : ∃ ad n cp, v' = .slice ad n cp := by
            rcases hTk.row.2 with ⟨rfl, _⟩ | ⟨g', cap, cur, rfl, e2, e3, e4⟩
            · exact ⟨_, _, _, rfl⟩
            · exact ⟨_, _, _, rfl⟩
          have k8 : (wr.drew.alloc (.cells #[.int .i64 x.e.s, .int .i64 x.e.t, .int .i64 x.e.v0, .int .i64 x.e.v1, .int .i64 x.e.v2, .int .i64 x.e.v3] 31)).cell? ⟨b + 1, 2, none⟩ = some (.slice aE ev.length cE) :=
            (cell_at ((((Keeps.refl [] wr).drew).alloc (.cells #[.int .i64 x.e.s, .int .i64 x.e.t, .int .i64 x.e.v0, .int .i64 x.e.v1, .int .i64 x.e.v2, .int .i64 x.e.v3] 31)).heap HT.out.box7 (by simp)) (p := 2) rfl).1
          have k9 : (wr.alloc (.cells #[.int .i64 x.e.s, .int .i64 x.e.t, .int .i64 x.e.v0, .int .i64 x.e.v1, .int .i64 x.e.v2, .int .i64 x.e.v3] 31)).cell? ⟨b + 1, 2, none⟩ = some (.slice aE ev.length cE) := k8
          obtain ⟨z8, z9⟩ := cell_at hx8 (p := 2) rfl
          have HTK := Go.Lib.hid hTk
          clear hTk hx8 hset hst hx hxg ht htd hrow
          go_upto_region 7 with fail
          apply wp_to
          case h =>
            refine wp_region_any (by kernel_rfl) ?_
            change wpAny _ _ _ _ _ _ _ (World.drew _)
            refine wpAny_take (i := 0) (v := ?_) rfl (by kernel_rfl) (by kernel_rfl) (by kernel_rfl) (fun _ _ _ h => absurd h.1 (by simp)) (Or.inl ⟨by rfl, ?_⟩) ?_
            rotate_left
            · intro w
              go_simp <;> with_reducible rfl
            refine wpAny_take (i := 2) (v := ?_) rfl (by kernel_rfl) (by kernel_rfl) (by kernel_rfl) (fun _ _ _ h => absurd h.1 (by simp)) (Or.inl ⟨by rfl, ?_⟩) ?_
            rotate_left
            · intro w
              go_simp <;> with_reducible rfl
            refine wpAny_take (i := 3) (v := ?_) rfl (by kernel_rfl) (by kernel_rfl) (by kernel_rfl) (fun _ _ _ h => absurd h.1 (by simp)) (Or.inl ⟨by rfl, ?_⟩) ?_
            rotate_left
            · intro w
              go_simp <;> with_reducible rfl
            refine wpAny_take (i := 4) (v := ?_) rfl (by kernel_rfl) (by kernel_rfl) (by kernel_rfl) (fun _ _ _ h => absurd h.1 (by simp)) (Or.inl ⟨by rfl, ?_⟩) ?_
            rotate_left
            · intro w
              go_simp <;> with_reducible rfl
            refine wpAny_take (i := 6) (v := ?_) rfl (by kernel_rfl) (by kernel_rfl) (by kernel_rfl) (fun _ _ _ h => absurd h.1 (by simp)) (Or.inl ⟨by rfl, ?_⟩) ?_
            rotate_left
            · intro w
              go_simp <;> with_reducible rfl
            refine wpAny_ready (rs := [1, 5]) (by kernel_rfl) (by simp) ?_
            refine AllReady.cons rfl (fun K hK => ?_) ?_
            · go_simp
              refine hK _ _ ?_
              clear hK K
              refine wpAny_ready (rs := [5]) (by kernel_rfl) (by simp) ?_
              refine AllReady.cons rfl (fun K hK => ?_) ?_
              · go_simp
                refine hK _ _ ?_
                clear hK K
                refine wpAny_take (i := 7) (v := ?_) rfl (by kernel_rfl) (by kernel_rfl) (by kernel_rfl) (fun _ _ _ h => absurd h.1 (by simp)) (Or.inl ⟨by rfl, ?_⟩) ?_
                rotate_left
                · intro w
                  go_simp <;> with_reducible rfl
                refine wpAny_take (i := 8) (v := ?_) rfl (by kernel_rfl) (by kernel_rfl) (by kernel_rfl) (fun _ _ _ h => absurd h.1 (by simp)) (Or.inl ⟨by rfl, ?_⟩) ?_
                rotate_left
                · intro w
                  go_simp <;> with_reducible rfl
                refine wpAny_ready (rs := [9]) (by kernel_rfl) (by simp) ?_
                refine AllReady.cons rfl (fun K hK => ?_) ?_
                · go_simp
                  refine hK _ _ ?_
                  clear hK K
                  refine wpAny_ready (rs := [10]) (by kernel_rfl) (by simp) ?_
                  refine AllReady.cons rfl (fun K hK => ?_) ?_
                  · go_simp
                    refine hK _ _ ?_
                    clear hK K
                    refine wpAny_ready (rs := [11]) (by kernel_rfl) (by simp) ?_
                    refine AllReady.cons rfl (fun K hK => ?_) ?_
                    · rw [if_pos (by rfl)]
                      refine append6 rfl rfl hr ?_
                      refine hK _ _ ?_
                      clear hK K
                      refine wpAny_take (i := 12) (v := ?_) rfl (by kernel_rfl) (by kernel_rfl) (by kernel_rfl) (fun _ _ _ h => absurd h.1 (by simp)) (Or.inl ⟨by rfl, ?_⟩) ?_
                      rotate_left
                      · intro w
                        go_simp <;> with_reducible rfl
                      refine wpAny_ready (rs := [13]) (by kernel_rfl) (by simp) ?_
                      refine AllReady.cons rfl (fun K hK => ?_) ?_
                      · go_simp
                        refine hK _ _ ?_
                        clear hK K
                        refine wpAny_done (by kernel_rfl) ?_ _
                        exact ⟨rfl, rfl, rfl⟩
                      exact AllReady.nil
                    exact AllReady.nil
                  exact AllReady.nil
                exact AllReady.nil
              exact AllReady.nil
            refine AllReady.cons rfl (fun K hK => ?_) ?_
            · go_simp
              refine hK _ _ ?_
              clear hK K
              refine wpAny_take (i := 7) (v := ?_) rfl (by kernel_rfl) (by kernel_rfl) (by kernel_rfl) (fun _ _ _ h => absurd h.1 (by simp)) (Or.inl ⟨by rfl, ?_⟩) ?_
              rotate_left
              · intro w
                go_simp <;> with_reducible rfl
              refine wpAny_take (i := 8) (v := ?_) rfl (by kernel_rfl) (by kernel_rfl) (by kernel_rfl) (fun _ _ _ h => absurd h.1 (by simp)) (Or.inl ⟨by rfl, ?_⟩) ?_
              rotate_left
              · intro w
                go_simp <;> with_reducible rfl
              refine wpAny_ready (rs := [1, 9]) (by kernel_rfl) (by simp) ?_
              refine AllReady.cons rfl (fun K hK => ?_) ?_
              · go_simp
                refine hK _ _ ?_
                clear hK K
                refine wpAny_ready (rs := [9]) (by kernel_rfl) (by simp) ?_
                refine AllReady.cons rfl (fun K hK => ?_) ?_
                · go_simp
                  refine hK _ _ ?_
                  clear hK K
                  refine wpAny_ready (rs := [10]) (by kernel_rfl) (by simp) ?_
                  refine AllReady.cons rfl (fun K hK => ?_) ?_
                  · go_simp
                    refine hK _ _ ?_
                    clear hK K
                    refine wpAny_ready (rs := [11]) (by kernel_rfl) (by simp) ?_
                    refine AllReady.cons rfl (fun K hK => ?_) ?_
                    · rw [if_pos (by rfl)]
                      refine append6 rfl rfl hr ?_
                      refine hK _ _ ?_
                      clear hK K
                      refine wpAny_take (i := 12) (v := ?_) rfl (by kernel_rfl) (by kernel_rfl) (by kernel_rfl) (fun _ _ _ h => absurd h.1 (by simp)) (Or.inl ⟨by rfl, ?_⟩) ?_
                      rotate_left
                      · intro w
                        go_simp <;> with_reducible rfl
                      refine wpAny_ready (rs := [13]) (by kernel_rfl) (by simp) ?_
                      refine AllReady.cons rfl (fun K hK => ?_) ?_
                      · go_simp
                        refine hK _ _ ?_
                        clear hK K
                        refine wpAny_done (by kernel_rfl) ?_ _
                        exact ⟨rfl, rfl, rfl⟩
                      exact AllReady.nil
                    exact AllReady.nil
                  exact AllReady.nil
                exact AllReady.nil
              refine AllReady.cons rfl (fun K hK => ?_) ?_
              · go_simp
                refine hK _ _ ?_
                clear hK K
                refine wpAny_ready (rs := [1, 10]) (by kernel_rfl) (by simp) ?_
                refine AllReady.cons rfl (fun K hK => ?_) ?_
                · go_simp
                  refine hK _ _ ?_
                  clear hK K
                  refine wpAny_ready (rs := [10]) (by kernel_rfl) (by simp) ?_
                  refine AllReady.cons rfl (fun K hK => ?_) ?_
                  · go_simp
                    refine hK _ _ ?_
                    clear hK K
                    refine wpAny_ready (rs := [11]) (by kernel_rfl) (by simp) ?_
                    refine AllReady.cons rfl (fun K hK => ?_) ?_
                    · rw [if_pos (by rfl)]
                      refine append6 rfl rfl hr ?_
                      refine hK _ _ ?_
                      clear hK K
                      refine wpAny_take (i := 12) (v := ?_) rfl (by kernel_rfl) (by kernel_rfl) (by kernel_rfl) (fun _ _ _ h => absurd h.1 (by simp)) (Or.inl ⟨by rfl, ?_⟩) ?_
                      rotate_left
                      · intro w
                        go_simp <;> with_reducible rfl
                      refine wpAny_ready (rs := [13]) (by kernel_rfl) (by simp) ?_
                      refine AllReady.cons rfl (fun K hK => ?_) ?_
                      · go_simp
                        refine hK _ _ ?_
                        clear hK K
                        refine wpAny_done (by kernel_rfl) ?_ _
                        exact ⟨rfl, rfl, rfl⟩
                      exact AllReady.nil
                    exact AllReady.nil
                  exact AllReady.nil
                refine AllReady.cons rfl (fun K hK => ?_) ?_
                · go_simp
                  refine hK _ _ ?_
                  clear hK K
                  refine wpAny_ready (rs := [1]) (by kernel_rfl) (by simp) ?_
                  refine AllReady.cons rfl (fun K hK => ?_) ?_
                  · go_simp
                    refine hK _ _ ?_
                    clear hK K
                    refine wpAny_ready (rs := [11]) (by kernel_rfl) (by simp) ?_
                    refine AllReady.cons rfl (fun K hK => ?_) ?_
                    · rw [if_pos (by rfl)]
                      refine append6 rfl rfl hr ?_
                      refine hK _ _ ?_
                      clear hK K
                      refine wpAny_take (i := 12) (v := ?_) rfl (by kernel_rfl) (by kernel_rfl) (by kernel_rfl) (fun _ _ _ h => absurd h.1 (by simp)) (Or.inl ⟨by rfl, ?_⟩) ?_
                      rotate_left
                      · intro w
                        go_simp <;> with_reducible rfl
                      refine wpAny_ready (rs := [13]) (by kernel_rfl) (by simp) ?_
                      refine AllReady.cons rfl (fun K hK => ?_) ?_
                      · go_simp
                        refine hK _ _ ?_
                        clear hK K
                        refine wpAny_done (by kernel_rfl) ?_ _
                        exact ⟨rfl, rfl, rfl⟩
                      exact AllReady.nil
                    exact AllReady.nil
                  exact AllReady.nil
                exact AllReady.nil
              exact AllReady.nil
            exact AllReady.nil
          case hq =>
            clear hr z8 z9 k8 k9 y0 y1 y2 y3 y4 y5 y6 f6 k7 c0
            obtain ⟨w5, hw5⟩ : ∃ w5, w5 = w'.setCell ⟨b + 1, 2, none⟩ (.slice aN nN cN) := ⟨_, rfl⟩
            rw [← hw5] at HTK ⊢
            obtain ⟨c0, _⟩ := cell_at HTK.out.rq.own (rA_zero _ (lost.set c 0))
            obtain ⟨g2, o2, e2, _, _, hrow2⟩ := HTK.out.rq.row.at (by rw [curM_len]; omega)
            simp only [Option.some.injEq, Addr.mk.injEq, and_true] at e2
            obtain ⟨rfl, rfl⟩ := e2
            obtain ⟨y6, f6⟩ := hrow2.line HX.out HTT.out
            have HN : Hid (Rt B W r (.slice (some ⟨g, o, none⟩) m.length cp) b (curM c k m (i + 1)) (lost.set c 0) c z (takeM c k (m.take (i + 1))).1 (.slice aN nN cN) (w5.setCell ⟨g, o + i * 14 + 6 + c, none⟩ (.int .i64 (-1)))) := by
              have hp := HTK.out.rq.put rfl HX.out hc8 (-1) 0
              have hgo : ∃ cur : Array Value, w5.heap[g]? = some (.cells cur 85 (0, 0)) := by obtain ⟨cur, h1, _⟩ := hrow2.ex; exact ⟨cur, h1⟩
              obtain ⟨cur, hgc⟩ := hgo
              have hks : Keeps [g] w5 (w5.setCell ⟨g, o + i * 14 + 6 + c, none⟩ (.int .i64 (-1))) := (Keeps.refl _ _).setCell (by simp) _
              rw [HSE.out, HST.out]
              exact ⟨hp.1, HTK.out.rk.trans hp.2, hks.heap HTK.out.box6 (by simp; exact block_ne HTK.out.box6 hgc (by simp)), hks.heap HTK.out.box7 (by simp; exact block_ne HTK.out.box7 hgc (by simp)),
                row31_kept HTK.out.row (fun j cs fr hj => hks.heap hj (by simp; exact block_ne hj hgc (by simp)))⟩
            clear hw5 hrow2 HTK HT
            go_upto_region 8 with fail
            go_wp2_with fail
            exact ⟨⟨i + 1, _, by go_num, by omega, HN⟩, by simp [intOf]; omega⟩
        · have d3 : decide (0 ≤ t) = false := decide_eq_false h0
          rw [if_neg (fun hh => h0 hh.2)] at hst
          have HN : Hid (Rt B W r (.slice (some ⟨g, o, none⟩) m.length cp) b (curM c k m (i + 1)) (lost.set c 0) c z (takeM c k (m.take (i + 1))).1 (.slice aE ev.length cE) wr) := by
            rw [hset x (by rw [hst]), set_same hxg, hst]
            exact HT
          clear hset hst hx hxg ht htd hrow
          go_wp2_with fail
          exact ⟨⟨i + 1, _, by go_num, by omega, HN⟩, by simp [intOf]; omega⟩
      · have d2 : decide (ev.length < k) = false := decide_eq_false hek
        clear hev
        have hfin := HFIN.out (.inr hek)
        have hHT := HT.out
        have e1 : (takeM c k m).1 = ev := by rw [hfin]
        have e2 : (takeM c k m).2 = curM c k m i := by rw [hfin]
        have HF1 := Go.Lib.hid e1
        have HF2 := Go.Lib.hid e2
        clear hfin e1 e2
        go_wp2_with fail
        refine (r_clean ⟨_, hHT.rq⟩).mono ?_
        rintro e w6 ⟨⟨v6, rfl⟩, hr6, hk6⟩
        have q7 := hk6.keep _ _ hHT.box7 (.inr rfl)
        have q6 := hk6.keep _ _ hHT.box6 (.inr rfl)
        have hrow6 := row31_kept hHT.row (fun j cs fr hj => hk6.keep _ _ hj (.inr rfl))
        obtain ⟨t0, _⟩ := cell_at q7 (p := 0) rfl
        obtain ⟨t1, _⟩ := cell_at q7 (p := 1) rfl
        obtain ⟨t2, _⟩ := cell_at q7 (p := 2) rfl
        obtain ⟨s0, s0'⟩ := cell_at q6 (p := 0) rfl
        obtain ⟨s1, s1'⟩ := cell_at q6 (p := 1) rfl
        obtain ⟨s2, s2'⟩ := cell_at q6 (p := 2) rfl
        have HR6 := Go.Lib.hid hr6
        have HK6 := Go.Lib.hid (hHT.rk.trans hk6)
        have HW6 := Go.Lib.hid hrow6
        have HQ6 := Go.Lib.hid q6
        clear hr6 hk6 hrow6 q7 q6 hHT
        go_wp2_with fail
        obtain ⟨W6, hW6⟩ : ∃ W6, W6 = (((w6.setCell ⟨b, 0, none⟩ (.int .i64 c)).setCell ⟨b, 1, none⟩ (.int .i64 z)).setCell ⟨b, 2, none⟩ (.slice aE ev.length cE)) := ⟨_, rfl⟩
        rw [← hW6]
        have hx6 : W6.heap[b]? = some (.cells #[.int .i64 c, .int .i64 z, .slice aE ev.length cE] 40 (0, 0)) := by
          have s1 := heap_setCell_self (off := 0) (v := .int .i64 c) HQ6.out
          have s2 := heap_setCell_self (off := 1) (v := .int .i64 z) s1
          have s3 := heap_setCell_self (off := 2) (v := .slice aE ev.length cE) s2
          rw [hW6, s3]
          simp
        have u0 := (cell_at hx6 (p := 0) rfl).1
        have u1 := (cell_at hx6 (p := 1) rfl).1
        have u2 := (cell_at hx6 (p := 2) rfl).1
        have hks : Keeps [b] w6 W6 := by rw [hW6]; exact (((Keeps.refl _ _).setCell (by simp) _).setCell (by simp) _).setCell (by simp) _
        have hRK : RK B W W6 := by rw [hW6]; exact ((HK6.out.setNew (by simp; omega) _).setNew (by simp; omega) _).setNew (by simp; omega) _
        have hRL : RL B W6 r (sweepM (takeM c k m).2) (lost.set c 0) := by
          rw [HF2.out]
          exact HR6.out.keep (fun j o ho hf => hks.heap ho (by simp; rintro rfl; rw [HQ6.out] at ho; obtain rfl := Option.some.inj ho; simp [far] at hf))
        have hROW : W6.ownsRow W.heap.size 31 6 (.slice aE ev.length cE) (takeM c k m).1.length ((takeM c k m).1.flatMap evs) := by
          rw [HF1.out]
          exact row31_kept HW6.out (fun j cs fr hj => hks.heap hj (by simp; exact block_ne hj HQ6.out (by simp)))
        refine bodyPost_ret (v := .agg #[.int .i64 c, .int .i64 z, .slice aE ev.length cE]) (by simp [results, Try.f19, go_sem, u0, u1, u2]) rfl ?_
        exact ⟨_, rfl, hROW, hRL, hRK⟩
    · have d1 : decide (i < m.length) = false := decide_eq_false hlt
      clear hev
      have hfin := HFIN.out (.inl hlt)
      have hHT := HT.out
      have e1 : (takeM c k m).1 = ev := by rw [hfin]
      have e2 : (takeM c k m).2 = curM c k m i := by rw [hfin]
      have HF1 := Go.Lib.hid e1
      have HF2 := Go.Lib.hid e2
      clear hfin e1 e2
      go_wp2_with fail
      refine (r_clean ⟨_, hHT.rq⟩).mono ?_
      rintro e w6 ⟨⟨v6, rfl⟩, hr6, hk6⟩
      have q7 := hk6.keep _ _ hHT.box7 (.inr rfl)
      have q6 := hk6.keep _ _ hHT.box6 (.inr rfl)
      have hrow6 := row31_kept hHT.row (fun j cs fr hj => hk6.keep _ _ hj (.inr rfl))
      obtain ⟨t0, _⟩ := cell_at q7 (p := 0) rfl
      obtain ⟨t1, _⟩ := cell_at q7 (p := 1) rfl
      obtain ⟨t2, _⟩ := cell_at q7 (p := 2) rfl
      obtain ⟨s0, s0'⟩ := cell_at q6 (p := 0) rfl
      obtain ⟨s1, s1'⟩ := cell_at q6 (p := 1) rfl
      obtain ⟨s2, s2'⟩ := cell_at q6 (p := 2) rfl
      have HR6 := Go.Lib.hid hr6
      have HK6 := Go.Lib.hid (hHT.rk.trans hk6)
      have HW6 := Go.Lib.hid hrow6
      have HQ6 := Go.Lib.hid q6
      clear hr6 hk6 hrow6 q7 q6 hHT
      go_wp2_with fail
      obtain ⟨W6, hW6⟩ : ∃ W6, W6 = (((w6.setCell ⟨b, 0, none⟩ (.int .i64 c)).setCell ⟨b, 1, none⟩ (.int .i64 z)).setCell ⟨b, 2, none⟩ (.slice aE ev.length cE)) := ⟨_, rfl⟩
      rw [← hW6]
      have hx6 : W6.heap[b]? = some (.cells #[.int .i64 c, .int .i64 z, .slice aE ev.length cE] 40 (0, 0)) := by
        have s1 := heap_setCell_self (off := 0) (v := .int .i64 c) HQ6.out
        have s2 := heap_setCell_self (off := 1) (v := .int .i64 z) s1
        have s3 := heap_setCell_self (off := 2) (v := .slice aE ev.length cE) s2
        rw [hW6, s3]
        simp
      have u0 := (cell_at hx6 (p := 0) rfl).1
      have u1 := (cell_at hx6 (p := 1) rfl).1
      have u2 := (cell_at hx6 (p := 2) rfl).1
      have hks : Keeps [b] w6 W6 := by rw [hW6]; exact (((Keeps.refl _ _).setCell (by simp) _).setCell (by simp) _).setCell (by simp) _
      have hRK : RK B W W6 := by rw [hW6]; exact ((HK6.out.setNew (by simp; omega) _).setNew (by simp; omega) _).setNew (by simp; omega) _
      have hRL : RL B W6 r (sweepM (takeM c k m).2) (lost.set c 0) := by
        rw [HF2.out]
        exact HR6.out.keep (fun j o ho hf => hks.heap ho (by simp; rintro rfl; rw [HQ6.out] at ho; obtain rfl := Option.some.inj ho; simp [far] at hf))
      have hROW : W6.ownsRow W.heap.size 31 6 (.slice aE ev.length cE) (takeM c k m).1.length ((takeM c k m).1.flatMap evs) := by
        rw [HF1.out]
        exact row31_kept HW6.out (fun j cs fr hj => hks.heap hj (by simp; exact block_ne hj HQ6.out (by simp)))
      refine bodyPost_ret (v := .agg #[.int .i64 c, .int .i64 z, .slice aE ev.length cE]) (by simp [results, Try.f19, go_sem, u0, u1, u2]) rfl ?_
      exact ⟨_, rfl, hROW, hRL, hRK⟩
end Go.Proofs.Ytldnnkceeeinlaa
