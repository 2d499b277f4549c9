/- 'pending': how many events wait for a client, and the least deadline. No condition but the queue's own. -/
import Derived.Test.YtldnnkceeeinlaaBMore
import Derived.Test.YtldnnkceeeinlaaRTail
import Derived.Sort.CutIn
namespace Go.Proofs.Ytldnnkceeeinlaa
open Go.RowKit

/-- What is told of one more item. -/
def pstep (a : Nat × Int) (t : Int) : Nat × Int := if 0 ≤ t then (a.1 + 1, if a.1 = 0 ∨ t < a.2 then t else a.2) else a
def pend (c : Nat) (l : List It) : Nat × Int := l.foldl (fun a x => pstep a (x.u.getD c (-1))) (0, 0)
theorem pend_snoc (c : Nat) (l : List It) (x : It) : pend c (l ++ [x]) = pstep (pend c l) (x.u.getD c (-1)) := by simp [pend]
theorem pend_le_from (c : Nat) (l : List It) : ∀ a : Nat × Int, (l.foldl (fun a x => pstep a (x.u.getD c (-1))) a).1 ≤ a.1 + l.length := by
  induction l with
  | nil => intro a; simp
  | cons x l ih =>
    intro a
    have h1 := ih (pstep a (x.u.getD c (-1)))
    have h2 : (pstep a (x.u.getD c (-1))).1 ≤ a.1 + 1 := by rw [pstep]; split <;> simp
    simp only [List.foldl_cons, List.length_cons]
    omega
theorem pend_le (c : Nat) (l : List It) : (pend c l).1 ≤ l.length := by
  have := pend_le_from c l (0, 0)
  simpa [pend] using this

theorem QAt.spin {B q g h c : Nat} {W W' : World} {l : List (Nat × It)} {lost : List Int} {D : Nat} (hq : QAt B W q g h c l lost) (ht : Rng.Turn D W W') (hD : c < D) : QAt B W' q g h c l lost :=
  ⟨ht.heap hq.own, Rng.turn_ring hq.ring ht hD, fun p hp => ht.heap (hq.item p hp), hq.wide, hq.nodup, hq.lost8, hq.base⟩

/-- Behind j items. -/
structure Pd (B : Nat) (w0 : World) (q g h c b : Nat) (l : List (Nat × It)) (lost : List Int) (cl : Nat) (n : Nat) (u : Int) (W : World) : Prop where
  own : QAt B W q g h c l lost
  keeps : Keeps [] w0 W
  box3 : W.heap[b]? = some (.cells #[.int .i64 cl] 3 (0, 0))
  box4 : W.heap[b + 1]? = some (.cells #[.int .i64 n] 3 (0, 0))
  box5 : W.heap[b + 1 + 1]? = some (.cells #[.int .i64 u] 2 (0, 0))
section
variable {B : Nat} {w0 : World} {q g h c b : Nat} {l : List (Nat × It)} {lost : List Int} {cl n : Nat} {u : Int} {W W' : World}
theorem Pd.turn {D : Nat} (hi : Pd B w0 q g h c b l lost cl n u W) (ht : Rng.Turn D W W') (hD : w0.heap.size ≤ D) (hc : c < D) : Pd B w0 q g h c b l lost cl n u W' :=
  ⟨hi.own.spin ht hc, Rng.turn_keeps hi.keeps ht hD, ht.heap hi.box3, ht.heap hi.box4, ht.heap hi.box5⟩
theorem Pd.new (hi : Pd B w0 q g h c b l lost cl n u W) (hk : Keeps [] W W') : Pd B w0 q g h c b l lost cl n u W' :=
  ⟨hi.own.new hk, hi.keeps.trans hk, hk.heap hi.box3 (by simp), hk.heap hi.box4 (by simp), hk.heap hi.box5 (by simp)⟩
theorem Pd.drewN (hi : Pd B w0 q g h c b l lost cl n u W) (k : Nat) : Pd B w0 q g h c b l lost cl n u (W.drewN k) := hi.new ((Keeps.refl _ _).drewN k)
theorem QAt.apart (hq : QAt B W q g h c l lost) {W' : World} {x : Nat} {cs : Array Value} {t : TypeId} (hx : W.heap[x]? = some (.cells cs t (0, 0))) (ht : t ≠ 70 ∧ t ≠ 73 ∧ t ≠ 93 ∧ t ≠ 71) (hk : Keeps [x] W W') : QAt B W' q g h c l lost := by
  have h1 := ring_apart hq.ring hx ht.2.2.1 ht.2.2.2
  simp only [List.mem_cons, List.not_mem_nil, or_false, not_or] at h1
  exact ⟨hk.heap hq.own (by simp; exact block_ne hq.own hx (by simp [Ne.symm ht.1])), hq.ring.keeps hk (by simp; exact Ne.symm h1.1) (by simp; exact Ne.symm h1.2.1) (by simp; exact Ne.symm h1.2.2),
    fun p hp => hk.heap (hq.item p hp) (by simp; exact block_ne (hq.item p hp) hx (by simp [Ne.symm ht.2.1])), hq.wide, hq.nodup, hq.lost8, hq.base⟩
theorem Pd.setU (hi : Pd B w0 q g h c b l lost cl n u W) (hb : w0.heap.size ≤ b) (u' : Int) : Pd B w0 q g h c b l lost cl n u' (W.setCell ⟨b + 1 + 1, 0, none⟩ (.int .i64 u')) := by
  have hk : Keeps [b + 1 + 1] W (W.setCell ⟨b + 1 + 1, 0, none⟩ (.int .i64 u')) := (Keeps.refl _ _).setCell (by simp) _
  refine ⟨hi.own.apart hi.box5 (by decide) hk, hi.keeps.step hk (by simp; omega), hk.heap hi.box3 (by simp; omega), hk.heap hi.box4 (by simp), ?_⟩
  rw [heap_setCell_self hi.box5]
  simp
theorem Pd.setN (hi : Pd B w0 q g h c b l lost cl n u W) (hb : w0.heap.size ≤ b) (n' : Nat) : Pd B w0 q g h c b l lost cl n' u (W.setCell ⟨b + 1, 0, none⟩ (.int .i64 n')) := by
  have hk : Keeps [b + 1] W (W.setCell ⟨b + 1, 0, none⟩ (.int .i64 n')) := (Keeps.refl _ _).setCell (by simp) _
  refine ⟨hi.own.apart hi.box4 (by decide) hk, hi.keeps.step hk (by simp; omega), hk.heap hi.box3 (by simp), ?_, hk.heap hi.box5 (by simp)⟩
  rw [heap_setCell_self hi.box4]
  simp
end

def PdJ (B : Nat) (w0 : World) (q g h c b : Nat) (l : List (Nat × It)) (lost : List Int) (cl : Nat) (j : Nat) (W : World) : Prop := Pd B w0 q g h c b l lost cl (pend cl ((l.map (·.2)).take j)).1 (pend cl ((l.map (·.2)).take j)).2 W
theorem PdJ.of {B : Nat} {w0 : World} {q g h c b : Nat} {l : List (Nat × It)} {lost : List Int} {cl j n : Nat} {u : Int} {W : World} (hp : pend cl ((l.map (·.2)).take j) = (n, u)) (hd : Pd B w0 q g h c b l lost cl n u W) : PdJ B w0 q g h c b l lost cl j W := by
  rw [PdJ, hp]
  exact hd
attribute [local go_sem] Oper.semAt_some
set_option maxHeartbeats 1600000 in
set_option maxRecDepth 100000 in
theorem pending {B q : Nat} {w : World} {l : List (Nat × It)} {lost : List Int} (hq : QIs B w q l lost) {cl : Nat} (hcl : cl < 8) :
    Calls Try.prog 39 #[.pointer (some ⟨q, 0, none⟩), .int .i64 cl] w fun e w' => e = .returned (.tuple #[.int .i64 (pend cl (l.map (·.2))).1, .int .i64 (pend cl (l.map (·.2))).2]) ∧ Keeps [] w w' := by
  obtain ⟨g, h, c, hq⟩ := hq
  have hL9 : l.length ≤ 64 := by have := hq.ring.len; simpa using this
  obtain ⟨pn, pu, hp⟩ : ∃ n u, pend cl (l.map (·.2)) = (n, u) := ⟨_, _, rfl⟩
  rw [hp]
  have HP := Go.Lib.hid hp
  clear hp
  refine (callsIn_wide (n := 9)).1 (callsIn_of_wp_marks Try.func39 rfl trivial ?_ rfl)
  refine wpIn_wide.2 ?_
  simp only [Try.ntmps39, List.size_toArray, List.length_cons, List.length_nil, Nat.reduceAdd, Nat.reduceSub, Array.replicate_succ, Array.replicate_zero, List.push_toArray, List.append_toArray, List.nil_append, List.cons_append]
  go_upto_region 1 with fail
  obtain ⟨b, hb⟩ : ∃ b, b = w.heap.size := ⟨_, rfl⟩
  obtain ⟨w1, hw1⟩ : ∃ w1, w1 = (((w.alloc (.cells #[.int .i64 cl] 3)).alloc (.cells #[.int .i64 0] 3)).alloc (.cells #[.int .i64 0] 2)) := ⟨_, rfl⟩
  rw [← hw1, ← hb]
  have hk1 : Keeps [] w w1 := by rw [hw1]; exact (((Keeps.refl _ _).alloc _).alloc _).alloc _
  have HI0 : Hid (Pd B w q g h c b l lost cl 0 0 w1) := by
    obtain ⟨x1, x2, x3⟩ := alloc3 w (.cells #[.int .i64 cl] 3) (.cells #[.int .i64 0] 3) (.cells #[.int .i64 0] 2)
    rw [← hw1, ← hb] at x1 x2 x3
    exact ⟨hq.new hk1, hk1, x1, x2, x3⟩
  have hlt := hq.lts
  have hgb : g < b ∧ h < b ∧ c < b := by omega
  have hbw : w.heap.size ≤ b := by omega
  obtain ⟨cq, _⟩ := cell_at (hq.new hk1).own (qA_zero g lost)
  clear hw1 hk1 hlt hq hb
  go_wp2_with fail
  refine (RPtr.all _ _).mono ?_
  rintro e w2 ⟨rfl, rfl⟩
  go_wp2_with fail
  obtain ⟨b6, hb6⟩ : ∃ b6, b6 = w1.heap.size := ⟨_, rfl⟩
  obtain ⟨w4, hw4⟩ : ∃ w4, w4 = w1.alloc (.cells #[.pointer (some ⟨g, 0, none⟩)] 67) := ⟨_, rfl⟩
  rw [← hw4, ← hb6]
  have hk4 : Keeps [] w1 w4 := by rw [hw4]; exact (Keeps.refl _ _).alloc _
  have hx6 : w4.cell? ⟨b6, 0, none⟩ = some (.pointer (some ⟨g, 0, none⟩)) := by rw [hw4, hb6]; exact (cell_at (heap_alloc_new _ _) rfl).1
  have HI : Hid (Pd B w q g h c b l lost cl 0 0 w4) := HI0.out.new hk4
  have h7 := lt_of_block HI.out.box5
  clear hk4 hw4 HI0 hb6 cq
  apply Rng.wp_range1 (gf := 45) (lb := #[.pointer (some ⟨b6, 0, none⟩)]) rfl (enters_of Try.func45 (by kernel_rfl) rfl) (RPtr.all_iter hx6 HI.out.own.ring) (fun _ => rfl)
    (I := fun j W => PdJ B w q g h c b l lost cl j W) (Ix := fun _ _ => False)
    (hI := fun j W W' hi ht => Pd.turn hi ht (by omega) (by omega)) (hIx := fun _ _ _ h _ => h.elim) (h0 := HI.out)
  case hassign =>
    intro y j W hj hi
    simp only [RPtr.elem, RPtr.encv]
    gi_wp2
    trivial
  case hbody =>
    intro y j W hj hi
    rw [List.length_map] at hj
    rw [PdJ] at hi
    have HI := Go.Lib.hid hi
    obtain ⟨x, hx⟩ : ∃ x, l[j]? = some x := ⟨_, List.getElem?_eq_getElem hj⟩
    have hxm := List.mem_of_getElem? hx
    rw [show RPtr.nth (l.map (·.1)) j = x.1 from RPtr.nth_at (by simp [hx])]
    obtain ⟨t, ht⟩ : ∃ t, x.2.u[cl]? = some t := ⟨_, List.getElem?_eq_getElem (by rw [HI.out.own.wide x hxm]; exact hcl)⟩
    have hs : pend cl ((l.map (·.2)).take (j + 1)) = pstep (pend cl ((l.map (·.2)).take j)) t := by
      rw [List.take_add_one, show (l.map (·.2))[j]? = some x.2 from by simp [hx]]
      simp [pend_snoc, ht]
    obtain ⟨n, hn⟩ : ∃ n, n = (pend cl ((l.map (·.2)).take j)).1 := ⟨_, rfl⟩
    obtain ⟨u, hu⟩ : ∃ u, u = (pend cl ((l.map (·.2)).take j)).2 := ⟨_, rfl⟩
    have hn9 : n ≤ 64 := by
      have := pend_le cl ((l.map (·.2)).take j)
      simp at this
      omega
    obtain ⟨x0, x1⟩ := cell_at (HI.out.own.item x hxm) (itA_get ht)
    obtain ⟨c3, _⟩ := cell_at HI.out.box3 (p := 0) rfl
    obtain ⟨c4, f4⟩ := cell_at HI.out.box4 (p := 0) rfl
    obtain ⟨c5, f5⟩ := cell_at HI.out.box5 (p := 0) rfl
    rw [← hn] at c4
    rw [← hu] at c5
    have hp : pend cl ((l.map (·.2)).take j) = (n, u) := by rw [hn, hu]
    rw [hp] at hs
    have hsz := HI.out.keeps.size
    simp only [hp] at hi
    have HIJ : Hid (Pd B w q g h c b l lost cl n u W) := hi
    have HOLD : Hid (∀ (W' : World), Keeps [b + 1, b + 1 + 1] W W' → Rng.Hold w4.heap.size W W') := fun W' hk => Rng.Hold.of_keeps hk (by simp; omega)
    clear hi hp ht hn hu HI
    have HI := HIJ
    by_cases h0 : 0 ≤ t
    · have d0 : decide (0 ≤ t) = true := decide_eq_true h0
      have key : ∀ v, (if n = 0 ∨ t < u then t else u) = v → pend cl ((l.map (·.2)).take (j + 1)) = (n + 1, v) := fun v hv => by rw [hs, pstep, if_pos h0]; simp only [hv]
      by_cases h1 : n = 0
      · have d1 : ((n : Int) == 0) = true := by simp; omega
        have d2 : (n == 0) = true := by simp; omega
        have HS := Go.Lib.hid (key t (by simp [h1]))
        clear key hs h1
        gi_wp2_with fail
        refine QRound.wpIn_region_quiet_r (by kernel_rfl) (by kernel_rfl) (by kernel_rfl) ?_
        repeat (gi_big_quiet_step (fail))
        refine wpQuietIn_nil ?_
        rintro _ ⟨nq, rfl⟩
        gi_wp2
        exact ⟨HOLD.out _ ((((Keeps.refl _ _).drewN _).setCell (by simp) _).setCell (by simp) _), PdJ.of HS.out (((HIJ.out.drewN _).setU hbw _).setN hbw (n + 1))⟩
      · have d1 : ((n : Int) == 0) = false := by simp; omega
        have d2 : (n == 0) = false := by simp; omega
        have d4 : decide (n = 0) = false := decide_eq_false h1
        by_cases h2 : t < u
        · have d3 : decide (t < u) = true := decide_eq_true h2
          have HS := Go.Lib.hid (key t (by simp [h2]))
          clear key hs
          gi_wp2_with fail
          refine QRound.wpIn_region_quiet_r (by kernel_rfl) (by kernel_rfl) (by kernel_rfl) ?_
          repeat (gi_big_quiet_step (fail))
          refine wpQuietIn_nil ?_
          rintro _ ⟨nq, rfl⟩
          gi_wp2
          exact ⟨HOLD.out _ ((((Keeps.refl _ _).drewN _).setCell (by simp) _).setCell (by simp) _), PdJ.of HS.out (((HIJ.out.drewN _).setU hbw _).setN hbw (n + 1))⟩
        · have d3 : decide (t < u) = false := decide_eq_false h2
          have HS := Go.Lib.hid (key u (by simp [h1, h2]))
          clear key hs
          gi_wp2_with fail
          refine QRound.wpIn_region_quiet_r (by kernel_rfl) (by kernel_rfl) (by kernel_rfl) ?_
          repeat (gi_big_quiet_step (fail))
          refine wpQuietIn_nil ?_
          rintro _ ⟨nq, rfl⟩
          gi_wp2
          exact ⟨HOLD.out _ (((Keeps.refl _ _).drewN _).setCell (by simp) _), PdJ.of HS.out ((HIJ.out.drewN _).setN hbw (n + 1))⟩
    · have d0 : decide (0 ≤ t) = false := decide_eq_false h0
      have HS := Go.Lib.hid (hs.trans (by rw [pstep, if_neg h0]))
      clear hs
      gi_wp2_with fail
      refine QRound.wpIn_region_quiet_r (by kernel_rfl) (by kernel_rfl) (by kernel_rfl) ?_
      repeat (gi_big_quiet_step (fail))
      refine wpQuietIn_nil ?_
      rintro _ ⟨nq, rfl⟩
      gi_wp2
      exact ⟨HOLD.out _ ((Keeps.refl _ _).drewN _), PdJ.of HS.out (HIJ.out.drewN _)⟩
  case hdone =>
    intro D W hD hi hK
    have hi : Pd B w q g h c b l lost cl pn pu W := by
      rw [PdJ, List.length_map, List.take_of_length_le (by simp), HP.out] at hi
      exact hi
    have HI := Go.Lib.hid hi
    have HK := Go.Lib.hid hK
    clear hi hK
    obtain ⟨c4, f4⟩ := cell_at HI.out.box4 (p := 0) rfl
    obtain ⟨c5, f5⟩ := cell_at HI.out.box5 (p := 0) rfl
    go_wp2_with fail
    go_region
    all_goals
      go_wp2
      have hk : Keeps [b + 1, b + 1 + 1] W ((W.setCell ⟨b + 1, 0, none⟩ (.int .i64 pn)).setCell ⟨b + 1 + 1, 0, none⟩ (.int .i64 pu)).drew := (((Keeps.refl _ _).setCell (by simp) _).setCell (by simp) _).drew
      have HF : Pd B w q g h c b l lost cl pn pu ((W.setCell ⟨b + 1, 0, none⟩ (.int .i64 pn)).setCell ⟨b + 1 + 1, 0, none⟩ (.int .i64 pu)).drew := ((HI.out.setN hbw pn).setU hbw pu).new (Keeps.refl _ _).drew
      have hDm := hk.heap HK.out (by simp; omega)
      refine ⟨by simp, .inl ⟨_, _, rfl, run_takeDeferred hDm, ?_⟩⟩
      have z4 := Rng.cell_putObj (cell_at HF.box4 (p := 0) rfl).1 (D := D) (by simp; omega) (.deferred none)
      have z5 := Rng.cell_putObj (cell_at HF.box5 (p := 0) rfl).1 (D := D) (by simp; omega) (.deferred none)
      refine ⟨.tuple #[.int .i64 pn, .int .i64 pu], ?_, rfl, Rng.putNew HF.keeps (by omega) _⟩
      simp [results, Try.f39, go_sem, z4, z5]
  case hstop =>
    rintro D c' W hD hi hK
    exact hi.elim
end Go.Proofs.Ytldnnkceeeinlaa
