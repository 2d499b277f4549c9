/- 'waits' and 'sweep': what nobody waits for is taken out. No condition but the queue's own. -/
import Derived.Test.YtldnnkceeeinlaaBPend
import Derived.Test.YtldnnkceeeinlaaBIdx
namespace Go.Proofs.Ytldnnkceeeinlaa
open Go.RowKit

def waitsB (x : It) : Bool := x.u.any (fun t => decide (0 ≤ t))
theorem waits_yes {x : It} {k : Nat} {t : Int} (h : x.u[k]? = some t) (h0 : 0 ≤ t) : waitsB x = true := List.any_eq_true.2 ⟨t, List.mem_of_getElem? h, decide_eq_true h0⟩
theorem waits_no {x : It} (h : ∀ (k : Nat) (t : Int), x.u[k]? = some t → t < 0) : waitsB x = false := by
  rw [waitsB, List.any_eq_false]
  intro t ht
  obtain ⟨k, hk⟩ := List.mem_iff_getElem?.1 ht
  have := h k t hk
  simp; omega

set_option maxHeartbeats 1600000 in
theorem waits {x : Nat} {it : It} {w : World} (hx : w.heap[x]? = some (.cells (itA it) 73 (0, 0))) (h8 : it.u.length = 8) :
    Calls Try.prog 48 #[.pointer (some ⟨x, 0, none⟩)] w fun e w' => e = .returned (.bool (waitsB it)) ∧ w = w' := by
  obtain ⟨u0, u1, u2, u3, u4, u5, u6, u7, hu⟩ := eight h8
  have y0 := (cell_at hx (show (itA it)[6]? = some (.int .i64 u0) from itA_get (c := 0) (by rw [hu]; rfl))).1
  have y1 := (cell_at hx (show (itA it)[7]? = some (.int .i64 u1) from itA_get (c := 1) (by rw [hu]; rfl))).1
  have y2 := (cell_at hx (show (itA it)[8]? = some (.int .i64 u2) from itA_get (c := 2) (by rw [hu]; rfl))).1
  have y3 := (cell_at hx (show (itA it)[9]? = some (.int .i64 u3) from itA_get (c := 3) (by rw [hu]; rfl))).1
  have y4 := (cell_at hx (show (itA it)[10]? = some (.int .i64 u4) from itA_get (c := 4) (by rw [hu]; rfl))).1
  have y5 := (cell_at hx (show (itA it)[11]? = some (.int .i64 u5) from itA_get (c := 5) (by rw [hu]; rfl))).1
  have y6 := (cell_at hx (show (itA it)[12]? = some (.int .i64 u6) from itA_get (c := 6) (by rw [hu]; rfl))).1
  have y7 := (cell_at hx (show (itA it)[13]? = some (.int .i64 u7) from itA_get (c := 7) (by rw [hu]; rfl))).1
  have HU := Go.Lib.hid hu
  have H8 := Go.Lib.hid h8
  clear hx hu h8
  go_enter Try.func48, Try.ntmps48
  go_upto_region 2 with fail
  obtain ⟨U, hU⟩ : ∃ U : Array Value, U = #[.int .i64 u0, .int .i64 u1, .int .i64 u2, .int .i64 u3, .int .i64 u4, .int .i64 u5, .int .i64 u6, .int .i64 u7] := ⟨_, rfl⟩
  rw [← hU]
  have HUU : Hid (∀ (j : Nat) (x : Int), it.u[j]? = some x → ∀ w : World, (Instr.index 45 (.agg U) (.int .i64 j)).run Try.prog w = .ok (.int .i64 x) w) := fun j x hx => by
    rw [show U = (ints it.u).toArray from by rw [hU, HU.out]; rfl]
    exact run_index8 H8.out hx
  clear hU y0 y1 y2 y3 y4 y5 y6 y7
  go_loopw [9] (fun i wr => ∃ k : Nat, i = .int .i64 k ∧ k ≤ 8 ∧ Hid (∀ (j : Nat) (t : Int), it.u[j]? = some t → j < k → t < 0) ∧ wr = w) (fun i _ => 8 - (intOf i).toNat)
  case atStart => exact ⟨0, rfl, by omega, fun j t _ hj => by omega, rfl⟩
  case round =>
    obtain ⟨k, rfl, hk, HJ, rfl⟩ := hrel
    by_cases hlt : k < 8
    · obtain ⟨x, hx⟩ : ∃ x, it.u[k]? = some x := ⟨_, List.getElem?_eq_getElem (by rw [H8.out]; exact hlt)⟩
      have hv := HUU.out k x hx
      have d1 : decide (k < 8) = true := decide_eq_true hlt
      have d2 : decide ((k : Int) < 8) = true := decide_eq_true (by omega)
      by_cases hx0 : 0 ≤ x
      · have d3 : decide (0 ≤ x) = true := decide_eq_true hx0
        have HW := Go.Lib.hid (waits_yes hx hx0)
        clear hx
        go_wp2_with fail
        go_ret
        exact ⟨by rw [HW.out]; rfl, rfl⟩
      · have d3 : decide (0 ≤ x) = false := decide_eq_false hx0
        have HN : Hid (∀ (j : Nat) (t : Int), it.u[j]? = some t → j < k + 1 → t < 0) := fun j t hj hjk => by
          by_cases e : j = k
          · subst e
            rw [hx] at hj
            obtain rfl := Option.some.inj hj
            omega
          · exact HJ.out j t hj (by omega)
        clear hx
        go_wp2_with fail
        exact ⟨⟨k + 1, by go_num, by omega, HN, trivial⟩, by simp [intOf]; omega⟩
    · obtain rfl : k = 8 := by omega
      have HW := Go.Lib.hid (waits_no (fun j t hj => HJ.out j t hj (by have := (List.getElem?_eq_some_iff.1 hj).1; rw [H8.out] at this; exact this)))
      go_wp2_with fail
      go_ret
      exact ⟨by rw [HW.out]; rfl, rfl⟩

/-- Behind j items: the new ring. -/
structure Sw (w0 : World) (g h c b : Nat) (r : List Nat) (W : World) : Prop where
  ring : RPtr.Is W g h c 64 r
  keeps : Keeps [] w0 W
  box : W.heap[b]? = some (.cells #[.pointer (some ⟨g, 0, none⟩)] 67 (0, 0))
section
variable {w0 W W' : World} {g h c b : Nat} {r : List Nat}
theorem Sw.turn {D : Nat} (hi : Sw w0 g h c b r W) (ht : Rng.Turn D W W') (hD : w0.heap.size ≤ D) (hc : c < D) : Sw w0 g h c b r W' :=
  ⟨Rng.turn_ring hi.ring ht hc, Rng.turn_keeps hi.keeps ht hD, ht.heap hi.box⟩
theorem Sw.new (hi : Sw w0 g h c b r W) (hk : Keeps [] W W') : Sw w0 g h c b r W' :=
  ⟨hi.ring.keeps hk (by simp) (by simp) (by simp), hi.keeps.trans hk, hk.heap hi.box (by simp)⟩
end
def sweepL (l : List (Nat × It)) : List (Nat × It) := l.filter (fun p => waitsB p.2)

theorem QAt.swap {B q g0 h0 k0 g h c : Nat} {W : World} {l l' : List (Nat × It)} {lost : List Int} (hq : QAt B W q g0 h0 k0 l lost) (hg : B ≤ g) (hh : B ≤ h) (hc : B ≤ c) (hr : RPtr.Is W g h c 64 (l'.map (·.1))) (hsub : ∀ p ∈ l', p ∈ l) (hn : (l'.map (·.1)).Nodup) :
    QAt B (W.setCell ⟨q, 0, none⟩ (.pointer (some ⟨g, 0, none⟩))) q g h c l' lost := by
  have hk : Keeps [q] W (W.setCell ⟨q, 0, none⟩ (.pointer (some ⟨g, 0, none⟩))) := (Keeps.refl _ _).setCell (by simp) _
  have ha := ring_apart hr hq.own (by decide) (by decide)
  simp only [List.mem_cons, List.not_mem_nil, or_false, not_or] at ha
  refine ⟨?_, hr.keeps hk (by simp; exact Ne.symm ha.1) (by simp; exact Ne.symm ha.2.1) (by simp; exact Ne.symm ha.2.2), fun p hp => hk.heap (hq.item p (hsub p hp)) (by simp [hq.item_ne (hsub p hp)]), fun p hp => hq.wide p (hsub p hp), hn, hq.lost8,
    hq.base.1, hg, hh, hc, fun p hp => hq.base.2.2.2.2 p (hsub p hp)⟩
  rw [heap_setCell_self hq.own, qA_ring]
theorem QAt.swapBK {B q g h c : Nat} {W : World} {l : List (Nat × It)} {lost : List Int} (hq : QAt B W q g h c l lost) (k : Nat) (y : Value) : BK B W (W.setCell ⟨q, k, none⟩ y) :=
  BK.of_keeps (S := [q]) ((Keeps.refl _ _).setCell (by simp) _) (fun x hx => by
    obtain rfl : x = q := by simpa using hx
    exact ⟨hq.base.1, fun o ho => by rw [hq.own] at ho; obtain rfl := Option.some.inj ho; rfl⟩)
theorem QIs.spin {B q D : Nat} {W : World} {l : List (Nat × It)} {lost : List Int} {o : Obj} {d : Option (List Deferred)} (hq : QIs B W q l lost) (hD : W.heap[D]? = some (.deferred d)) : QIs B (W.putObj D o) q l lost := by
  obtain ⟨g, h, c, hq⟩ := hq
  obtain ⟨⟨f, arr, buf, s, r, h1, h2, h3, h4⟩, h5, h6⟩ := hq.ring
  have key : ∀ {k : Nat} {x : Obj}, W.heap[k]? = some x → x ≠ .deferred d → (W.putObj D o).heap[k]? = some x := fun hk hx => by
    rw [World.putObj_heap_other (block_ne hk hD hx)]; exact hk
  exact ⟨g, h, c, key hq.own (by simp), ⟨⟨f, arr, buf, s, r, key h1 (by simp), key h2 (by simp), key h3 (by simp), h4⟩, h5, h6⟩, fun p hp => key (hq.item p hp) (by simp), hq.wide, hq.nodup, hq.lost8, hq.base⟩
theorem BK.putNew {B D : Nat} {w W : World} (h : BK B w W) (hD : w.heap.size ≤ D) (o : Obj) : BK B w (W.putObj D o) :=
  ⟨h.os, h.tape, h.output, by rw [show (W.putObj D o).heap.size = W.heap.size by simp [World.putObj]]; exact h.size, fun k x hx hc => by
    have := lt_of_block hx
    rw [World.putObj_heap_other (by omega)]
    exact h.keep k x hx hc⟩
def swept (l : List (Nat × It)) (j : Nat) : List Nat := (sweepL (l.take j)).map (·.1)
theorem swept_no {l : List (Nat × It)} {j : Nat} {x : Nat × It} (hx : l[j]? = some x) (h : waitsB x.2 = false) : swept l (j + 1) = swept l j := by
  rw [swept, swept, List.take_add_one, hx, sweepL, sweepL]
  simp [List.filter_append, h]
theorem swept_yes {l : List (Nat × It)} {j : Nat} {x : Nat × It} (hx : l[j]? = some x) (h : waitsB x.2 = true) : swept l (j + 1) = swept l j ++ [x.1] := by
  rw [swept, swept, List.take_add_one, hx, sweepL, sweepL]
  simp [List.filter_append, h]
theorem swept_len (l : List (Nat × It)) (j : Nat) : (swept l j).length ≤ j := by
  rw [swept, List.length_map, sweepL]
  have := List.length_filter_le (fun p : Nat × It => waitsB p.2) (l.take j)
  rw [List.length_take] at this
  omega
attribute [local go_sem] Oper.semAt_some
set_option maxHeartbeats 1600000 in
set_option maxRecDepth 100000 in
theorem sweep {B q : Nat} {w : World} {l : List (Nat × It)} {lost : List Int} (hq : QIs B w q l lost) :
    Calls Try.prog 38 #[.pointer (some ⟨q, 0, none⟩)] w fun e w' => (∃ v, e = .returned v) ∧ QIs B w' q (sweepL l) lost ∧ BK B w w' := by
  obtain ⟨g0, h0, k0, hq⟩ := hq
  have hL9 : l.length ≤ 64 := by have := hq.ring.len; simpa using this
  have hBw : B ≤ w.heap.size := by have := hq.base.1; have := hq.lts.1; omega
  refine (callsIn_wide (n := 9)).1 (callsIn_of_wp_marks Try.func38 rfl trivial ?_ rfl)
  refine wpIn_wide.2 ?_
  simp only [Try.ntmps38, List.size_toArray, List.length_cons, List.length_nil, Nat.reduceAdd, Nat.reduceSub, Array.replicate_succ, Array.replicate_zero, List.push_toArray, List.append_toArray, List.nil_append, List.cons_append]
  go_wp2_with fail
  refine (empty _).mono ?_
  rintro e w1 ⟨g, h, c, rfl, hr, hg, hh, hc, hk⟩
  have HQ := Go.Lib.hid hq
  have HR := Go.Lib.hid hr
  have HK := Go.Lib.hid hk
  clear hq hr hk
  go_upto_region 1 with fail
  obtain ⟨b, hb⟩ : ∃ b, b = w1.heap.size := ⟨_, rfl⟩
  obtain ⟨w2, hw2⟩ : ∃ w2, w2 = w1.alloc (.cells #[.pointer (some ⟨g, 0, none⟩)] 67) := ⟨_, rfl⟩
  rw [← hw2, ← hb]
  have hk2 : Keeps [] w1 w2 := by rw [hw2]; exact (Keeps.refl _ _).alloc _
  have hlt := HR.out.lts
  have HI0 : Hid (Sw w g h c b (swept l 0) w2) := ⟨HR.out.keeps hk2 (by simp) (by simp) (by simp), HK.out.trans hk2, by rw [hw2, hb]; exact heap_alloc_new _ _⟩
  have hgb : g < b ∧ h < b ∧ c < b := by omega
  have hbw : w.heap.size ≤ b := by omega
  obtain ⟨cq, _⟩ := cell_at (HQ.out.new HI0.out.keeps).own (qA_zero g0 lost)
  clear hw2 hk2 hlt hb HR HK
  go_wp2_with fail
  refine (RPtr.all _ _).mono ?_
  rintro e w3 ⟨rfl, rfl⟩
  go_wp2_with fail
  obtain ⟨b6, hb6⟩ : ∃ b6, b6 = w2.heap.size := ⟨_, rfl⟩
  obtain ⟨w4, hw4⟩ : ∃ w4, w4 = w2.alloc (.cells #[.pointer (some ⟨g0, 0, none⟩)] 67) := ⟨_, rfl⟩
  rw [← hw4, ← hb6]
  have hk4 : Keeps [] w2 w4 := by rw [hw4]; exact (Keeps.refl _ _).alloc _
  have hx6 : w4.cell? ⟨b6, 0, none⟩ = some (.pointer (some ⟨g0, 0, none⟩)) := by rw [hw4, hb6]; exact (cell_at (heap_alloc_new _ _) rfl).1
  have HI : Hid (Sw w g h c b (swept l 0) w4) := HI0.out.new hk4
  have h7 := lt_of_block HI.out.box
  clear hk4 hw4 HI0 hb6 cq
  apply Rng.wp_range1 (gf := 45) (lb := #[.pointer (some ⟨b6, 0, none⟩)]) rfl (enters_of Try.func45 (by kernel_rfl) rfl) (RPtr.all_iter hx6 (HQ.out.new HI.out.keeps).ring) (fun _ => rfl)
    (I := fun j W => Sw w g h c b (swept l j) W) (Ix := fun _ _ => False)
    (hI := fun j W W' hi ht => hi.turn ht (by omega) (by omega)) (hIx := fun _ _ _ h _ => h.elim) (h0 := HI.out)
  case hassign =>
    intro y j W hj hi
    simp only [RPtr.elem, RPtr.encv]
    gi_wp2
    trivial
  case hbody =>
    intro y j W hj hi
    rw [List.length_map] at hj
    obtain ⟨x, hx⟩ : ∃ x, l[j]? = some x := ⟨_, List.getElem?_eq_getElem hj⟩
    have hxm := List.mem_of_getElem? hx
    rw [show RPtr.nth (l.map (·.1)) j = x.1 from RPtr.nth_at (by simp [hx])]
    have hqj := HQ.out.new hi.keeps
    have HWT := Go.Lib.hid (waits (hqj.item x hxm) (hqj.wide x hxm))
    have HI := Go.Lib.hid hi
    have HX := Go.Lib.hid hx
    have c2 := (cell_at hi.box (p := 0) rfl).1
    have hsz := hi.keeps.size
    have HOLD : Hid (∀ (W' : World), Keeps [g, h, c] W W' → Rng.Hold w4.heap.size W W') := fun W' hk => Rng.Hold.of_keeps hk (by simp; omega)
    clear hi hqj hx
    cases hwt : waitsB x.2 with
    | false =>
      rw [hwt] at HWT
      have HS : Hid (Sw w g h c b (swept l (j + 1)) W) := by rw [swept_no HX.out hwt]; exact HI
      gi_wp2_with fail
      refine ⟨trivial, rfl, CallsIn.inRound y ((callsIn_wide.2 HWT.out).mono ?_)⟩
      rintro e w' ⟨rfl, rfl⟩
      gi_wp2
      exact ⟨HOLD.out _ (Keeps.refl _ _), HS.out⟩
    | true =>
      rw [hwt] at HWT
      have HP := Go.Lib.hid (RPtr.push_room (x := x.1) HI.out.ring (by have := swept_len l j; omega))
      gi_wp2_with fail
      refine ⟨trivial, rfl, CallsIn.inRound y ((callsIn_wide.2 HWT.out).mono ?_)⟩
      rintro e w' ⟨rfl, rfl⟩
      gi_wp2_with fail
      refine ⟨trivial, rfl, CallsIn.inRound y ((callsIn_wide.2 HP.out).mono ?_)⟩
      rintro e w' ⟨rfl, hr2, hk2⟩
      have HS : Hid (Sw w g h c b (swept l (j + 1)) w') := by
        rw [swept_yes HX.out hwt]
        exact ⟨hr2, HI.out.keeps.step hk2 (by simp; omega), hk2.heap HI.out.box (by simp; omega)⟩
      have HH := Go.Lib.hid (HOLD.out _ hk2)
      clear hr2 hk2
      gi_wp2
      exact ⟨HH.out, HS.out⟩
  case hdone =>
    intro D W hD hi hK
    have hr : RPtr.Is W g h c 64 ((sweepL l).map (·.1)) := by
      have := hi.ring
      rw [swept, List.length_map, List.take_of_length_le (Nat.le_refl _)] at this
      exact this
    have hqj := HQ.out.new hi.keeps
    have HF : Hid (QIs B (W.setCell ⟨q, 0, none⟩ (.pointer (some ⟨g, 0, none⟩))) q (sweepL l) lost) := ⟨g, h, c, hqj.swap (by omega) (by omega) (by omega) hr (fun p hp => (List.mem_filter.1 hp).1) ((List.filter_sublist.map _).nodup hqj.nodup)⟩
    have HB := Go.Lib.hid (hqj.swapBK 0 (.pointer (some ⟨g, 0, none⟩)))
    have HI := Go.Lib.hid hi
    have HK := Go.Lib.hid hK
    have c2 := (cell_at hi.box (p := 0) rfl).1
    obtain ⟨e0, f0⟩ := cell_at hqj.own (qA_zero g0 lost)
    clear hi hK hr hqj
    go_wp2_with fail
    have hk : Keeps [q] W (W.setCell ⟨q, 0, none⟩ (.pointer (some ⟨g, 0, none⟩))) := (Keeps.refl _ _).setCell (by simp) _
    have hDm := hk.heap HK.out (by simp; exact block_ne HK.out (HQ.out.new HI.out.keeps).own (by simp))
    refine ⟨by simp, .inl ⟨_, _, rfl, run_takeDeferred hDm, ?_⟩⟩
    refine ⟨_, results_none rfl _ _ _, ⟨_, rfl⟩, HF.out.spin hDm, ((BK.new HI.out.keeps).trans HB.out).putNew (by omega) _⟩
  case hstop =>
    rintro D c' W hD hi hK
    exact hi.elim
end Go.Proofs.Ytldnnkceeeinlaa
