/- 'Forget': all of a client is taken away. No condition but the queue's own. -/
import Derived.Test.YtldnnkceeeinlaaBSweep
namespace Go.Proofs.Ytldnnkceeeinlaa
open Go.RowKit

/-- An item that a client no longer waits for. -/
def unw (c : Nat) (p : Nat × It) : Nat × It := (p.1, ⟨p.2.e, p.2.u.set c (-1)⟩)
theorem set_mid {α : Type} (a : List α) (x y : α) (t : List α) : (a ++ x :: t).set a.length y = (a ++ [y]) ++ t := by simp

section
variable {B q g h k : Nat} {W : World} {l : List (Nat × It)} {lost : List Int}
theorem QAt.put (hq : QAt B W q g h k l lost) {j : Nat} {x : Nat × It} (hx : l[j]? = some x) (c : Nat) :
    QAt B (W.setCell ⟨x.1, 6 + c, none⟩ (.int .i64 (-1))) q g h k (l.set j (unw c x)) lost := by
  have hxm := List.mem_of_getElem? hx
  have hj : j < l.length := (List.getElem?_eq_some_iff.1 hx).1
  have hxj : l[j] = x := (List.getElem?_eq_some_iff.1 hx).2
  have hk : Keeps [x.1] W (W.setCell ⟨x.1, 6 + c, none⟩ (.int .i64 (-1))) := (Keeps.refl _ _).setCell (by simp) _
  have ha := ring_apart hq.ring (hq.item x hxm) (by decide) (by decide)
  simp only [List.mem_cons, List.not_mem_nil, or_false, not_or] at ha
  have hids : (l.set j (unw c x)).map (·.1) = l.map (·.1) := by
    rw [List.map_set]
    refine List.ext_getElem (by simp) fun i h1 h2 => ?_
    rw [List.getElem_set]
    split
    · rename_i e
      subst e
      simp [unw, hxj]
    · rfl
  have hmem : ∀ p ∈ l.set j (unw c x), p = unw c x ∨ p ∈ l ∧ p.1 ≠ x.1 := fun p hp => by
    obtain ⟨i, hi⟩ := List.mem_iff_getElem?.1 hp
    by_cases e : i = j
    · subst e
      rw [List.getElem?_set_self hj] at hi
      exact .inl (Option.some.inj hi).symm
    · rw [List.getElem?_set_ne (Ne.symm e)] at hi
      refine .inr ⟨List.mem_of_getElem? hi, fun h1 => e ?_⟩
      have hil : i < l.length := (List.getElem?_eq_some_iff.1 hi).1
      have h2 : (l.map (·.1))[i]'(by simpa using hil) = (l.map (·.1))[j]'(by simpa using hj) := by
        simp only [List.getElem_map, hxj, (List.getElem?_eq_some_iff.1 hi).2, h1]
      have hp := List.pairwise_iff_getElem.1 hq.nodup
      rcases Nat.lt_trichotomy i j with h3 | h3 | h3
      · exact absurd h2 (hp i j (by simpa using hil) (by simpa using hj) h3)
      · exact h3
      · exact absurd h2.symm (hp j i (by simpa using hj) (by simpa using hil) h3)
  refine ⟨hk.heap hq.own (by simp [Ne.symm (hq.item_ne hxm)]), ?_, fun p hp => ?_, fun p hp => ?_, by rw [hids]; exact hq.nodup, hq.lost8, hq.base.1, hq.base.2.1, hq.base.2.2.1, hq.base.2.2.2.1, fun p hp => ?_⟩
  · rw [hids]
    exact hq.ring.keeps hk (by simp; exact Ne.symm ha.1) (by simp; exact Ne.symm ha.2.1) (by simp; exact Ne.symm ha.2.2)
  · rcases hmem p hp with rfl | ⟨h1, h2⟩
    · show (W.setCell _ _).heap[x.1]? = _
      rw [heap_setCell_self (hq.item x hxm), itA_set]
      rfl
    · exact hk.heap (hq.item p h1) (by simp [h2])
  · rcases hmem p hp with rfl | ⟨h1, h2⟩
    · simp [unw, hq.wide x hxm]
    · exact hq.wide p h1
  · rcases hmem p hp with rfl | ⟨h1, h2⟩
    · exact hq.base.2.2.2.2 x hxm
    · exact hq.base.2.2.2.2 p h1
theorem QAt.putBK (hq : QAt B W q g h k l lost) {x : Nat × It} (hx : x ∈ l) (n c : Nat) (y : Value) : BK B W ((W.drewN n).setCell ⟨x.1, c, none⟩ y) :=
  BK.of_keeps (S := [x.1]) (((Keeps.refl _ _).drewN n).setCell (by simp) _) (fun z hz => by
    obtain rfl : z = x.1 := by simpa using hz
    exact ⟨hq.base.2.2.2.2 x hx, fun o ho => by rw [hq.item x hx] at ho; obtain rfl := Option.some.inj ho; rfl⟩)
end
theorem BK.turn {B D : Nat} {w a b : World} (h : BK B w a) (ht : Rng.Turn D a b) (hD : w.heap.size ≤ D) : BK B w b :=
  ⟨ht.os.trans h.os, ht.tape.trans h.tape, ht.output.trans h.output, Nat.le_trans h.size ht.size, fun k o ho hc => ht.keep k o (h.keep k o ho hc) (.inl (by have := lt_of_block ho; omega))⟩

/-- Behind j items. -/
def fgt (c : Nat) (l : List (Nat × It)) (j : Nat) : List (Nat × It) := (l.take j).map (unw c) ++ l.drop j
theorem fgt_get {c : Nat} {l : List (Nat × It)} {j : Nat} {x : Nat × It} (hx : l[j]? = some x) : (fgt c l j)[j]? = some x ∧ (fgt c l j).set j (unw c x) = fgt c l (j + 1) := by
  have hj : j < l.length := (List.getElem?_eq_some_iff.1 hx).1
  have hd : l.drop j = x :: l.drop (j + 1) := by rw [List.drop_eq_getElem_cons hj, (List.getElem?_eq_some_iff.1 hx).2]
  have hlen : ((l.take j).map (unw c)).length = j := by simp; omega
  constructor
  · rw [fgt, hd, List.getElem?_append_right (by omega), hlen]
    simp
  · rw [fgt, hd]
    have := set_mid ((l.take j).map (unw c)) x (unw c x) (l.drop (j + 1))
    rw [hlen] at this
    rw [this, fgt, List.take_add_one, hx]
    simp
theorem fgt_ids (c : Nat) (l : List (Nat × It)) (j : Nat) : (fgt c l j).map (·.1) = l.map (·.1) := by
  rw [fgt, List.map_append, List.map_map, show ((fun x : Nat × It => x.1) ∘ unw c) = (fun x => x.1) from rfl, ← List.map_append, List.take_append_drop]

structure Fg (B : Nat) (w0 : World) (q g h k b : Nat) (l : List (Nat × It)) (lost : List Int) (c : Nat) (W : World) : Prop where
  own : QAt B W q g h k l lost
  bk : BK B w0 W
  box : W.heap[b]? = some (.cells #[.int .i64 c] 3 (0, 0))

attribute [local go_sem] Oper.semAt_some
set_option maxHeartbeats 1600000 in
set_option maxRecDepth 100000 in
theorem forget {B q : Nat} {w : World} {l : List (Nat × It)} {lost : List Int} (hq : QIs B w q l lost) {c : Nat} (hc8 : c < 8) :
    Calls Try.prog 18 #[.pointer (some ⟨q, 0, none⟩), .int .i64 c] w fun e w' => e = .returned (.int .i64 0) ∧ QIs B w' q (sweepL (l.map (unw c))) (lost.set c 0) ∧ BK B w w' := by
  obtain ⟨g, h, k, hq⟩ := hq
  have hBw : B ≤ w.heap.size := by have := hq.base.1; have := hq.lts.1; omega
  refine (callsIn_wide (n := 9)).1 (callsIn_of_wp_marks Try.func18 rfl trivial ?_ rfl)
  refine wpIn_wide.2 ?_
  simp only [Try.ntmps18, List.size_toArray, List.length_cons, List.length_nil, Nat.reduceAdd, Nat.reduceSub, Array.replicate_succ, Array.replicate_zero, List.push_toArray, List.append_toArray, List.nil_append, List.cons_append]
  go_upto_region 1 with fail
  obtain ⟨b, hb⟩ : ∃ b, b = w.heap.size := ⟨_, rfl⟩
  obtain ⟨w1, hw1⟩ : ∃ w1, w1 = w.alloc (.cells #[.int .i64 c] 3) := ⟨_, rfl⟩
  rw [← hw1, ← hb]
  have hk1 : Keeps [] w w1 := by rw [hw1]; exact (Keeps.refl _ _).alloc _
  have hbx : w1.heap[b]? = some (.cells #[.int .i64 c] 3 (0, 0)) := by rw [hw1, hb]; exact heap_alloc_new _ _
  have hlt := hq.lts
  have hgb : g < b ∧ h < b ∧ k < b := by omega
  have hbw : w.heap.size ≤ b := by omega
  have HI0 : Hid (Fg B w q g h k b (fgt c l 0) lost c w1) := ⟨by simpa [fgt] using hq.new hk1, BK.new hk1, hbx⟩
  obtain ⟨cq, _⟩ := cell_at (hq.new hk1).own (qA_zero g lost)
  obtain ⟨c3, _⟩ := cell_at hbx (p := 0) rfl
  have HQ : Hid (∀ p ∈ l, p.1 < w.heap.size) := hq.lts.2.2.2.2
  have HR := Go.Lib.hid (hq.new hk1).ring
  clear hw1 hk1 hlt hb hbx hq
  go_wp2_with fail
  refine (client_yes hc8 _).mono ?_
  rintro e w' ⟨rfl, rfl⟩
  go_wp2_with fail
  refine (RPtr.all _ _).mono ?_
  rintro e w3 ⟨rfl, rfl⟩
  go_wp2_with fail
  obtain ⟨b6, hb6⟩ : ∃ b6, b6 = w1.heap.size := ⟨_, rfl⟩
  obtain ⟨w4, hw4⟩ : ∃ w4, w4 = w1.alloc (.cells #[.pointer (some ⟨g, 0, none⟩)] 67) := ⟨_, rfl⟩
  rw [← hw4, ← hb6]
  have hk4 : Keeps [] w1 w4 := by rw [hw4]; exact (Keeps.refl _ _).alloc _
  have hx6 : w4.cell? ⟨b6, 0, none⟩ = some (.pointer (some ⟨g, 0, none⟩)) := by rw [hw4, hb6]; exact (cell_at (heap_alloc_new _ _) rfl).1
  have HI : Hid (Fg B w q g h k b (fgt c l 0) lost c w4) := ⟨HI0.out.own.new hk4, HI0.out.bk.trans (BK.new hk4), hk4.heap HI0.out.box (by simp)⟩
  have HR4 := Go.Lib.hid (HR.out.keeps hk4 (by simp) (by simp) (by simp))
  have h7 := lt_of_block HI.out.box
  clear hk4 hw4 HI0 hb6 cq c3 HR
  apply Rng.wp_range1 (gf := 45) (lb := #[.pointer (some ⟨b6, 0, none⟩)]) rfl (enters_of Try.func45 (by kernel_rfl) rfl) (RPtr.all_iter hx6 HR4.out) (fun _ => rfl)
    (I := fun j W => Fg B w q g h k b (fgt c l j) lost c W) (Ix := fun _ _ => False)
    (hI := fun j W W' hi ht => ⟨hi.own.spin ht (by omega), hi.bk.turn ht (by omega), ht.heap hi.box⟩) (hIx := fun _ _ _ h _ => h.elim) (h0 := HI.out)
  case hassign =>
    intro y j W hj hi
    simp only [RPtr.elem, RPtr.encv]
    gi_wp2
    trivial
  case hbody =>
    intro y j W hj hi
    rw [List.length_map] at hj
    obtain ⟨x, hx⟩ : ∃ x, l[j]? = some x := ⟨_, List.getElem?_eq_getElem hj⟩
    obtain ⟨hxg, hset⟩ := fgt_get (c := c) hx
    have hxm := List.mem_of_getElem? hxg
    rw [show RPtr.nth (l.map (·.1)) j = x.1 from RPtr.nth_at (by simp [hx])]
    obtain ⟨t, ht⟩ : ∃ t, x.2.u[c]? = some t := ⟨_, List.getElem?_eq_getElem (by rw [hi.own.wide x hxm]; exact hc8)⟩
    obtain ⟨x0, x1⟩ := cell_at (hi.own.item x hxm) (itA_get ht)
    obtain ⟨c3, _⟩ := cell_at hi.box (p := 0) rfl
    have hd1 : decide (c < 8) = true := decide_eq_true hc8
    have hxb : x.1 ≠ b := block_ne (hi.own.item x hxm) hi.box (by simp)
    have hsz := hi.bk.size
    have HN : Hid (∀ n, Fg B w q g h k b (fgt c l (j + 1)) lost c ((W.drewN n).setCell ⟨x.1, 6 + c, none⟩ (.int .i64 (-1)))) := fun n => by
      refine ⟨?_, hi.bk.trans (hi.own.putBK hxm n _ _), ?_⟩
      · rw [← hset]; exact (hi.own.drewN n).put hxg c
      · rw [Below.heap_setCell _ _ _ _ (Ne.symm hxb)]; exact hi.box
    have HH : Hid (∀ n, Rng.Hold w4.heap.size W ((W.drewN n).setCell ⟨x.1, 6 + c, none⟩ (.int .i64 (-1)))) := fun n => by
      refine Rng.Hold.of_keeps (((Keeps.refl [x.1] _).drewN n).setCell (by simp) _) (fun z hz => ?_)
      obtain rfl : z = x.1 := by simpa using hz
      have : x.1 ∈ l.map (·.1) := by rw [← fgt_ids c l j]; exact List.mem_map_of_mem hxm
      obtain ⟨p, hp, hpe⟩ := List.mem_map.1 this
      have := HQ.out p hp
      omega
    clear hi hx hxg hset ht
    gi_wp2_with fail
    refine RTail.wpIn_region_dtail_r 5 (by kernel_rfl) (by kernel_rfl) (by kernel_rfl) ?_ ?_
    · rintro ⟨_, _, hh⟩
      exact hh
    simp only [List.take_succ_cons, List.take_zero, List.drop_succ_cons, List.drop_zero]
    repeat (go_big_quiet_step (fail))
    refine wpQuiet_nil ?_
    rintro _ ⟨n1, rfl⟩
    go_wp2_with fail
    gi_wp2
    exact ⟨HH.out n1, HN.out n1⟩
  case hdone =>
    intro D W hD hi hK
    obtain ⟨own, bk, bx⟩ := hi
    have own : QAt B W q g h k (l.map (unw c)) lost := by
      rw [fgt, List.length_map, List.take_of_length_le (Nat.le_refl _), List.drop_of_length_le (Nat.le_refl _), List.append_nil] at own
      exact own
    obtain ⟨z, hz⟩ : ∃ z, lost[c]? = some z := ⟨_, List.getElem?_eq_getElem (by rw [own.lost8]; exact hc8)⟩
    obtain ⟨q0, q1⟩ := cell_at own.own (qA_get (g := g) hz)
    obtain ⟨c3, _⟩ := cell_at bx (p := 0) rfl
    have hd1 : decide (c < 8) = true := decide_eq_true hc8
    have HQ2 : Hid (∀ n, QIs B ((W.drewN n).setCell ⟨q, 1 + c, none⟩ (.int .i64 0)) q (l.map (unw c)) (lost.set c 0)) := fun n => ⟨g, h, k, (own.drewN n).lose c 0⟩
    have HB2 : Hid (∀ n, BK B w ((W.drewN n).setCell ⟨q, 1 + c, none⟩ (.int .i64 0))) := fun n => bk.trans (own.loseBK n c _)
    have HD : Hid (∀ n, ((W.drewN n).setCell ⟨q, 1 + c, none⟩ (.int .i64 0)).heap[D]? = some (.deferred (some []))) := fun n => by
      rw [Below.heap_setCell _ _ _ _ (block_ne hK own.own (by simp))]; exact hK
    clear own bk bx hK hz
    go_wp2_with fail
    refine QTail.wp_region_dtail 5 (by kernel_rfl) (by kernel_rfl) ?_
    simp only [List.take_succ_cons, List.take_zero, List.drop_succ_cons, List.drop_zero]
    repeat (go_big_quiet_step (fail))
    refine wpQuiet_nil ?_
    rintro _ ⟨n1, rfl⟩
    go_wp2_with fail
    refine (sweep (HQ2.out n1)).mono ?_
    rintro e w5 ⟨⟨v, rfl⟩, hq5, hb5⟩
    have HQ5 := Go.Lib.hid hq5
    have HB5 := Go.Lib.hid ((HB2.out n1).trans hb5)
    have hD5 := hb5.keep D _ (HD.out n1) (.inr rfl)
    clear hq5 hb5
    go_wp2_with fail
    refine ⟨by simp, .inl ⟨_, _, rfl, run_takeDeferred hD5, ?_⟩⟩
    refine ⟨_, results_tmp rfl _ _ _, rfl, HQ5.out.spin hD5, HB5.out.putNew (by omega) _⟩
  case hstop =>
    rintro D c' W hD hi hK
    exact hi.elim
end Go.Proofs.Ytldnnkceeeinlaa
