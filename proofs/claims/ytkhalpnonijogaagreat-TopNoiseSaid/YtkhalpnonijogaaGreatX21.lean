/- cmd.Decode of a subscription's payload, of a status'. No condition but the numbers' bounds. -/
import Derived.Test.YtkhalpnonijogaaGreatX20
import Derived.Deep.RegionHeld3
namespace Go.Proofs.YtkhalpnonijogaaGreat
open Go.RowKit

theorem be1 (a : BitVec 8) : be [a] = a.toNat := by simp [be]
theorem be2 (a b : BitVec 8) : be [a, b] = a.toNat * 256 + b.toNat := by simp [be]
theorem be4 (a b c d : BitVec 8) : be [a, b, c, d] = ((a.toNat * 256 + b.toNat) * 256 + c.toNat) * 256 + d.toNat := by simp [be]
theorem pay_c {x : Sb} (hx : x.Ok) : be (x.pay.take 1) = x.c := by
  have := hx.c
  show be [_] = _
  rw [be1]; simp; omega
theorem pay_s {x : Sb} (hx : x.Ok) : be ((x.pay.drop 1).take 1) = x.s := by
  have := hx.s15
  show be [_] = _
  rw [be1]; simp; omega
theorem pay_p {x : Sb} (hx : x.Ok) : be (((x.pay.drop 1).drop 1).take 2) = x.p := by
  have := hx.p1000
  show be [_, _] = _
  rw [be2]; simp; omega
theorem pay_l {x : Sb} (hx : x.Ok) : be ((((x.pay.drop 1).drop 1).drop 2).take 4) = x.l := by
  have := hx.l
  show be [_, _, _, _] = _
  rw [be4]; simp; omega
/-- The reader's number, named. -/
def TkN (q : Nat) (n : Nat) (l : List (BitVec 8)) (w : World) (e : Ending) (w' : World) : Prop :=
  ∃ v', e = .returned (.int .i64 n) ∧ w'.heap[q]? = some (.cells #[v', .bool true] 332 (0, 0)) ∧ RowAt w' v' l ∧ Keeps [q] w w'
theorem tkn_ok {q k n : Nat} {z : Int} {v : Value} {l l' : List (BitVec 8)} {w : World} (hq : w.heap[q]? = some (.cells #[v, .bool true] 332 (0, 0))) (hr : RowAt w v l) (hz : z = (k : Int)) (hk1 : 1 ≤ k) (hk : k ≤ l.length) (hk4 : k ≤ 4) (hl : l.length ≤ 1000) (hn : be (l.take k) = n) (hl' : l.drop k = l') :
    Calls Tryz.prog 152 #[.pointer (some ⟨q, 0, none⟩), .int .i64 z] w (TkN q n l' w) :=
  (rtake_ok hq hr hz hk1 hk hk4 hl).mono fun _ _ ⟨v', h1, h2, h3, h4⟩ => ⟨v', by rw [h1, hn], h2, hl' ▸ h3, h4⟩
def DecF (v : Array Value) (w : World) (e : Ending) (w' : World) : Prop := e = .returned (.tuple #[.agg v, .int .i64 0]) ∧ Keeps [] w w'
set_option maxHeartbeats 6400000 in
set_option maxRecDepth 100000 in
theorem dec_sub {x : Sb} (hx : x.Ok) {v : Value} {w : World} (hr : RowAt w v x.pay) :
    Calls Tryz.prog 99 #[.int .i64 1, v] w (DecF #[.int .i64 1, .int .i64 x.c, .int .i64 x.s, .int .i64 x.p, .int .i64 x.l, .int .i64 0, .slice none 0 0, .int .i64 x.c] w) := by
  obtain ⟨A, c, rfl, _⟩ := hr.ex
  have HR := Go.Lib.hid hr
  have HX := Go.Lib.hid hx
  clear hr hx
  go_enter Tryz.func99, Tryz.ntmps99
  go_upto_region 2 with fail
  obtain ⟨b, hb⟩ : ∃ b, b = w.heap.size := ⟨_, rfl⟩
  obtain ⟨w0, hw0⟩ : ∃ w0, w0 = (w.alloc (.cells #[.int .i64 0, .int .i64 0, .int .i64 0, .int .i64 0, .int .i64 0, .int .i64 0, .slice none 0 0, .int .i64 0] 59)).alloc (.cells #[.slice A x.pay.length c, .bool true] 332) := ⟨_, rfl⟩
  rw [← hw0, ← hb]
  have hk0 : Keeps [] w w0 := by rw [hw0]; exact ((Keeps.refl _ _).alloc _).alloc _
  have hb0 : w0.heap[b]? = some (.cells #[.int .i64 0, .int .i64 0, .int .i64 0, .int .i64 0, .int .i64 0, .int .i64 0, .slice none 0 0, .int .i64 0] 59 (0, 0)) := by
    rw [hw0, Below.heap_alloc _ _ _ (by simp [hb]), hb]; exact heap_alloc_new _ _
  have hq0 : w0.heap[b + 1]? = some (.cells #[.slice A x.pay.length c, .bool true] 332 (0, 0)) := by
    rw [hw0, hb, ← World.size_alloc w (.cells #[.int .i64 0, .int .i64 0, .int .i64 0, .int .i64 0, .int .i64 0, .int .i64 0, .slice none 0 0, .int .i64 0] 59)]; exact heap_alloc_new _ _
  have HT := Go.Lib.hid (tkn_ok (z := 1) (k := 1) hq0 (HR.out.keeps hk0 (by simp)) rfl (by omega) (by simp [Sb.pay]) (by omega) (by simp [Sb.pay]) (pay_c HX.out) rfl)
  have hbw : w.heap.size ≤ b := Nat.le_of_eq hb.symm
  have HK0 := Go.Lib.hid hk0
  have HB0 := Go.Lib.hid hb0
  have HQ0 := Go.Lib.hid hq0
  clear hb hw0 hk0 hb0 hq0
  go_wp2_with fail
  refine HT.out.mono ?_
  rintro e w1 ⟨v1, rfl, hq1, hr1, hk1⟩
  have hb1 := hk1.heap HB0.out (by simp)
  have HB1 := Go.Lib.hid hb1
  have HQ1 := Go.Lib.hid hq1
  have HR1 := Go.Lib.hid hr1
  have HK1 : Hid (Keeps [] w w1) := Go.Lib.hid (HK0.out.step hk1 (fun z hz => .inr (by rw [List.mem_singleton.1 hz]; omega)))
  clear hb1 hq1 hr1 hk1 HT HB0 HQ0 HK0
  go_upto_region 5 with fail
  obtain ⟨t, ht⟩ : ∃ t, t = w1.heap.size := ⟨_, rfl⟩
  obtain ⟨w2, hw2⟩ : ∃ w2, w2 = w1.alloc (.cells #[.int .i64 1, .int .i64 0, .int .i64 0, .int .i64 0, .int .i64 0, .int .i64 0, .slice none 0 0, .int .i64 x.c] 59) := ⟨_, rfl⟩
  rw [← hw2, ← ht]
  have hk2 : Keeps [] w1 w2 := by rw [hw2]; exact (Keeps.refl _ _).alloc _
  have ht2 : w2.heap[t]? = some (.cells #[.int .i64 1, .int .i64 0, .int .i64 0, .int .i64 0, .int .i64 0, .int .i64 0, .slice none 0 0, .int .i64 x.c] 59 (0, 0)) := by rw [hw2, ht]; exact heap_alloc_new _ _
  have hq2 := hk2.heap HQ1.out (by simp)
  have hr2 := HR1.out.keeps hk2 (by simp)
  have HP2 := Go.Lib.hid ht2
  have HQ2 := Go.Lib.hid (And.intro hq2 hr2)
  have HK2 := Go.Lib.hid (HK1.out.trans hk2)
  have HB2 := Go.Lib.hid (hk2.heap HB1.out (by simp))
  have hbt : Hid (t ∉ [b + 1] ∧ b ∉ [b + 1] ∧ b ∉ [t]) := Go.Lib.hid ⟨by rw [List.mem_singleton]; exact block_ne ht2 hq2 (by simp), by simp, by rw [List.mem_singleton]; have := lt_of_block HB1.out; omega⟩
  have hbt' : Hid (w.heap.size ≤ t ∧ w.heap.size ≤ b + 1) := Go.Lib.hid ⟨by rw [ht]; exact HK1.out.size, by omega⟩
  have kc : ∀ (W : World) (u1 u2 u3 u4 : Value), W.heap[t]? = some (.cells #[.int .i64 1, u1, u2, u3, u4, .int .i64 0, .slice none 0 0, .int .i64 x.c] 59 (0, 0)) →
      W.cell? ⟨t, 7, none⟩ = some (.int .i64 x.c) ∧ (W.cell? ⟨t, 1, none⟩ = some (held W ⟨t, 1, none⟩) ∧ W.frozen? ⟨t, 1, none⟩ = false) ∧ (W.cell? ⟨t, 2, none⟩ = some (held W ⟨t, 2, none⟩) ∧ W.frozen? ⟨t, 2, none⟩ = false) ∧ (W.cell? ⟨t, 3, none⟩ = some (held W ⟨t, 3, none⟩) ∧ W.frozen? ⟨t, 3, none⟩ = false) ∧ (W.cell? ⟨t, 4, none⟩ = some (held W ⟨t, 4, none⟩) ∧ W.frozen? ⟨t, 4, none⟩ = false) := fun W u1 u2 u3 u4 h => by
    obtain ⟨k0, k1, k2, k3, k4, k5, k6, k7⟩ := cells8 h
    obtain ⟨l0, l1, l2, l3, l4, l5, l6, l7⟩ := free8 h
    exact ⟨k7, st_ok k1 l1, st_ok k2 l2, st_ok k3 l3, st_ok k4 l4⟩
  have KC := Go.Lib.hid kc
  clear hw2 ht hk2 ht2 hq2 hr2 kc HQ1 HR1 HK1 HB1
  go_region_held3 (fun W => W.cell? ⟨t, 7, none⟩ = some (.int .i64 x.c) ∧ (W.cell? ⟨t, 1, none⟩ = some (held W ⟨t, 1, none⟩) ∧ W.frozen? ⟨t, 1, none⟩ = false) ∧ (W.cell? ⟨t, 2, none⟩ = some (held W ⟨t, 2, none⟩) ∧ W.frozen? ⟨t, 2, none⟩ = false) ∧ (W.cell? ⟨t, 3, none⟩ = some (held W ⟨t, 3, none⟩) ∧ W.frozen? ⟨t, 3, none⟩ = false) ∧ (W.cell? ⟨t, 4, none⟩ = some (held W ⟨t, 4, none⟩) ∧ W.frozen? ⟨t, 4, none⟩ = false))
    (first | exact KC.out _ _ _ _ _ HP2.out | exact KC.out _ _ _ _ _ HP3.out | exact KC.out _ _ _ _ _ HP4.out | exact KC.out _ _ _ _ _ HP5.out | exact KC.out _ _ _ _ _ ((heap_setCell_self (heap_setCell_self (heap_setCell_self (heap_setCell_self HP5.out)))).trans (by rfl)) | fail)
    (first
      | (go_at_call 152; (refine (tkn_ok (z := 4) (k := 4) HQ4.out.1 HQ4.out.2 rfl (by omega) (by simp [Sb.pay]) (by omega) (by simp [Sb.pay]) (pay_l HX.out) rfl).mono ?_; rintro e w5 ⟨v5, rfl, hq5, hr5, hk5⟩); have HP5 := Go.Lib.hid (hk5.heap HP4.out hbt.out.1); have HQ5 := Go.Lib.hid (And.intro hq5 hr5); have HK5 := Go.Lib.hid hk5; clear hq5 hr5 hk5)
      | (go_at_call 152; (refine (tkn_ok (z := 2) (k := 2) HQ3.out.1 HQ3.out.2 rfl (by omega) (by simp [Sb.pay]) (by omega) (by simp [Sb.pay]) (pay_p HX.out) rfl).mono ?_; rintro e w4 ⟨v4, rfl, hq4, hr4, hk4⟩); have HP4 := Go.Lib.hid (hk4.heap HP3.out hbt.out.1); have HQ4 := Go.Lib.hid (And.intro hq4 hr4); have HK4 := Go.Lib.hid hk4; clear hq4 hr4 hk4)
      | (go_at_call 152; (refine (tkn_ok (w := w2.drew) (z := 1) (k := 1) HQ2.out.1 (HQ2.out.2.keeps ((Keeps.refl [] w2).drew) (by simp)) rfl (by omega) (by simp [Sb.pay]) (by omega) (by simp [Sb.pay]) (pay_s HX.out) rfl).mono ?_; rintro e w3 ⟨v3, rfl, hq3, hr3, hk3⟩); have HP3 := Go.Lib.hid (hk3.heap HP2.out hbt.out.1); have HQ3 := Go.Lib.hid (And.intro hq3 hr3); have HK3 := Go.Lib.hid hk3; clear hq3 hr3 hk3))
  obtain ⟨w6, hw6⟩ : ∃ w6, w6 = ((((w5.setCell ⟨t, 1, none⟩ (.int .i64 x.c)).setCell ⟨t, 2, none⟩ (.int .i64 x.s)).setCell ⟨t, 3, none⟩ (.int .i64 x.p)).setCell ⟨t, 4, none⟩ (.int .i64 x.l)) := ⟨_, rfl⟩
  rw [← hw6]
  have ht6 : w6.heap[t]? = some (.cells #[.int .i64 1, .int .i64 x.c, .int .i64 x.s, .int .i64 x.p, .int .i64 x.l, .int .i64 0, .slice none 0 0, .int .i64 x.c] 59 (0, 0)) := by
    rw [hw6]
    exact (heap_setCell_self (heap_setCell_self (heap_setCell_self (heap_setCell_self HP5.out)))).trans (by rfl)
  have hk6 : Keeps [t] w5 w6 := by rw [hw6]; exact ((((Keeps.refl [t] w5).setCell (by simp) _).setCell (by simp) _).setCell (by simp) _).setCell (by simp) _
  obtain ⟨A5, c5, hv5, _⟩ := HQ5.out.2.ex
  have hl0 : ((((x.pay.drop 1).drop 1).drop 2).drop 4).length = 0 := rfl
  rw [hl0] at hv5
  have hq6 := hk6.heap HQ5.out.1 (by have := hbt.out.1; simp at this ⊢; omega)
  rw [hv5] at hq6
  have HD := Go.Lib.hid (done_yes hq6)
  have HG := Go.Lib.hid (fun W => good_sub HX.out W)
  have hbb : w6.heap[b]? = some (.cells #[.int .i64 0, .int .i64 0, .int .i64 0, .int .i64 0, .int .i64 0, .int .i64 0, .slice none 0 0, .int .i64 0] 59 (0, 0)) :=
    hk6.heap (HK5.out.heap (HK4.out.heap (HK3.out.heap HB2.out hbt.out.2.1) hbt.out.2.1) hbt.out.2.1) hbt.out.2.2
  have hkw : Keeps [] w w6 := by
    have hs : ∀ z ∈ [b + 1], z ∈ ([] : List Nat) ∨ w.heap.size ≤ z := fun z hz => .inr (by rw [List.mem_singleton.1 hz]; exact hbt'.out.2)
    exact (((HK2.out.drew.step HK3.out hs).step HK4.out hs).step HK5.out hs).step hk6 (fun z hz => .inr (by rw [List.mem_singleton.1 hz]; exact hbt'.out.1))
  obtain ⟨p0, p1, p2, p3, p4, p5, p6, p7⟩ := cells8 ht6
  have HT6 := Go.Lib.hid ht6
  have HBB := Go.Lib.hid hbb
  have HKW := Go.Lib.hid hkw
  have hwb : w.heap.size ≤ b := hbw
  clear hw6 ht6 hk6 hv5 hl0 hq6 hbb hkw
  go_wp2_with fail
  refine HD.out.mono ?_
  rintro e w' ⟨rfl, rfl⟩
  clear HD
  go_wp2_with fail
  refine (HG.out _).mono ?_
  rintro e w7 ⟨rfl, hk7⟩
  obtain ⟨q0, q1, q2, q3, q4, q5, q6, q7⟩ := cells8 (hk7.heap HT6.out (by simp))
  obtain ⟨r0, r1, r2, r3, r4, r5, r6, r7⟩ := cells8 (hk7.heap HBB.out (by simp))
  obtain ⟨f0, f1, f2, f3, f4, f5, f6, f7⟩ := free8 (hk7.heap HBB.out (by simp))
  have HKW7 := Go.Lib.hid (HKW.out.trans hk7)
  clear hk7 p0 p1 p2 p3 p4 p5 p6 p7 HG
  go_wp2_with fail
  refine bodyPost_ret (v := .tuple #[.agg #[.int .i64 1, .int .i64 x.c, .int .i64 x.s, .int .i64 x.p, .int .i64 x.l, .int .i64 0, .slice none 0 0, .int .i64 x.c], .int .i64 0]) (by simp [results, Tryz.f99, go_sem, r0, r1, r2, r3, r4, r5, r6, r7]) rfl ⟨rfl, ?_⟩
  repeat (refine Keeps.setNew ?_ (by exact hwb) _)
  exact HKW7.out
set_option maxHeartbeats 3200000 in
set_option maxRecDepth 100000 in
theorem dec_stat {v : Value} {w : World} (hr : RowAt w v [0#8]) :
    Calls Tryz.prog 99 #[.int .i64 6, v] w (DecF #[.int .i64 6, .int .i64 0, .int .i64 0, .int .i64 0, .int .i64 0, .int .i64 0, .slice none 0 0, .int .i64 0] w) := by
  obtain ⟨A, c, rfl, _⟩ := hr.ex
  have HR := Go.Lib.hid hr
  clear hr
  go_enter Tryz.func99, Tryz.ntmps99
  go_upto_region 2 with fail
  obtain ⟨b, hb⟩ : ∃ b, b = w.heap.size := ⟨_, rfl⟩
  obtain ⟨w0, hw0⟩ : ∃ w0, w0 = (w.alloc (.cells #[.int .i64 0, .int .i64 0, .int .i64 0, .int .i64 0, .int .i64 0, .int .i64 0, .slice none 0 0, .int .i64 0] 59)).alloc (.cells #[.slice A [0#8].length c, .bool true] 332) := ⟨_, rfl⟩
  rw [show [0#8].length = 1 from rfl] at hw0
  rw [← hw0, ← hb]
  have hk0 : Keeps [] w w0 := by rw [hw0]; exact ((Keeps.refl _ _).alloc _).alloc _
  have hb0 : w0.heap[b]? = some (.cells #[.int .i64 0, .int .i64 0, .int .i64 0, .int .i64 0, .int .i64 0, .int .i64 0, .slice none 0 0, .int .i64 0] 59 (0, 0)) := by
    rw [hw0, Below.heap_alloc _ _ _ (by simp [hb]), hb]; exact heap_alloc_new _ _
  have hq0 : w0.heap[b + 1]? = some (.cells #[.slice A 1 c, .bool true] 332 (0, 0)) := by
    rw [hw0, hb, ← World.size_alloc w (.cells #[.int .i64 0, .int .i64 0, .int .i64 0, .int .i64 0, .int .i64 0, .int .i64 0, .slice none 0 0, .int .i64 0] 59)]; exact heap_alloc_new _ _
  have HT := Go.Lib.hid (tkn_ok (n := 0) (l' := []) (z := 1) (k := 1) hq0 (HR.out.keeps hk0 (by simp)) rfl (by omega) (by simp) (by omega) (by simp) rfl rfl)
  have hbw : w.heap.size ≤ b := Nat.le_of_eq hb.symm
  have HK0 := Go.Lib.hid hk0
  have HB0 := Go.Lib.hid hb0
  clear hb hw0 hk0 hb0 hq0
  go_wp2_with fail
  refine HT.out.mono ?_
  rintro e w1 ⟨v1, rfl, hq1, hr1, hk1⟩
  obtain ⟨A1, c1, rfl, _⟩ := hr1.ex
  rw [show ([] : List (BitVec 8)).length = 0 from rfl] at hq1
  have HB1 := Go.Lib.hid (hk1.heap HB0.out (by simp))
  have HQ1 := Go.Lib.hid hq1
  have HK1 : Hid (Keeps [] w w1) := Go.Lib.hid (HK0.out.step hk1 (fun z hz => .inr (by rw [List.mem_singleton.1 hz]; omega)))
  clear hq1 hr1 hk1 HT HB0 HK0
  go_upto_region 13 with fail
  obtain ⟨t, ht⟩ : ∃ t, t = w1.heap.size := ⟨_, rfl⟩
  obtain ⟨w2, hw2⟩ : ∃ w2, w2 = w1.alloc (.cells #[.int .i64 6, .int .i64 0, .int .i64 0, .int .i64 0, .int .i64 0, .int .i64 0, .slice none 0 0, .int .i64 ((0 : Nat) : Int)] 59) := ⟨_, rfl⟩
  rw [show ((0 : Nat) : Int) = 0 from rfl] at hw2
  rw [← hw2, ← ht]
  have hk2 : Keeps [] w1 w2 := by rw [hw2]; exact (Keeps.refl _ _).alloc _
  have ht2 : w2.heap[t]? = some (.cells #[.int .i64 6, .int .i64 0, .int .i64 0, .int .i64 0, .int .i64 0, .int .i64 0, .slice none 0 0, .int .i64 0] 59 (0, 0)) := by rw [hw2, ht]; exact heap_alloc_new _ _
  have HD := Go.Lib.hid (done_yes (hk2.heap HQ1.out (by simp)))
  have HG := Go.Lib.hid good_stat
  obtain ⟨p0, p1, p2, p3, p4, p5, p6, p7⟩ := cells8 ht2
  have HT2 := Go.Lib.hid ht2
  have HBB := Go.Lib.hid (hk2.heap HB1.out (by simp))
  have HKW := Go.Lib.hid (HK1.out.trans hk2)
  clear hw2 ht hk2 ht2
  go_wp2_with fail
  refine HD.out.mono ?_
  rintro e w' ⟨rfl, rfl⟩
  clear HD
  go_wp2_with fail
  refine (HG.out _).mono ?_
  rintro e w7 ⟨rfl, hk7⟩
  obtain ⟨q0, q1, q2, q3, q4, q5, q6, q7⟩ := cells8 (hk7.heap HT2.out (by simp))
  obtain ⟨r0, r1, r2, r3, r4, r5, r6, r7⟩ := cells8 (hk7.heap HBB.out (by simp))
  obtain ⟨f0, f1, f2, f3, f4, f5, f6, f7⟩ := free8 (hk7.heap HBB.out (by simp))
  have HKW7 := Go.Lib.hid (HKW.out.trans hk7)
  clear hk7 p0 p1 p2 p3 p4 p5 p6 p7 HG
  go_wp2_with fail
  refine bodyPost_ret (v := .tuple #[.agg #[.int .i64 6, .int .i64 0, .int .i64 0, .int .i64 0, .int .i64 0, .int .i64 0, .slice none 0 0, .int .i64 0], .int .i64 0]) (by simp [results, Tryz.f99, go_sem, r0, r1, r2, r3, r4, r5, r6, r7]) rfl ⟨rfl, ?_⟩
  repeat (refine Keeps.setNew ?_ (by exact hbw) _)
  exact HKW7.out
end Go.Proofs.YtkhalpnonijogaaGreat
