/- hub.states: the walk. No condition but the hub's. | hub.answer of a status: the walk. No condition but the hub's. -/
import Derived.Test.YtkhalpnonijogaaGreatX29
import Derived.Deep.MidRow
import Derived.Deep.RegionHeld3
namespace Go.Proofs.YtkhalpnonijogaaGreat
open Go.RowKit

theorem range_app {w : World} {b o o' : Nat} {xs ys : List Value} (h : w.rangeAt b o xs) (k : w.rangeAt b o' ys) (ho : o' = o + xs.length) : w.rangeAt b o (xs ++ ys) := by
  intro j v hj
  by_cases hl : j < xs.length
  · rw [List.getElem?_append_left hl] at hj
    exact h j v hj
  · rw [List.getElem?_append_right (by omega)] at hj
    have := k _ _ hj
    rwa [ho, show o + xs.length + (j - xs.length) = o + j by omega] at this
def fives (b0 b1 b2 b3 b4 : Bool) (p0 p1 p2 p3 p4 : Int) : List Value := [.int .i64 16, .int .i64 49, .bool b0, .int .i64 p0, .int .i64 8, .int .i64 0, .bool false, .int .i64 0, .int .i64 0, .int .i64 17, .int .i64 50, .bool b1, .int .i64 p1, .int .i64 8, .int .i64 0, .bool false, .int .i64 0, .int .i64 0, .int .i64 18, .int .i64 51, .bool b2, .int .i64 p2, .int .i64 8, .int .i64 0, .bool false, .int .i64 0, .int .i64 0, .int .i64 19, .int .i64 52, .bool b3, .int .i64 p3, .int .i64 8, .int .i64 0, .bool false, .int .i64 0, .int .i64 0, .int .i64 20, .int .i64 53, .bool b4, .int .i64 p4, .int .i64 8, .int .i64 0, .bool false, .int .i64 0, .int .i64 0]
theorem drv_range {w : World} {h d : Nat} {arr : Array Value} {a id p st fl : Int} {want tr : Bool} (hh : w.heap[h]? = some (.cells arr 94 (0, 0))) (hx : ∀ j : Nat, j < 9 → arr[3 + d * 9 + j]? = (drvA a id want p st fl tr)[j]?) : w.rangeAt h (3 + d * 9) (drvA a id want p st fl tr).toList := by
  intro j v hj
  have hl : j < 9 := by simpa [drvA] using (List.getElem?_eq_some_iff.1 hj).1
  rw [cell_of_row w h _ arr 94 (0, 0) hh, hx j hl]
  simpa using hj
theorem fives_range {w : World} {h : Nat} {arr : Array Value} (hh : w.heap[h]? = some (.cells arr 94 (0, 0))) (hd : DrvsIs arr) : ∃ b0 b1 b2 b3 b4 p0 p1 p2 p3 p4, w.rangeAt h 3 (fives b0 b1 b2 b3 b4 p0 p1 p2 p3 p4) := by
  obtain ⟨b0, p0, _, _, h0⟩ := hd 0 (by omega)
  obtain ⟨b1, p1, _, _, h1⟩ := hd 1 (by omega)
  obtain ⟨b2, p2, _, _, h2⟩ := hd 2 (by omega)
  obtain ⟨b3, p3, _, _, h3⟩ := hd 3 (by omega)
  obtain ⟨b4, p4, _, _, h4⟩ := hd 4 (by omega)
  refine ⟨b0, b1, b2, b3, b4, p0, p1, p2, p3, p4, ?_⟩
  exact range_app (o' := 3 + 1 * 9) (drv_range hh h0) (range_app (o' := 3 + 2 * 9) (drv_range hh h1) (range_app (o' := 3 + 3 * 9) (drv_range hh h2) (range_app (o' := 3 + 4 * 9) (drv_range hh h3) (drv_range hh h4) rfl) rfl) rfl) rfl
theorem info87 : (Tryz.prog.info? 87).map (·.size) = some 45 := by kernel_rfl
theorem idx5 (b0 b1 b2 b3 b4 : Bool) (p0 p1 p2 p3 p4 : Int) {k : Nat} (hk : k < 5) : ∃ b p, ∀ W, (Instr.index 87 (.agg (fives b0 b1 b2 b3 b4 p0 p1 p2 p3 p4).toArray) (.int .i64 (k : Int))).run Tryz.prog W = .ok (.agg #[.int .i64 (16 + (k : Int)), .int .i64 (49 + (k : Int)), .bool b, .int .i64 p, .int .i64 8, .int .i64 0, .bool false, .int .i64 0, .int .i64 0]) W := by
  obtain rfl | rfl | rfl | rfl | rfl : k = 0 ∨ k = 1 ∨ k = 2 ∨ k = 3 ∨ k = 4 := by omega
  · exact ⟨b0, p0, fun W => by kernel_rfl⟩
  · exact ⟨b1, p1, fun W => by kernel_rfl⟩
  · exact ⟨b2, p2, fun W => by kernel_rfl⟩
  · exact ⟨b3, p3, fun W => by kernel_rfl⟩
  · exact ⟨b4, p4, fun W => by kernel_rfl⟩
def eights (k : Nat) : List (BitVec 8) := List.replicate k 8#8
set_option maxHeartbeats 6400000 in
set_option maxRecDepth 100000 in
theorem states_ok {h : Nat} {arr : Array Value} {w : World} (hh : w.heap[h]? = some (.cells arr 94 (0, 0))) (hd : DrvsIs arr) :
    Calls Tryz.prog 108 #[.pointer (some ⟨h, 0, none⟩)] w fun e w' => ∃ v, e = .returned v ∧ w'.ownsRow w.heap.size 5 1 v 5 (by8 (eights 5)) ∧ Keeps [] w w' := by
  obtain ⟨b0, b1, b2, b3, b4, p0, p1, p2, p3, p4, hr⟩ := fives_range hh hd
  obtain ⟨X, hX⟩ : ∃ X, X = (fives b0 b1 b2 b3 b4 p0 p1 p2 p3 p4).toArray := ⟨_, rfl⟩


  have HX := Go.Lib.hid hX
  clear hh hd hX
  go_enter Tryz.func108, Tryz.ntmps108
  go_upto_region 2 with (first | (refine wpList_load_mid rfl 87 (.tmp 7) rfl h 3 rfl (fives b0 b1 b2 b3 b4 p0 p1 p2 p3 p4) _ (by assumption) Tryz.underlying87 rfl info87 ?_) | fail)
  have hI : ∀ k : Nat, k < 5 → ∃ b p, ∀ W, (Instr.index 87 (.agg X) (.int .i64 (k : Int))).run Tryz.prog W = .ok (.agg #[.int .i64 (16 + (k : Int)), .int .i64 (49 + (k : Int)), .bool b, .int .i64 p, .int .i64 8, .int .i64 0, .bool false, .int .i64 0, .int .i64 0]) W := fun k hk => by
    rw [HX.out]; exact idx5 _ _ _ _ _ _ _ _ _ _ hk
  have HI := Go.Lib.hid hI
  rw [← HX.out]
  clear hr HX hI
  go_loopw [2, 9] (fun s2 s9 wx => ∃ k : Nat, k ≤ 5 ∧ s9 = .int .i64 k ∧ Hid (wx.ownsRow w.heap.size 5 1 s2 k (by8 (eights k)) ∧ Keeps [] w wx)) (fun _ s9 _ => 5 - (intOf s9).toNat)
  case atStart => exact ⟨0, by omega, rfl, Go.Lib.hid ⟨World.ownsRow_nil _ _ _ _, Keeps.refl _ _⟩⟩
  case round =>
    obtain ⟨k, hk, rfl, HK⟩ := hrel
    obtain ⟨A2, c2, rfl⟩ := own_form HK.out.1
    by_cases hk5 : k < 5
    · obtain ⟨b, p, hix⟩ := HI.out k hk5
      go_upto_region 4 with fail
      obtain ⟨t, ht⟩ : ∃ t, t = wr.heap.size := ⟨_, rfl⟩
      obtain ⟨w1, hw1⟩ : ∃ w1, w1 = wr.alloc (.cells #[.int .i64 (16 + (k : Int)), .int .i64 (49 + (k : Int)), .bool b, .int .i64 p, .int .i64 8, .int .i64 0, .bool false, .int .i64 0, .int .i64 0] 85) := ⟨_, rfl⟩
      rw [← hw1, ← ht]
      have ht1 : w1.heap[t]? = some (.cells #[.int .i64 (16 + (k : Int)), .int .i64 (49 + (k : Int)), .bool b, .int .i64 p, .int .i64 8, .int .i64 0, .bool false, .int .i64 0, .int .i64 0] 85 (0, 0)) := by rw [hw1, ht]; exact heap_alloc_new _ _
      have hk1 : Keeps [] wr w1 := by rw [hw1]; exact (Keeps.refl _ _).alloc _
      have t4 : w1.cell? ⟨t, 4, none⟩ = some (.int .i64 8) := (cell_at ht1 (p := 4) rfl).1
      obtain ⟨z, hz⟩ : ∃ z, z = w1.heap.size := ⟨_, rfl⟩
      obtain ⟨w2, hw2⟩ : ∃ w2, w2 = w1.alloc (.cells #[.int .u8 8] 5) := ⟨_, rfl⟩
      have hk2 : Keeps [] w1 w2 := by rw [hw2]; exact (Keeps.refl _ _).alloc _
      have hz2 : w2.heap[z]? = some (.cells #[.int .u8 8] 5 (0, 0)) := by rw [hw2, hz]; exact heap_alloc_new _ _
      have hB : Byts w2 (some ⟨z, 0, none⟩) [8#8] := by
        intro i b' hi
        cases i with
        | zero =>
          obtain rfl : 8#8 = b' := by simpa using hi
          exact ⟨_, rfl, (cell_at hz2 (p := 0) rfl).1⟩
        | succ i => simp at hi
      have ho2 := own_new (own_new HK.out.1 hk1) hk2
      have hkw := (HK.out.2.trans hk1).trans hk2
      obtain ⟨v3, w3, hr3, ho3, hg3⟩ := app8 ho2 (n := 1) (c := 1) hB rfl (fun h => by simp at h) (by omega) hkw.size
      have HR3 : Hid ((Builtin.append_ #[37, 37] 37 #[.slice A2 k c2, .slice (some ⟨w1.heap.size, 0, none⟩) 1 1]).run Tryz.prog (w1.alloc (.cells #[.int .u8 8] 5)) = .ok v3 w3) := Go.Lib.hid (by rw [← hw2, ← hz]; exact hr3)
      have HE : Hid (w3.ownsRow w.heap.size 5 1 v3 (k + 1) (by8 (eights (k + 1))) ∧ Keeps [] w w3) := Go.Lib.hid ⟨by
        rw [eights, List.replicate_succ']
        exact ho3, keeps_grow hkw ho2 hg3⟩
      clear hw1 ht ht1 hk1 hz hw2 hk2 hz2 hB ho2 hkw hr3 ho3 hg3 HK hix
      go_wp2_with (at_builtin; refine wpList_append_run (by rfl) (by rfl) HR3.out ?_)
      exact ⟨⟨k + 1, by omega, by go_num, HE⟩, by simp [intOf]; omega⟩
    · obtain rfl : k = 5 := by omega
      go_wp2_with fail
      go_ret
      exact ⟨_, rfl, HK.out⟩
end Go.Proofs.YtkhalpnonijogaaGreat
namespace Go.Proofs.YtkhalpnonijogaaGreat
open Go.RowKit

set_option maxHeartbeats 6400000 in
set_option maxRecDepth 100000 in
theorem ans_stat {own : Nat → Prop} {h nx mr s : Nat} {L : Lft} {last : Option Nat} {w : World} {v : Value} (H : HubIs own h nx mr L last w) (hnx : nx ≤ 200) (hv : RowAt w v [0#8]) :
    Calls Tryz.prog 58 #[.pointer (some ⟨h, 0, none⟩), .agg #[.int .i64 s, .int .i64 6, v]] w (AnsF own h (nx + 1) mr L last [outF nx 9 (eights 5)] [150] w) := by
  obtain ⟨A, c, rfl, _⟩ := hv.ex
  have HV := Go.Lib.hid hv
  have HH := Go.Lib.hid H
  clear hv H
  go_enter Tryz.func58, Tryz.ntmps58
  go_upto_region 1 with fail
  obtain ⟨b, hb⟩ : ∃ b, b = w.heap.size := ⟨_, rfl⟩
  obtain ⟨w0, hw0⟩ : ∃ w0, w0 = w.alloc (.cells #[.int .i64 s, .int .i64 6, .slice A 1 c] 63) := ⟨_, rfl⟩
  rw [← hw0, ← hb]
  have hk0 : Keeps [] w w0 := by rw [hw0]; exact (Keeps.refl _ _).alloc _
  have hb0 : w0.heap[b]? = some (.cells #[.int .i64 s, .int .i64 6, .slice A 1 c] 63 (0, 0)) := by rw [hw0, hb]; exact heap_alloc_new _ _
  obtain ⟨p0, p1, p2⟩ := cells3 hb0
  have HD := Go.Lib.hid (dec_stat (HV.out.keeps hk0 (by simp)))
  have HK0 := Go.Lib.hid hk0
  clear hw0 hb hk0 hb0
  go_wp2_with fail
  refine HD.out.mono ?_
  rintro e w1 ⟨rfl, hk1⟩
  have HK1 := Go.Lib.hid (HK0.out.trans hk1)
  clear HD hk1 p0 p1 p2 HK0
  go_upto_region 2 with fail
  obtain ⟨y, hy⟩ : ∃ y, y = w1.heap.size := ⟨_, rfl⟩
  obtain ⟨w2, hw2⟩ : ∃ w2, w2 = w1.alloc (.cells #[.int .i64 6, .int .i64 0, .int .i64 0, .int .i64 0, .int .i64 0, .int .i64 0, .slice none 0 0, .int .i64 0] 59) := ⟨_, rfl⟩
  rw [← hw2, ← hy]
  have hk2 : Keeps [] w w2 := by rw [hw2]; exact HK1.out.alloc _
  have hy2 : w2.heap[y]? = some (.cells #[.int .i64 6, .int .i64 0, .int .i64 0, .int .i64 0, .int .i64 0, .int .i64 0, .slice none 0 0, .int .i64 0] 59 (0, 0)) := by rw [hw2, hy]; exact heap_alloc_new _ _
  obtain ⟨arr, f, r, k, t, ws, cnt, g1, g2, g3, g4, g5, g6, g7, g8, g9, g10, g11, g12⟩ := (HH.out.new hk2).ex
  obtain ⟨p0, p1, p2, p3, p4, p5, p6, p7⟩ := cells8 hy2
  have HST := Go.Lib.hid (states_ok g1 g8)
  have HK2 := Go.Lib.hid hk2
  clear hw2 hy hk2 hy2 HK1 g1 g2 g3 g4 g5 g6 g7 g8 g9 g10 g11 g12
  go_wp2_with fail
  refine HST.out.mono ?_
  rintro e wa ⟨va, rfl, hoa, hka⟩
  obtain ⟨Aa, ca, rfl⟩ := own_form hoa
  have HO1 := Go.Lib.hid (hout_ok ((HH.out.new HK2.out).new hka) (by omega) (kd := 9) (by omega) (by omega) (Byts.of_own hoa) (src_of_own hoa) (n := 5) (c := ca) rfl (by simp [eights]))
  have HKA := Go.Lib.hid (HK2.out.trans hka)
  clear hoa hka HST
  go_wp2_with fail
  refine HO1.out.mono ?_
  rintro e w3 ⟨v3, rfl, ho3, hh3, hk3⟩
  obtain ⟨A3, c3, rfl⟩ := own_form ho3
  have HE : Hid (AnsF own h (nx + 1) mr L last [outF nx 9 (eights 5)] [150] w (.returned (.slice A3 (outF nx 9 (eights 5)).enc.length c3)) w3) := Go.Lib.hid ⟨wa.heap.size, _, rfl, HKA.out.size, by simpa using ho3, hh3, (Kx.new HKA.out).trans hk3⟩
  clear hh3 hk3 ho3 HO1
  go_wp2_with fail
  go_ret
  exact HE.out
end Go.Proofs.YtkhalpnonijogaaGreat
