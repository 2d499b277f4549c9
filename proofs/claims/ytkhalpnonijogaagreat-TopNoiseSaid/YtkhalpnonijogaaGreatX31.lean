/- hub.settle: the walk. No condition but the hub's. -/
import Derived.Test.YtkhalpnonijogaaGreatX28
namespace Go.Proofs.YtkhalpnonijogaaGreat
open Go.RowKit

theorem W5.kx {own : Nat → Prop} {T : List Nat} {w w' : World} {x : Nat} (h : W5 w x) (hk : Kx own T w w') (hT : 257 ∉ T) : W5 w' x := by
  obtain ⟨arr, h1, h2⟩ := h.ex
  exact ⟨arr, hk.cells h1 hT, h2⟩
set_option maxHeartbeats 6400000 in
set_option maxRecDepth 100000 in
theorem settle_ok {own : Nat → Prop} {h nx mr : Nat} {L : Lft} {last : Option Nat} {w : World} (H : HubIs own h nx mr L last w) (hnx : mr ≤ 500) :
    Calls Tryz.prog 60 #[.pointer (some ⟨h, 0, none⟩)] w fun e w' => (∃ v, e = .returned v) ∧ HubIs own h nx mr L last w' ∧ Kx own [94] w w' := by
  obtain ⟨arr, f, r, k0, t, ws, cnt, g1, g2, g3, g4, g5, g6, g7, g8, g9, g10, g11, g12⟩ := H.ex
  obtain ⟨rows, m, Lr, hm, hr1, hr2, _⟩ := g10.ex
  have r49 := (cell_at g1 g4).1
  have HALL := Go.Lib.hid (all_ok hr1 hr2 (by omega))
  have HH := Go.Lib.hid H
  clear H g1 g2 g3 g4 g5 g6 g7 g8 g9 g10 g11 g12 hr1 hr2
  go_enter Tryz.func60, Tryz.ntmps60
  go_wp2_with fail
  refine HALL.out.mono ?_
  rintro e w1 ⟨v1, M, rfl, ho1, hk1⟩
  have HW := Go.Lib.hid (wants_ok ho1 (by omega))
  have HK1 := Go.Lib.hid hk1
  clear ho1 hk1 HALL r49
  go_wp2_with fail
  refine HW.out.mono ?_
  rintro e w2 ⟨c0, c1, c2, c3, c4, z, rfl, b0, b1, b2, b3, b4, hk2⟩
  have HK2 := Go.Lib.hid (HK1.out.trans hk2)
  clear HW hk2
  go_upto_region 1 with fail
  obtain ⟨x, hx⟩ : ∃ x, x = w2.heap.size := ⟨_, rfl⟩
  obtain ⟨w3, hw3⟩ : ∃ w3, w3 = w2.alloc (.cells #[.int .i64 c0, .int .i64 c1, .int .i64 c2, .int .i64 c3, .int .i64 c4] 257) := ⟨_, rfl⟩
  rw [← hw3, ← hx]
  have hx3 : w3.heap[x]? = some (.cells #[.int .i64 c0, .int .i64 c1, .int .i64 c2, .int .i64 c3, .int .i64 c4] 257 (0, 0)) := by rw [hw3, hx]; exact heap_alloc_new _ _
  have hW3 : W5 w3 x := ⟨_, hx3, rfl, fun k hk => by
    obtain rfl | rfl | rfl | rfl | rfl : k = 0 ∨ k = 1 ∨ k = 2 ∨ k = 3 ∨ k = 4 := by omega
    · exact ⟨c0, rfl, b0⟩
    · exact ⟨c1, rfl, b1⟩
    · exact ⟨c2, rfl, b2⟩
    · exact ⟨c3, rfl, b3⟩
    · exact ⟨c4, rfl, b4⟩⟩
  have hk3 : Keeps [] w w3 := by rw [hw3]; exact HK2.out.alloc _
  have HX0 := Go.Lib.hid (And.intro (HH.out.new hk3) (And.intro hW3 (Kx.new (own := own) (T := [94]) hk3)))
  clear hw3 hx hx3 hW3 hk3 b0 b1 b2 b3 b4 HK1 HK2 HH
  go_wp2_with fail
  go_loopw [4] (fun s4 wx => ∃ k : Nat, k ≤ 5 ∧ s4 = .int .i64 ((k : Int) + 1) ∧ Hid (HubIs own h nx mr L last wx ∧ W5 wx x ∧ Kx own [94] w wx)) (fun s4 _ => 6 - (intOf s4).toNat)
  case atStart => exact ⟨0, by omega, rfl, HX0⟩
  case round =>
    obtain ⟨k, hk, rfl, HX⟩ := hrel
    clear HX0
    by_cases hk5 : k < 5
    · obtain ⟨arr, f, r, k0, t, ws, cnt, g1, g2, g3, g4, g5, g6, g7, g8, g9, g10, g11, g12⟩ := HX.out.1.ex
      obtain ⟨v, vc, vf, v0, v250⟩ := HX.out.2.1.at_ hk5
      obtain ⟨want, p, hp1, hp2, ⟨p0, p1, p2', p3, p4, p5, p6, p7, p8⟩, _⟩ := drv_cells g1 g8 hk5
      have HA := Go.Lib.hid g1
      have HDD := Go.Lib.hid g8
      have HD : Hid (DrvOk (16 + (k : Int)) (49 + (k : Int)) p 8 0) := Go.Lib.hid ⟨by omega, by omega, by omega, by omega, hp1, hp2, by omega, by omega, by omega, by omega⟩
      have HAT := Go.Lib.hid (hat_ok (h := h) hk5)
      have H52 := Go.Lib.hid g6
      clear g1 g2 g3 g4 g5 g6 g7 g8 g9 g10 g11 g12 vf
      go_wp2_with fail
      refine (HAT.out _).mono ?_
      rintro e w' ⟨rfl, rfl⟩
      clear HAT
      by_cases hv : 0 < v
      · have hv' : decide (0 < v) = true := decide_eq_true hv
        cases want with
        | false =>
          go_wp2_with fail
          refine (dset_ok (b := true) HD.out (by omega) (by omega) _).mono ?_
          rintro e w2 ⟨rfl, hk2⟩
          have HH2 := Go.Lib.hid (HX.out.1.new hk2)
          have hh2 := hk2.heap HA.out (by simp)
          obtain ⟨HH3, HK3⟩ := HH2.out.drv (k := k) (want := true) (p := v) hk5 (by omega) (by omega)
          obtain ⟨want2, p2, _, _, ⟨q0, q1, q2, q3, q4, q5, q6, q7, q8⟩, fz⟩ := drv_cells hh2 HDD.out hk5
          have f0 := fz (3 + k * 9)
          have f1 := fz (3 + k * 9 + 1)
          have f2 := fz (3 + k * 9 + 2)
          have f3 := fz (3 + k * 9 + 3)
          have f4 := fz (3 + k * 9 + 4)
          have f5 := fz (3 + k * 9 + 5)
          have f6 := fz (3 + k * 9 + 6)
          have f7 := fz (3 + k * 9 + 7)
          have f8 := fz (3 + k * 9 + 8)
          have HH3' := Go.Lib.hid HH3
          have HK3' := Go.Lib.hid ((Kx.new (own := own) (T := [94]) hk2).trans HK3)
          clear hh2 HH3 HK3 fz hk2 p0 p1 p2' p3 p4 p5 p6 p7 p8
          unfold drvA
          go_upto_region 11 with fail
          obtain ⟨w3, hw3⟩ : ∃ w3, w3 = w2.setCells h (3 + k * 9) (drvA (16 + (k : Int)) (49 + (k : Int)) true v 8 0 false).toList := ⟨_, rfl⟩
          rw [← hw3] at HH3' HK3'
          rw [show (((((((((w2.setCell ⟨h, 3 + k * 9, none⟩ (.int .i64 (16 + (k : Int)))).setCell ⟨h, 3 + k * 9 + 1, none⟩ (.int .i64 (49 + (k : Int)))).setCell ⟨h, 3 + k * 9 + 2, none⟩ (.bool true)).setCell ⟨h, 3 + k * 9 + 3, none⟩ (.int .i64 v)).setCell ⟨h, 3 + k * 9 + 4, none⟩ (.int .i64 8)).setCell ⟨h, 3 + k * 9 + 5, none⟩ (.int .i64 0)).setCell ⟨h, 3 + k * 9 + 6, none⟩ (.bool false)).setCell ⟨h, 3 + k * 9 + 7, none⟩ (.int .i64 0)).setCell ⟨h, 3 + k * 9 + 8, none⟩ (.int .i64 0)) = w3 from hw3.symm]
          obtain ⟨arr3, f3', r3, k3, t3, ws3, cnt3, g1, g2, g3, g4, g5, g6, g7, g8, g9, g10, g11, g12⟩ := HH3'.out.ex
          have r52 := (cell_at g1 g6).1
          have HWK := Go.Lib.hid (wake_ok (z := (k : Int) + 1) g12 (i := k + 1) (by omega) (by push_cast; rfl))
          have HWF := Go.Lib.hid (fun W hW => HH3'.out.wake (w' := W) g1 g6 hW)
          clear hw3 q0 q1 q2 q3 q4 q5 q6 q7 q8 f0 f1 f2 f3 f4 f5 f6 f7 f8 g1 g2 g3 g4 g5 g6 g7 g8 g9 g10 g11 g12
          go_wp2_with fail
          refine HWK.out.mono ?_
          rintro e w4 ⟨⟨v4, rfl⟩, hwk⟩
          obtain ⟨H4, K4⟩ := HWF.out _ hwk
          have HE : Hid (HubIs own h nx mr L last w4 ∧ W5 w4 x ∧ Kx own [94] w w4) := Go.Lib.hid ⟨H4, HX.out.2.1.kx (HK3'.out.trans K4) (by decide), HX.out.2.2.trans (HK3'.out.trans K4)⟩
          clear hwk H4 K4 HWF HWK r52
          go_wp2_with fail
          exact ⟨⟨k + 1, by omega, by go_num, HE⟩, by simp [intOf]; omega⟩
        | true =>
          by_cases hvp : v = p
          · have hvp' : (v != p) = false := by simp [hvp]
            clear hvp
            go_wp2_with fail
            exact ⟨⟨k + 1, by omega, by go_num, HX⟩, by simp [intOf]; omega⟩
          · have hvp' : (v != p) = true := by simp [hvp]
            go_wp2_with fail
            refine (dset_ok (b := true) HD.out (by omega) (by omega) _).mono ?_
            rintro e w2 ⟨rfl, hk2⟩
            have HH2 := Go.Lib.hid (HX.out.1.new hk2)
            have hh2 := hk2.heap HA.out (by simp)
            obtain ⟨HH3, HK3⟩ := HH2.out.drv (k := k) (want := true) (p := v) hk5 (by omega) (by omega)
            obtain ⟨want2, p2, _, _, ⟨q0, q1, q2, q3, q4, q5, q6, q7, q8⟩, fz⟩ := drv_cells hh2 HDD.out hk5
            have f0 := fz (3 + k * 9)
            have f1 := fz (3 + k * 9 + 1)
            have f2 := fz (3 + k * 9 + 2)
            have f3 := fz (3 + k * 9 + 3)
            have f4 := fz (3 + k * 9 + 4)
            have f5 := fz (3 + k * 9 + 5)
            have f6 := fz (3 + k * 9 + 6)
            have f7 := fz (3 + k * 9 + 7)
            have f8 := fz (3 + k * 9 + 8)
            have HH3' := Go.Lib.hid HH3
            have HK3' := Go.Lib.hid ((Kx.new (own := own) (T := [94]) hk2).trans HK3)
            clear hh2 HH3 HK3 fz hk2 p0 p1 p2' p3 p4 p5 p6 p7 p8
            unfold drvA
            go_upto_region 11 with fail
            obtain ⟨w3, hw3⟩ : ∃ w3, w3 = w2.setCells h (3 + k * 9) (drvA (16 + (k : Int)) (49 + (k : Int)) true v 8 0 false).toList := ⟨_, rfl⟩
            rw [← hw3] at HH3' HK3'
            rw [show (((((((((w2.setCell ⟨h, 3 + k * 9, none⟩ (.int .i64 (16 + (k : Int)))).setCell ⟨h, 3 + k * 9 + 1, none⟩ (.int .i64 (49 + (k : Int)))).setCell ⟨h, 3 + k * 9 + 2, none⟩ (.bool true)).setCell ⟨h, 3 + k * 9 + 3, none⟩ (.int .i64 v)).setCell ⟨h, 3 + k * 9 + 4, none⟩ (.int .i64 8)).setCell ⟨h, 3 + k * 9 + 5, none⟩ (.int .i64 0)).setCell ⟨h, 3 + k * 9 + 6, none⟩ (.bool false)).setCell ⟨h, 3 + k * 9 + 7, none⟩ (.int .i64 0)).setCell ⟨h, 3 + k * 9 + 8, none⟩ (.int .i64 0)) = w3 from hw3.symm]
            obtain ⟨arr3, f3', r3, k3, t3, ws3, cnt3, g1, g2, g3, g4, g5, g6, g7, g8, g9, g10, g11, g12⟩ := HH3'.out.ex
            have r52 := (cell_at g1 g6).1
            have HWK := Go.Lib.hid (wake_ok (z := (k : Int) + 1) g12 (i := k + 1) (by omega) (by push_cast; rfl))
            have HWF := Go.Lib.hid (fun W hW => HH3'.out.wake (w' := W) g1 g6 hW)
            clear hw3 q0 q1 q2 q3 q4 q5 q6 q7 q8 f0 f1 f2 f3 f4 f5 f6 f7 f8 g1 g2 g3 g4 g5 g6 g7 g8 g9 g10 g11 g12
            go_wp2_with fail
            refine HWK.out.mono ?_
            rintro e w4 ⟨⟨v4, rfl⟩, hwk⟩
            obtain ⟨H4, K4⟩ := HWF.out _ hwk
            have HE : Hid (HubIs own h nx mr L last w4 ∧ W5 w4 x ∧ Kx own [94] w w4) := Go.Lib.hid ⟨H4, HX.out.2.1.kx (HK3'.out.trans K4) (by decide), HX.out.2.2.trans (HK3'.out.trans K4)⟩
            clear hwk H4 K4 HWF HWK r52
            go_wp2_with fail
            exact ⟨⟨k + 1, by omega, by go_num, HE⟩, by simp [intOf]; omega⟩
      · have hv' : decide (0 < v) = false := decide_eq_false hv
        cases want with
        | false =>
          have hpp : (p != p) = false := by simp
          go_wp2_with fail
          exact ⟨⟨k + 1, by omega, by go_num, HX⟩, by simp [intOf]; omega⟩
        | true =>
          go_wp2_with fail
          refine (dset_ok (b := false) HD.out (by omega) (by omega) _).mono ?_
          rintro e w2 ⟨rfl, hk2⟩
          have HH2 := Go.Lib.hid (HX.out.1.new hk2)
          have hh2 := hk2.heap HA.out (by simp)
          obtain ⟨HH3, HK3⟩ := HH2.out.drv (k := k) (want := false) (p := p) hk5 (by omega) (by omega)
          obtain ⟨want2, p2, _, _, ⟨q0, q1, q2, q3, q4, q5, q6, q7, q8⟩, fz⟩ := drv_cells hh2 HDD.out hk5
          have f0 := fz (3 + k * 9)
          have f1 := fz (3 + k * 9 + 1)
          have f2 := fz (3 + k * 9 + 2)
          have f3 := fz (3 + k * 9 + 3)
          have f4 := fz (3 + k * 9 + 4)
          have f5 := fz (3 + k * 9 + 5)
          have f6 := fz (3 + k * 9 + 6)
          have f7 := fz (3 + k * 9 + 7)
          have f8 := fz (3 + k * 9 + 8)
          have HH3' := Go.Lib.hid HH3
          have HK3' := Go.Lib.hid ((Kx.new (own := own) (T := [94]) hk2).trans HK3)
          clear hh2 HH3 HK3 fz hk2 p0 p1 p2' p3 p4 p5 p6 p7 p8
          unfold drvA
          go_upto_region 11 with fail
          obtain ⟨w3, hw3⟩ : ∃ w3, w3 = w2.setCells h (3 + k * 9) (drvA (16 + (k : Int)) (49 + (k : Int)) false p 8 0 false).toList := ⟨_, rfl⟩
          rw [← hw3] at HH3' HK3'
          rw [show (((((((((w2.setCell ⟨h, 3 + k * 9, none⟩ (.int .i64 (16 + (k : Int)))).setCell ⟨h, 3 + k * 9 + 1, none⟩ (.int .i64 (49 + (k : Int)))).setCell ⟨h, 3 + k * 9 + 2, none⟩ (.bool false)).setCell ⟨h, 3 + k * 9 + 3, none⟩ (.int .i64 p)).setCell ⟨h, 3 + k * 9 + 4, none⟩ (.int .i64 8)).setCell ⟨h, 3 + k * 9 + 5, none⟩ (.int .i64 0)).setCell ⟨h, 3 + k * 9 + 6, none⟩ (.bool false)).setCell ⟨h, 3 + k * 9 + 7, none⟩ (.int .i64 0)).setCell ⟨h, 3 + k * 9 + 8, none⟩ (.int .i64 0)) = w3 from hw3.symm]
          obtain ⟨arr3, f3', r3, k3, t3, ws3, cnt3, g1, g2, g3, g4, g5, g6, g7, g8, g9, g10, g11, g12⟩ := HH3'.out.ex
          have r52 := (cell_at g1 g6).1
          have HWK := Go.Lib.hid (wake_ok (z := (k : Int) + 1) g12 (i := k + 1) (by omega) (by push_cast; rfl))
          have HWF := Go.Lib.hid (fun W hW => HH3'.out.wake (w' := W) g1 g6 hW)
          clear hw3 q0 q1 q2 q3 q4 q5 q6 q7 q8 f0 f1 f2 f3 f4 f5 f6 f7 f8 g1 g2 g3 g4 g5 g6 g7 g8 g9 g10 g11 g12
          go_wp2_with fail
          refine HWK.out.mono ?_
          rintro e w4 ⟨⟨v4, rfl⟩, hwk⟩
          obtain ⟨H4, K4⟩ := HWF.out _ hwk
          have HE : Hid (HubIs own h nx mr L last w4 ∧ W5 w4 x ∧ Kx own [94] w w4) := Go.Lib.hid ⟨H4, HX.out.2.1.kx (HK3'.out.trans K4) (by decide), HX.out.2.2.trans (HK3'.out.trans K4)⟩
          clear hwk H4 K4 HWF HWK r52
          go_wp2_with fail
          exact ⟨⟨k + 1, by omega, by go_num, HE⟩, by simp [intOf]; omega⟩
    · obtain rfl : k = 5 := by omega
      go_wp2_with fail
      go_end0
      exact ⟨⟨_, rfl⟩, HX.out.1, HX.out.2.2⟩
end Go.Proofs.YtkhalpnonijogaaGreat
