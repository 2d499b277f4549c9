/- slices.Concat of two rows of bytes. No condition but the rows'. -/
import Derived.Test.YtkhalpnonijogaaGreatX12
namespace Go.Proofs.YtkhalpnonijogaaGreat
open Go.RowKit

set_option maxHeartbeats 1600000 in
set_option maxRecDepth 100000 in
theorem concat_ok {A D : Option Addr} {n m c d x : Nat} {l k : List (BitVec 8)} {w : World} (hA : Byts w A l) (hD : Byts w D k) (hn : n = l.length) (hm : m = k.length) (hsA : Src A n c) (hsD : Src D m d) (hn9 : n ≤ 70000) (hm9 : m ≤ 70000)
    (hx : w.heap[x]? = some (.cells #[.slice A n c, .slice D m d] 37 (0, 0))) :
    Calls Tryz.prog 94 #[.slice (some ⟨x, 0, none⟩) 2 2] w (PayIs (l ++ k) w) := by
  have HA := Go.Lib.hid hA
  have HD := Go.Lib.hid hD
  have HN := Go.Lib.hid hn
  have HM := Go.Lib.hid hm
  have HSA := Go.Lib.hid hsA
  have HSD := Go.Lib.hid hsD
  have HX := Go.Lib.hid hx
  obtain ⟨p0, _⟩ := cell_at hx (p := 0) rfl
  obtain ⟨p1, _⟩ := cell_at hx (p := 1) rfl
  clear hA hD hn hm hsA hsD hx
  go_enter Tryz.func94, Tryz.ntmps94
  go_upto_region 3 with fail
  go_loopw [3, 11] (fun s3 si wx => ∃ v : Nat, s3 = .int .i64 v ∧ ((si = .int .i64 0 ∧ Hid (v = 0)) ∨ (si = .int .i64 1 ∧ Hid (v = n)) ∨ (si = .int .i64 2 ∧ Hid (v = n + m))) ∧ v ≤ 140000 ∧ wx = w) (fun _ si _ => (2 - intOf si).toNat)
  case atStart => exact ⟨0, rfl, .inl ⟨rfl, rfl⟩, by omega, rfl⟩
  case round =>
    obtain ⟨v, rfl, hor, hv, rfl⟩ := hrel
    rcases hor with ⟨rfl, h0⟩ | ⟨rfl, h1⟩ | ⟨rfl, h2⟩
    · obtain rfl : v = 0 := h0.out
      clear h0
      have d1 : decide ((n : Int) < 0) = false := decide_eq_false (by omega)
      go_wp2_with fail
      exact ⟨⟨n, rfl, .inr (.inl ⟨rfl, rfl⟩), by omega, trivial⟩, by simp [intOf]⟩
    · obtain rfl : v = n := h1.out
      clear h1
      have d1 : decide ((v : Int) + m < 0) = false := decide_eq_false (by omega)
      go_wp2_with fail
      exact ⟨⟨v + m, by go_num, .inr (.inr ⟨rfl, rfl⟩), by omega, trivial⟩, by simp [intOf]⟩
    · go_wp2_with fail
      refine (grow_ok (n := v) (by omega) _).mono ?_
      rintro e w1 ⟨vg, rfl, ho1, hk1⟩
      have HO1 := Go.Lib.hid ho1
      have HK1 := Go.Lib.hid hk1
      clear ho1 hk1 p0 p1
      obtain ⟨wo, rfl⟩ : ∃ wo : World, wo = wr := ⟨_, rfl⟩
      go_upto_region 11 with fail
      go_loopw [6, 27] (fun s6 si wx => ((si = .int .i64 0 ∧ Hid (wx.ownsRow wo.heap.size 5 1 s6 0 (by8 []))) ∨ (si = .int .i64 1 ∧ Hid (wx.ownsRow wo.heap.size 5 1 s6 n (by8 l))) ∨ (si = .int .i64 2 ∧ Hid (wx.ownsRow wo.heap.size 5 1 s6 (n + m) (by8 (l ++ k))))) ∧ Hid (Keeps [] wo wx)) (fun _ si _ => (2 - intOf si).toNat)
      case atStart => exact ⟨.inl ⟨rfl, HO1⟩, HK1⟩
      case round =>
        obtain ⟨hor, HK⟩ := hrel
        obtain ⟨p0, _⟩ := cell_at (HK.out.heap HX.out (by simp)) (p := 0) rfl
        obtain ⟨p1, _⟩ := cell_at (HK.out.heap HX.out (by simp)) (p := 1) rfl
        rcases hor with ⟨rfl, HO⟩ | ⟨rfl, HO⟩ | ⟨rfl, HO⟩
        · obtain ⟨v', w', hr, ho, hg⟩ := app8 HO.out (HA.out.keeps0 HK.out) HN.out HSA.out (by omega) HK.out.size
          have HR := Go.Lib.hid hr
          have HO' := Go.Lib.hid ho
          have HK' := Go.Lib.hid (keeps_grow HK.out HO.out hg)
          rw [Nat.zero_add, List.nil_append] at HO'
          clear hr ho hg
          go_wp2_with (refine wpList_append_run rfl rfl HR.out ?_)
          exact ⟨⟨.inr (.inl ⟨rfl, HO'⟩), HK'⟩, by simp [intOf]⟩
        · obtain ⟨v', w', hr, ho, hg⟩ := app8 HO.out (HD.out.keeps0 HK.out) HM.out HSD.out (by omega) HK.out.size
          have HR := Go.Lib.hid hr
          have HO' := Go.Lib.hid ho
          have HK' := Go.Lib.hid (keeps_grow HK.out HO.out hg)
          clear hr ho hg
          go_wp2_with (refine wpList_append_run rfl rfl HR.out ?_)
          exact ⟨⟨.inr (.inr ⟨rfl, HO'⟩), HK'⟩, by simp [intOf]⟩
        · have HO2 : Hid (wr.ownsRow wo.heap.size 5 1 u6 (l ++ k).length (by8 (l ++ k))) := Go.Lib.hid (by
            rw [List.length_append, ← HN.out, ← HM.out]; exact HO.out)
          go_wp2_with fail
          go_ret
          exact ⟨_, rfl, HO2.out, HK.out⟩
end Go.Proofs.YtkhalpnonijogaaGreat
