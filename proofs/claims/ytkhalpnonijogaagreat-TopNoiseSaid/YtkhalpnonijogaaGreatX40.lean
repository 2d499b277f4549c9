/- pipe.New. No condition. -/
import Derived.Test.YtkhalpnonijogaaGreatX39
import Derived.Deep.MidRow
namespace Go.Proofs.YtkhalpnonijogaaGreat
open Go.RowKit

theorem st16 {w : World} {p k : Nat} {cur : Array Value} (h : w.heap[p]? = some (.cells cur 203 (0, 0))) (hs : 96 ≤ cur.size) (hk : k < 6) : ∃ v0 v1 v2 v3 v4 v5 v6 v7 v8 v9 v10 v11 v12 v13 v14 v15, w.cell? ⟨p, k * 16, none⟩ = some v0 ∧ w.cell? ⟨p, k * 16 + 1, none⟩ = some v1 ∧ w.cell? ⟨p, k * 16 + 2, none⟩ = some v2 ∧ w.cell? ⟨p, k * 16 + 3, none⟩ = some v3 ∧ w.cell? ⟨p, k * 16 + 4, none⟩ = some v4 ∧ w.cell? ⟨p, k * 16 + 5, none⟩ = some v5 ∧ w.cell? ⟨p, k * 16 + 6, none⟩ = some v6 ∧ w.cell? ⟨p, k * 16 + 7, none⟩ = some v7 ∧ w.cell? ⟨p, k * 16 + 8, none⟩ = some v8 ∧ w.cell? ⟨p, k * 16 + 9, none⟩ = some v9 ∧ w.cell? ⟨p, k * 16 + 10, none⟩ = some v10 ∧ w.cell? ⟨p, k * 16 + 11, none⟩ = some v11 ∧ w.cell? ⟨p, k * 16 + 12, none⟩ = some v12 ∧ w.cell? ⟨p, k * 16 + 13, none⟩ = some v13 ∧ w.cell? ⟨p, k * 16 + 14, none⟩ = some v14 ∧ w.cell? ⟨p, k * 16 + 15, none⟩ = some v15 :=
  ⟨cur[k * 16], cur[k * 16 + 1], cur[k * 16 + 2], cur[k * 16 + 3], cur[k * 16 + 4], cur[k * 16 + 5], cur[k * 16 + 6], cur[k * 16 + 7], cur[k * 16 + 8], cur[k * 16 + 9], cur[k * 16 + 10], cur[k * 16 + 11], cur[k * 16 + 12], cur[k * 16 + 13], cur[k * 16 + 14], cur[k * 16 + 15], by rw [cell_of_row w p _ cur 203 (0, 0) h]; exact Array.getElem?_eq_getElem (by omega), by rw [cell_of_row w p _ cur 203 (0, 0) h]; exact Array.getElem?_eq_getElem (by omega), by rw [cell_of_row w p _ cur 203 (0, 0) h]; exact Array.getElem?_eq_getElem (by omega), by rw [cell_of_row w p _ cur 203 (0, 0) h]; exact Array.getElem?_eq_getElem (by omega), by rw [cell_of_row w p _ cur 203 (0, 0) h]; exact Array.getElem?_eq_getElem (by omega), by rw [cell_of_row w p _ cur 203 (0, 0) h]; exact Array.getElem?_eq_getElem (by omega), by rw [cell_of_row w p _ cur 203 (0, 0) h]; exact Array.getElem?_eq_getElem (by omega), by rw [cell_of_row w p _ cur 203 (0, 0) h]; exact Array.getElem?_eq_getElem (by omega), by rw [cell_of_row w p _ cur 203 (0, 0) h]; exact Array.getElem?_eq_getElem (by omega), by rw [cell_of_row w p _ cur 203 (0, 0) h]; exact Array.getElem?_eq_getElem (by omega), by rw [cell_of_row w p _ cur 203 (0, 0) h]; exact Array.getElem?_eq_getElem (by omega), by rw [cell_of_row w p _ cur 203 (0, 0) h]; exact Array.getElem?_eq_getElem (by omega), by rw [cell_of_row w p _ cur 203 (0, 0) h]; exact Array.getElem?_eq_getElem (by omega), by rw [cell_of_row w p _ cur 203 (0, 0) h]; exact Array.getElem?_eq_getElem (by omega), by rw [cell_of_row w p _ cur 203 (0, 0) h]; exact Array.getElem?_eq_getElem (by omega), by rw [cell_of_row w p _ cur 203 (0, 0) h]; exact Array.getElem?_eq_getElem (by omega)⟩
def PipeIs (p : Nat) (w0 w : World) : Prop := (∃ cur, w.heap[p]? = some (.cells cur 203 (0, 0)) ∧ 96 ≤ cur.size) ∧ Keeps [] w0 w
theorem PipeIs.set {p o : Nat} {w0 w : World} {v : Value} (h : PipeIs p w0 w) (hp : w0.heap.size ≤ p) : PipeIs p w0 (w.setCell ⟨p, o, none⟩ v) := by
  obtain ⟨⟨cur, h1, h2⟩, h3⟩ := h
  exact ⟨⟨_, heap_setCell_self h1, by simpa using h2⟩, h3.setNew hp _⟩
set_option maxHeartbeats 1600000 in
set_option maxRecDepth 100000 in
theorem pipe_new (w : World) : Calls Tryz.prog 45 #[] w fun e w' => (∃ v, e = .returned (.pointer (some ⟨v, 0, none⟩))) ∧ Keeps [] w w' := by
  go_enter Tryz.func45, Tryz.ntmps45
  go_wp2_with fail
  refine (fresh_ok _).mono ?_
  rintro e w1 ⟨rfl, hk1⟩
  have HK1 := Go.Lib.hid hk1
  clear hk1
  unfold freshA
  go_upto_region 3 with fail
  obtain ⟨Z, hZ⟩ : ∃ Z, Z = (((((Tryz.zeroCells203.setIfInBounds 108 (Value.int .i64 1073741824)).setIfInBounds 109 (Value.int .i64 0)).setIfInBounds 110 (Value.int .i64 0)).setIfInBounds 111 (Value.int .i64 0)).setIfInBounds 136 (Value.int .i64 (-1))) := ⟨_, rfl⟩
  have hZs : 96 ≤ Z.size := by rw [hZ]; simp only [Array.size_setIfInBounds]; decide
  rw [← hZ]
  obtain ⟨p, hp⟩ : ∃ p, p = w1.heap.size := ⟨_, rfl⟩
  obtain ⟨w2, hw2⟩ : ∃ w2, w2 = w1.alloc (.cells Z 203) := ⟨_, rfl⟩
  rw [← hw2, ← hp]
  have HI : Hid ((∃ cur, w2.heap[p]? = some (.cells cur 203 (0, 0)) ∧ 96 ≤ cur.size) ∧ Keeps [] w w2) := Go.Lib.hid ⟨⟨Z, by rw [hw2, hp]; exact heap_alloc_new _ _, hZs⟩, by rw [hw2]; exact HK1.out.alloc _⟩
  have hpw : w.heap.size ≤ p := by rw [hp]; exact HK1.out.size
  clear hw2 hp hZ hZs HK1
  generalize Value.agg Z = zv
  go_loopw [6] (fun s6 wx => ∃ k : Nat, k ≤ 6 ∧ s6 = .int .i64 k ∧ Hid ((∃ cur, wx.heap[p]? = some (.cells cur 203 (0, 0)) ∧ 96 ≤ cur.size) ∧ Keeps [] w wx)) (fun s6 _ => 6 - (intOf s6).toNat)
  case atStart => exact ⟨0, by omega, rfl, HI⟩
  case round =>
    obtain ⟨k, hk, rfl, HK⟩ := hrel
    clear HI
    by_cases hlt : k < 6
    · have d1 : decide (k < 6) = true := decide_eq_true hlt
      have d2 : decide ((k : Int) < 6) = true := decide_eq_true (by omega)
      go_upto_region 5 with fail
      go_region_with (((go_at_call 78; (refine (plain_ok _).mono ?_; rintro e w3 ⟨rfl, hk3⟩); unfold plainA; obtain ⟨⟨cur, h4, h6⟩, h7⟩ := HK.out; have h5 := hk3.heap (show _ = some (Obj.cells cur 203 (0, 0)) from h4) (by simp); have HE : Hid (PipeIs p w w3) := Go.Lib.hid ⟨⟨cur, h5, h6⟩, h7.drew.trans hk3⟩; obtain ⟨v0, v1, v2, v3, v4, v5, v6, v7, v8, v9, v10, v11, v12, v13, v14, v15, c0, c1, c2, c3, c4, c5, c6, c7, c8, c9, c10, c11, c12, c13, c14, c15⟩ := st16 h5 h6 hlt; have f0 := frozen_of_row w3 p (k * 16) cur 203 h5; have f1 := frozen_of_row w3 p (k * 16 + 1) cur 203 h5; have f2 := frozen_of_row w3 p (k * 16 + 2) cur 203 h5; have f3 := frozen_of_row w3 p (k * 16 + 3) cur 203 h5; have f4 := frozen_of_row w3 p (k * 16 + 4) cur 203 h5; have f5 := frozen_of_row w3 p (k * 16 + 5) cur 203 h5; have f6 := frozen_of_row w3 p (k * 16 + 6) cur 203 h5; have f7 := frozen_of_row w3 p (k * 16 + 7) cur 203 h5; have f8 := frozen_of_row w3 p (k * 16 + 8) cur 203 h5; have f9 := frozen_of_row w3 p (k * 16 + 9) cur 203 h5; have f10 := frozen_of_row w3 p (k * 16 + 10) cur 203 h5; have f11 := frozen_of_row w3 p (k * 16 + 11) cur 203 h5; have f12 := frozen_of_row w3 p (k * 16 + 12) cur 203 h5; have f13 := frozen_of_row w3 p (k * 16 + 13) cur 203 h5; have f14 := frozen_of_row w3 p (k * 16 + 14) cur 203 h5; have f15 := frozen_of_row w3 p (k * 16 + 15) cur 203 h5; clear h4 h5 h6 h7 hk3)))
      all_goals go_wp2_with fail
      all_goals refine ⟨⟨k + 1, by omega, by go_num, Go.Lib.hid ?_⟩, by simp [intOf]; omega⟩
      all_goals repeat (refine PipeIs.set ?_ hpw)
      all_goals exact HE.out
    · obtain rfl : k = 6 := by omega
      go_wp2_with fail
      go_ret
      exact ⟨⟨_, rfl⟩, HK.out.2⟩
end Go.Proofs.YtkhalpnonijogaaGreat
