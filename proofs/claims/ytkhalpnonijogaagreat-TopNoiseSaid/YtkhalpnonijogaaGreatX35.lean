/- bus.New of nothing. No condition. | flash's erase of a row of words. No condition but the row's. | flash.New of nothing; the flash's bytes in memory. No condition. -/
import Derived.Test.YtkhalpnonijogaaGreatX34
import Derived.Test.YtkhalpnonijogaaGreatX01
import Derived.Carry
import Derived.Laws.MakeOwn
import Derived.Test.YtkhalpnonijogaaGreatX24
namespace Go.Proofs.YtkhalpnonijogaaGreat
open Go.RowKit

set_option maxHeartbeats 3200000 in
set_option maxRecDepth 100000 in
theorem bus_new (w : World) : Calls Tryz.prog 25 #[.slice none 0 0, .slice none 0 0] w fun e w' => ∃ b m, e = .returned (.tuple #[.pointer (some ⟨b, 0, none⟩), .int .i64 0]) ∧ w'.heap[b]? = some (.cells #[.slice none 0 0, .map (some m), .int .i64 0] 112 (0, 0)) ∧ MapIs w' m [] ∧ w.heap.size ≤ b ∧ Keeps [] w w' := by
  have hmk : (Instr.makeMap 109 none).run Tryz.prog w = .ok (.map (some w.heap.size)) (w.alloc (.map #[] 0)) := run_makeMap 109 w
  go_enter Tryz.func25, Tryz.ntmps25
  go_upto_region 5 with fail
  obtain ⟨W, hW⟩ : ∃ W, W = (w.alloc (.map #[] 0)).alloc (.cells #[.slice none 0 0, .map (some w.heap.size), .int .i64 0] 112) := ⟨_, rfl⟩
  rw [← hW]
  have HE : Hid (W.heap[w.heap.size + 1]? = some (.cells #[.slice none 0 0, .map (some w.heap.size), .int .i64 0] 112 (0, 0)) ∧ MapIs W w.heap.size [] ∧ Keeps [] w W) := Go.Lib.hid (by
    rw [hW]
    refine ⟨?_, (MapIs.made w).keeps ((Keeps.refl [] _).alloc _) (by simp), ((Keeps.refl _ _).alloc _).alloc _⟩
    rw [← World.size_alloc w (.map #[] 0)]
    exact heap_alloc_new _ _)
  clear hW hmk
  go_loopw [28] (fun s28 wx => s28 = .int .i64 0 ∧ wx = W) (fun _ _ => 0)
  case atStart => exact ⟨rfl, rfl⟩
  case round =>
    obtain ⟨rfl, rfl⟩ := hrel
    go_wp2_with fail
    go_loopw [69] (fun s28 wx => s28 = .int .i64 0 ∧ wx = wr) (fun _ _ => 0)
    case atStart => exact ⟨rfl, rfl⟩
    case round =>
      obtain ⟨rfl, rfl⟩ := hrel
      go_wp2_with fail
      go_ret2
      exact ⟨_, _, rfl, HE.out.1, HE.out.2.1, by omega, HE.out.2.2⟩
end Go.Proofs.YtkhalpnonijogaaGreat
namespace Go.Proofs.YtkhalpnonijogaaGreat
open Go.RowKit

def ffs : Value := .int .u32 4294967295
/-- The cells, some of them erased. -/
structure Ers (cur cur' : Array Value) (o n : Nat) : Prop where
  size : cur'.size = cur.size
  get : ∀ j, j < cur.size → cur'[j]? = if o ≤ j ∧ j < o + n then some ffs else cur[j]?
theorem Ers.nil (cur : Array Value) (o : Nat) : Ers cur cur o 0 := ⟨rfl, fun j _ => by rw [if_neg (by omega)]⟩
theorem Ers.step {cur cur' : Array Value} {o n : Nat} (h : Ers cur cur' o n) : Ers cur (cur'.setIfInBounds (o + n) ffs) o (n + 1) := by
  refine ⟨by simp [h.size], fun j hj => ?_⟩
  have hj' : j < cur'.size := by rw [h.size]; exact hj
  by_cases e : j = o + n
  · subst e
    rw [if_pos (by omega), Array.getElem?_setIfInBounds_self, if_pos hj']
  · rw [Array.getElem?_setIfInBounds_ne (by omega), h.get j hj]
    by_cases h1 : o ≤ j ∧ j < o + n
    · rw [if_pos h1, if_pos (by omega)]
    · rw [if_neg h1, if_neg (by omega)]
set_option maxHeartbeats 1600000 in
set_option maxRecDepth 100000 in
theorem erase_ok {g o n c : Nat} {cur : Array Value} {w : World} (hg : w.heap[g]? = some (.cells cur 127 (0, 0))) (hn : o + n ≤ cur.size) (hn6 : n ≤ 1000) (hnc : n ≤ c) :
    Calls Tryz.prog 43 #[.slice (some ⟨g, o, none⟩) n c] w fun e w' => (∃ v, e = .returned v) ∧ (∃ cur', w'.heap[g]? = some (.cells cur' 127 (0, 0)) ∧ Ers cur cur' o n) ∧ Keeps [g] w w' := by
  have HG := Go.Lib.hid hg
  clear hg
  go_enter Tryz.func43, Tryz.ntmps43
  go_wp2_with fail
  go_loopw [5] (fun s5 wx => ∃ k : Nat, k ≤ n ∧ s5 = .int .i64 k ∧ Hid ((∃ cur', wx.heap[g]? = some (.cells cur' 127 (0, 0)) ∧ Ers cur cur' o k) ∧ Keeps [g] w wx)) (fun s5 _ => n - (intOf s5).toNat)
  case atStart => exact ⟨0, by omega, rfl, Go.Lib.hid ⟨⟨cur, HG.out, Ers.nil _ _⟩, Keeps.refl _ _⟩⟩
  case round =>
    obtain ⟨k, hk, rfl, HK⟩ := hrel
    by_cases hlt : k < n
    · obtain ⟨⟨cur', h1, h2⟩, h3⟩ := HK.out
      have hlt' : o + k < cur'.size := by rw [h2.size]; omega
      obtain ⟨c0, c1⟩ := cell_at h1 (Array.getElem?_eq_getElem hlt')
      have d1 : decide (k < n) = true := decide_eq_true hlt
      have d2 : decide ((k : Int) < (n : Int)) = true := decide_eq_true (by omega)
      have HE : Hid ((∃ cur2, (wr.setCell ⟨g, o + k, none⟩ ffs).heap[g]? = some (.cells cur2 127 (0, 0)) ∧ Ers cur cur2 o (k + 1)) ∧ Keeps [g] w (wr.setCell ⟨g, o + k, none⟩ ffs)) := Go.Lib.hid ⟨⟨_, heap_setCell_self h1, h2.step⟩, h3.setCell (by simp) _⟩
      clear h1 h2 h3 HK
      go_wp2_with fail
      exact ⟨⟨k + 1, by omega, by go_num, HE⟩, by simp [intOf]; omega⟩
    · obtain rfl : k = n := by omega
      have d1 : decide (k < k) = false := decide_eq_false (by omega)
      go_wp2_with fail
      go_end0
      exact ⟨⟨_, rfl⟩, HK.out⟩
end Go.Proofs.YtkhalpnonijogaaGreat
namespace Go.Proofs.YtkhalpnonijogaaGreat
open Go.RowKit

/-- A flash in memory, its words blank but for the first. -/
structure FlashIs (w : World) (f g : Nat) (cnt : Int) (first : Value) : Prop where
  top : w.heap[f]? = some (.cells #[.slice (some ⟨g, 0, none⟩) 512 512, .int .i64 cnt, .int .i64 (-1)] 126 (0, 0))
  row : ∃ cur, w.heap[g]? = some (.cells cur 127 (0, 0)) ∧ cur.size = 512 ∧ cur[0]? = some first ∧ ∀ j, 1 ≤ j → j < 512 → cur[j]? = some ffs
theorem info127 : ∃ i0, Tryz.prog.info? 127 = some i0 ∧ i0.zero = some (.int .u32 0) ∧ i0.size = 1 ∧ i0.bytes = 4 := by
  have hm : (Tryz.prog.info? 127).map (fun i => (i.zero, i.size, i.bytes)) = some (some (.int .u32 0), 1, 4) := by kernel_rfl
  obtain ⟨i0, h1, h2, h3, h4⟩ := info_parts hm
  exact ⟨i0, h1, h2, h3, h4⟩
theorem copy_none (W : World) (g : Nat) : (Builtin.copy_ #[124, 71] 3 #[.slice (some ⟨g, 0, none⟩) 512 512, .slice none 0 0]).run Tryz.prog W = .ok (.int .i64 0) W := by
  obtain ⟨i0, hi, hz0, hz1, hz2⟩ := info127
  simp [Builtin.copy_, run_underlying Tryz.underlying124, Builtin.lenOf, Builtin.firstCells, sizeOf, typeInfo, hi, goInt, storeCells]
set_option maxHeartbeats 3200000 in
set_option maxRecDepth 100000 in
theorem flash_new (w : World) : Calls Tryz.prog 26 #[.slice none 0 0] w fun e w' => ∃ f g, e = .returned (.tuple #[.pointer (some ⟨f, 0, none⟩), .int .i64 0]) ∧ FlashIs w' f g 0 ffs ∧ w.heap.size ≤ f ∧ w.heap.size ≤ g ∧ Keeps [] w w' := by
  obtain ⟨i0, hi, hz0, hz1, hz2⟩ := info127
  have hms := run_makeSlice (P := Tryz.prog) (w := w) 124 127 i0 _ Tryz.underlying124 hi hz0 .i64 .i64 512 512 (by omega) (by omega) (by rw [hz1]; decide) (by rw [hz2]; decide) (by decide)
  obtain ⟨X, hX⟩ : ∃ X, X = madeCells (Value.int .u32 0).cells ((512 : Int).toNat * i0.size) := ⟨_, rfl⟩
  rw [← hX] at hms
  have hXs : X.size = 512 := by rw [hX, hz1]; simp [madeCells]
  simp only [show (512 : Int).toNat = 512 from rfl] at hms
  obtain ⟨g, hg⟩ : ∃ g, g = w.heap.size := ⟨_, rfl⟩
  obtain ⟨W, hW⟩ : ∃ W, W = (w.alloc (.cells X 127)).alloc (.cells #[.slice (some ⟨g, 0, none⟩) 512 512, .int .i64 0, .int .i64 (-1)] 126) := ⟨_, rfl⟩
  rw [← hg] at hms
  have hk : Keeps [] w W := by rw [hW]; exact ((Keeps.refl _ _).alloc _).alloc _
  have hf1 : W.heap[g + 1]? = some (.cells #[.slice (some ⟨g, 0, none⟩) 512 512, .int .i64 0, .int .i64 (-1)] 126 (0, 0)) := by
    rw [hW, hg, ← World.size_alloc w (.cells X 127)]
    exact heap_alloc_new _ _
  have hg1 : W.heap[g]? = some (.cells X 127 (0, 0)) := by
    rw [hW, Below.heap_alloc _ _ _ (by simp [hg]), hg]
    exact heap_alloc_new _ _
  have HW := Go.Lib.hid hW
  have HG := Go.Lib.hid hg
  have HE := Go.Lib.hid (erase_ok hg1 (o := 0) (n := 512) (c := 512) (by omega) (by omega) (by omega))
  have HF := Go.Lib.hid hf1
  have HK := Go.Lib.hid hk
  have HS := Go.Lib.hid hXs
  obtain ⟨p0, p1, p2, _⟩ := cells3 hf1
  clear hX hXs hW hg hi hz0 hz1 hz2 hf1 hg1 hk
  go_enter Tryz.func26, Tryz.ntmps26
  go_upto_region 4 with fail
  rw [← HW.out, ← HG.out]
  go_wp2_with fail
  refine HE.out.mono ?_
  rintro e w1 ⟨⟨v, rfl⟩, ⟨cur, hc1, hc2⟩, hk1⟩
  have hf1 := hk1.heap HF.out (by simp)
  obtain ⟨q0, q1, q2, _⟩ := cells3 hf1
  have HN : Hid (FlashIs w1 (g + 1) g 0 ffs ∧ Keeps [] w w1) := Go.Lib.hid ⟨⟨hf1, cur, hc1, by rw [hc2.size, HS.out], by rw [hc2.get 0 (by rw [HS.out]; omega)]; rfl, fun j h1 h2 => by rw [hc2.get j (by rw [HS.out]; omega), if_pos (by omega)]⟩, HK.out.step hk1 (fun z hz => .inr (by rw [List.mem_singleton.1 hz, HG.out]; exact Nat.le_refl _))⟩
  clear p0 p1 p2 hc1 hc2 hk1 hf1 HE HF HK HS HW hms
  have hcp := copy_none w1 g
  go_wp2_with (refine wpList_copy_run (by rfl) (by rfl) hcp ?_)
  go_ret2
  exact ⟨_, _, rfl, HN.out.1, by have := HG.out; omega, by have := HG.out; omega, HN.out.2⟩
end Go.Proofs.YtkhalpnonijogaaGreat
