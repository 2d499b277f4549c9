/- drv.table's makers. No condition. | drv.becomes. No condition. | drv's closures: a constant. No condition. -/
import Derived.Test.YtkhalpnonijogaaGreatX40
namespace Go.Proofs.YtkhalpnonijogaaGreat
open Go.RowKit

set_option maxHeartbeats 800000 in
set_option maxRecDepth 100000 in
theorem always_ok (n : Int) (w : World) : Calls Tryz.prog 187 #[.int .i64 n] w fun e w' => ∃ b, e = .returned (.func (.func 236) #[] #[.pointer (some ⟨b, 0, none⟩)]) ∧ w'.heap[b]? = some (.cells #[.int .i64 n] 3 (0, 0)) ∧ w.heap.size ≤ b ∧ Keeps [] w w' := by
  have HE : Hid ((w.alloc (.cells #[.int .i64 n] 3)).heap[w.heap.size]? = some (.cells #[.int .i64 n] 3 (0, 0)) ∧ w.heap.size ≤ w.heap.size ∧ Keeps [] w (w.alloc (.cells #[.int .i64 n] 3))) := Go.Lib.hid ⟨heap_alloc_new _ _, Nat.le_refl _, (Keeps.refl _ _).alloc _⟩
  go_enter Tryz.func187, Tryz.ntmps187
  go_wp2_with fail
  go_ret
  exact ⟨_, rfl, HE.out⟩
set_option maxHeartbeats 800000 in
set_option maxRecDepth 100000 in
theorem read_ok (n : Int) (fn : Fn) (A B : Array Value) (w : World) : Calls Tryz.prog 188 #[.int .i64 n, .func fn A B] w fun e w' => ∃ b, e = .returned (.func (.func 237) #[] #[.pointer (some ⟨b, 0, none⟩), .pointer (some ⟨b + 1, 0, none⟩)]) ∧ w'.heap[b]? = some (.cells #[.int .i64 n] 3 (0, 0)) ∧ w'.heap[b + 1]? = some (.cells #[.func fn A B] 378 (0, 0)) ∧ w.heap.size ≤ b ∧ Keeps [] w w' := by
  have HE : Hid (((w.alloc (.cells #[.int .i64 n] 3)).alloc (.cells #[.func fn A B] 378)).heap[w.heap.size]? = some (.cells #[.int .i64 n] 3 (0, 0)) ∧ ((w.alloc (.cells #[.int .i64 n] 3)).alloc (.cells #[.func fn A B] 378)).heap[w.heap.size + 1]? = some (.cells #[.func fn A B] 378 (0, 0)) ∧ w.heap.size ≤ w.heap.size ∧ Keeps [] w ((w.alloc (.cells #[.int .i64 n] 3)).alloc (.cells #[.func fn A B] 378))) := Go.Lib.hid (by
    refine ⟨?_, ?_, Nat.le_refl _, ((Keeps.refl _ _).alloc _).alloc _⟩
    · rw [Below.heap_alloc _ _ _ (by simp)]; exact heap_alloc_new _ _
    · rw [← World.size_alloc w (.cells #[.int .i64 n] 3)]; exact heap_alloc_new _ _)
  go_enter Tryz.func188, Tryz.ntmps188
  go_wp2_with fail
  go_ret
  exact ⟨_, rfl, HE.out⟩
set_option maxHeartbeats 800000 in
set_option maxRecDepth 100000 in
theorem write_ok (n : Int) (fn : Fn) (A B : Array Value) (w : World) : Calls Tryz.prog 190 #[.int .i64 n, .func fn A B] w fun e w' => ∃ b, e = .returned (.func (.func 238) #[] #[.pointer (some ⟨b, 0, none⟩), .pointer (some ⟨b + 1, 0, none⟩)]) ∧ w'.heap[b]? = some (.cells #[.int .i64 n] 3 (0, 0)) ∧ w'.heap[b + 1]? = some (.cells #[.func fn A B] 378 (0, 0)) ∧ w.heap.size ≤ b ∧ Keeps [] w w' := by
  have HE : Hid (((w.alloc (.cells #[.int .i64 n] 3)).alloc (.cells #[.func fn A B] 378)).heap[w.heap.size]? = some (.cells #[.int .i64 n] 3 (0, 0)) ∧ ((w.alloc (.cells #[.int .i64 n] 3)).alloc (.cells #[.func fn A B] 378)).heap[w.heap.size + 1]? = some (.cells #[.func fn A B] 378 (0, 0)) ∧ w.heap.size ≤ w.heap.size ∧ Keeps [] w ((w.alloc (.cells #[.int .i64 n] 3)).alloc (.cells #[.func fn A B] 378))) := Go.Lib.hid (by
    refine ⟨?_, ?_, Nat.le_refl _, ((Keeps.refl _ _).alloc _).alloc _⟩
    · rw [Below.heap_alloc _ _ _ (by simp)]; exact heap_alloc_new _ _
    · rw [← World.size_alloc w (.cells #[.int .i64 n] 3)]; exact heap_alloc_new _ _)
  go_enter Tryz.func190, Tryz.ntmps190
  go_wp2_with fail
  go_ret
  exact ⟨_, rfl, HE.out⟩
end Go.Proofs.YtkhalpnonijogaaGreat
namespace Go.Proofs.YtkhalpnonijogaaGreat
open Go.RowKit

set_option maxHeartbeats 800000 in
set_option maxRecDepth 100000 in
theorem becomes_ok (n : Int) (t : Bool) (w : World) : Calls Tryz.prog 195 #[.int .i64 n, .bool t] w fun e w' => ∃ b, e = .returned (.func (.func 241) #[] #[.pointer (some ⟨b, 0, none⟩), .pointer (some ⟨b + 1, 0, none⟩)]) ∧ w'.heap[b]? = some (.cells #[.int .i64 n] 3 (0, 0)) ∧ w'.heap[b + 1]? = some (.cells #[.bool t] 4 (0, 0)) ∧ w.heap.size ≤ b ∧ Keeps [] w w' := by
  have HE : Hid (((w.alloc (.cells #[.int .i64 n] 3)).alloc (.cells #[.bool t] 4)).heap[w.heap.size]? = some (.cells #[.int .i64 n] 3 (0, 0)) ∧ ((w.alloc (.cells #[.int .i64 n] 3)).alloc (.cells #[.bool t] 4)).heap[w.heap.size + 1]? = some (.cells #[.bool t] 4 (0, 0)) ∧ w.heap.size ≤ w.heap.size ∧ Keeps [] w ((w.alloc (.cells #[.int .i64 n] 3)).alloc (.cells #[.bool t] 4))) := Go.Lib.hid (by
    refine ⟨?_, ?_, Nat.le_refl _, ((Keeps.refl _ _).alloc _).alloc _⟩
    · rw [Below.heap_alloc _ _ _ (by simp)]; exact heap_alloc_new _ _
    · rw [← World.size_alloc w (.cells #[.int .i64 n] 3)]; exact heap_alloc_new _ _)
  go_enter Tryz.func195, Tryz.ntmps195
  go_wp2_with fail
  go_ret
  exact ⟨_, rfl, HE.out⟩
end Go.Proofs.YtkhalpnonijogaaGreat
namespace Go.Proofs.YtkhalpnonijogaaGreat
open Go.RowKit

set_option maxHeartbeats 800000 in
set_option maxRecDepth 100000 in
theorem cl_const {b : Nat} {n : Int} {a id p st fl : Int} {want tr : Bool} {w : World} (hb : w.heap[b]? = some (.cells #[.int .i64 n] 3 (0, 0))) : Calls Tryz.prog 236 #[.agg (drvA a id want p st fl tr), .pointer (some ⟨b, 0, none⟩)] w fun e w' => e = .returned (.int .i64 n) ∧ Keeps [] w w' := by
  have hk := (Keeps.refl [] w).alloc (.cells #[.int .i64 a, .int .i64 id, .bool want, .int .i64 p, .int .i64 st, .int .i64 fl, .bool tr, .int .i64 0, .int .i64 0] 85)
  have c0 := (cell_at (hk.heap hb (by simp)) (p := 0) rfl).1
  have HK := Go.Lib.hid hk
  clear hk hb
  unfold drvA
  go_enter Tryz.func236, Tryz.ntmps236
  go_wp2_with fail
  go_ret
  exact ⟨rfl, HK.out⟩
end Go.Proofs.YtkhalpnonijogaaGreat
