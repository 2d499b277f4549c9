/- pipe.New. No condition. -/
import Derived.Test.YtkhalpnonijogaaGreatX38
namespace Go.Proofs.YtkhalpnonijogaaGreat
open Go.RowKit

def freshA : Array Value := #[.int .i64 1073741824, .int .i64 0, .int .i64 0, .int .i64 0]
def plainA : Array Value := #[.int .i64 0, .int .i64 0, .int .i64 0, .int .i64 0, .int .i64 0, .int .i64 0, .int .i64 0, .int .i64 1073741824, .int .i64 0, .int .i64 0, .int .i64 0, .int .i64 1073741824, .int .i64 0, .int .i64 0, .int .i64 0, .int .i64 1073741824]
theorem info178 : (Tryz.prog.info? 178).map (·.size) = some 4 := by kernel_rfl
theorem info184 : (Tryz.prog.info? 184).map (·.size) = some 16 := by kernel_rfl
set_option maxHeartbeats 1600000 in
set_option maxRecDepth 100000 in
theorem fresh_ok (w : World) : Calls Tryz.prog 77 #[] w fun e w' => e = .returned (.agg freshA) ∧ Keeps [] w w' := by
  go_enter Tryz.func77, Tryz.ntmps77
  go_wp2_with fail
  refine bodyPost_ret (results_cell_row rfl _ _ w.heap.size 178 freshA (0, 0) _ rfl (heap_alloc_new _ _) Tryz.underlying178 rfl info178) rfl ?_
  exact ⟨rfl, (Keeps.refl _ _).alloc _⟩
set_option maxHeartbeats 1600000 in
set_option maxRecDepth 100000 in
theorem plain_ok (w : World) : Calls Tryz.prog 78 #[] w fun e w' => e = .returned (.agg plainA) ∧ Keeps [] w w' := by
  go_enter Tryz.func78, Tryz.ntmps78
  go_wp2_with fail
  refine bodyPost_ret (results_cell_row rfl _ _ w.heap.size 184 plainA (0, 0) _ rfl (heap_alloc_new _ _) Tryz.underlying184 rfl info184) rfl ?_
  exact ⟨rfl, (Keeps.refl _ _).alloc _⟩
end Go.Proofs.YtkhalpnonijogaaGreat
