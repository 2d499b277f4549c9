/- A place of an array of eight numbers, read. No condition but the place's. -/
import Derived.Test.YtldnnkceeeinlaaBMore
namespace Go.Proofs.Ytldnnkceeeinlaa
open Go.RowKit
theorem run_index8 {u : List Int} (h8 : u.length = 8) {j : Nat} {x : Int} (hv : u[j]? = some x) : ∀ w : World, (Instr.index 45 (.agg (ints u).toArray) (.int .i64 j)).run Try.prog w = .ok (.int .i64 x) w := by
  obtain ⟨u0, u1, u2, u3, u4, u5, u6, u7, rfl⟩ := eight h8
  have hj : j < 8 := (List.getElem?_eq_some_iff.1 hv).1
  rcases (show j = 0 ∨ j = 1 ∨ j = 2 ∨ j = 3 ∨ j = 4 ∨ j = 5 ∨ j = 6 ∨ j = 7 by omega) with rfl | rfl | rfl | rfl | rfl | rfl | rfl | rfl <;>
    (obtain rfl := Option.some.inj hv; intro w; kernel_rfl)
end Go.Proofs.Ytldnnkceeeinlaa
