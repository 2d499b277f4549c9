/- link.Again, where the number is another one. No condition but the link's own. -/
import Derived.Test.YtkhalpnonijogaaGreatX15
namespace Go.Proofs.YtkhalpnonijogaaGreat
open Go.RowKit

set_option maxHeartbeats 1600000 in
set_option maxRecDepth 100000 in
theorem again_nil {g nx : Nat} {left : Value} {bad : Int} {s k : Int} {v : Value} {w : World} (hg : w.heap[g]? = some (.cells (lkA left bad nx (.pointer none)) 150 (0, 0))) :
    Calls Tryz.prog 57 #[.pointer (some ⟨g, 0, none⟩), .agg #[.int .i64 s, .int .i64 k, v]] w fun e w' => e = .returned (.tuple #[.slice none 0 0, .bool false]) ∧ Keeps [] w w' := by
  obtain ⟨b, hb⟩ : ∃ b, b = w.heap.size := ⟨_, rfl⟩
  obtain ⟨w0, hw0⟩ : ∃ w0, w0 = w.alloc (.cells #[.int .i64 s, .int .i64 k, v] 63) := ⟨_, rfl⟩
  have hk0 : Keeps [] w w0 := by rw [hw0]; exact (Keeps.refl _ _).alloc _
  have hg0 := hk0.heap hg (by simp)
  have p3 : w0.cell? ⟨g, 3, none⟩ = some (.pointer none) := (cell_at hg0 rfl).1
  have HK0 := Go.Lib.hid hk0
  have HW := Go.Lib.hid hw0
  have HB := Go.Lib.hid hb
  clear hb hw0 hk0 hg0 hg
  go_enter Tryz.func57, Tryz.ntmps57
  go_upto_region 1 with fail
  rw [← HW.out, ← HB.out]
  go_quiet (fail)
  go_wp2_with fail
  go_ret2
  exact ⟨rfl, HK0.out.drewN _⟩

set_option maxHeartbeats 1600000 in
set_option maxRecDepth 100000 in
theorem again_ne {g nx q : Nat} {left : Value} {bad : Int} {s k s' : Int} {v c1 c2 c3 : Value} {w : World} (hg : w.heap[g]? = some (.cells (lkA left bad nx (.pointer (some ⟨q, 0, none⟩))) 150 (0, 0))) (hq : w.heap[q]? = some (.cells #[.int .i64 s', c1, c2, c3] 248 (0, 0))) (hne : s' ≠ s) :
    Calls Tryz.prog 57 #[.pointer (some ⟨g, 0, none⟩), .agg #[.int .i64 s, .int .i64 k, v]] w fun e w' => e = .returned (.tuple #[.slice none 0 0, .bool false]) ∧ Keeps [] w w' := by
  obtain ⟨b, hb⟩ : ∃ b, b = w.heap.size := ⟨_, rfl⟩
  obtain ⟨w0, hw0⟩ : ∃ w0, w0 = w.alloc (.cells #[.int .i64 s, .int .i64 k, v] 63) := ⟨_, rfl⟩
  have hk0 : Keeps [] w w0 := by rw [hw0]; exact (Keeps.refl _ _).alloc _
  have hg0 := hk0.heap hg (by simp)
  have hq0 := hk0.heap hq (by simp)
  have hx0 : w0.heap[b]? = some (.cells #[.int .i64 s, .int .i64 k, v] 63 (0, 0)) := by rw [hw0, hb]; exact heap_alloc_new _ _
  have p3 : w0.cell? ⟨g, 3, none⟩ = some (.pointer (some ⟨q, 0, none⟩)) := (cell_at hg0 rfl).1
  have p4 : w0.cell? ⟨q, 0, none⟩ = some (.int .i64 s') := (cell_at hq0 (p := 0) rfl).1
  have p5 : w0.cell? ⟨b, 0, none⟩ = some (.int .i64 s) := (cell_at hx0 (p := 0) rfl).1
  have f1 : (s' != s) = true := by simpa using hne
  have HK0 := Go.Lib.hid hk0
  have HW := Go.Lib.hid hw0
  have HB := Go.Lib.hid hb
  clear hb hw0 hk0 hg0 hg hq hq0 hx0 hne
  go_enter Tryz.func57, Tryz.ntmps57
  go_upto_region 1 with fail
  rw [← HW.out, ← HB.out]
  go_quiet (fail)
  go_wp2_with fail
  go_ret2
  exact ⟨rfl, HK0.out.drewN _⟩
end Go.Proofs.YtkhalpnonijogaaGreat
