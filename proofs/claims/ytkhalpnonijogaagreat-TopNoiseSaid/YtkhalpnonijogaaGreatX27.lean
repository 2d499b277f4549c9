/- drv.Good, Set, bad of drivers that are given up or on their way there. No condition but the numbers' bounds. -/
import Derived.Test.YtkhalpnonijogaaGreatX19
namespace Go.Proofs.YtkhalpnonijogaaGreat
open Go.RowKit

/-- A driver's cells. -/
def drvA (a id : Int) (want : Bool) (p st fl : Int) (tr : Bool) : Array Value := #[.int .i64 a, .int .i64 id, .bool want, .int .i64 p, .int .i64 st, .int .i64 fl, .bool tr, .int .i64 0, .int .i64 0]
structure DrvOk (a id p st fl : Int) : Prop where
  a0 : 0 ≤ a
  a127 : a ≤ 127
  i0 : 0 ≤ id
  i255 : id ≤ 255
  p1 : 1 ≤ p
  p250 : p ≤ 250
  s0 : 6 ≤ st
  s8 : st ≤ 8
  f0 : 0 ≤ fl
  f2 : fl ≤ 2
set_option maxHeartbeats 1600000 in
set_option maxRecDepth 100000 in
theorem dgood_ok {a id p st fl : Int} {want tr : Bool} (h : DrvOk a id p st fl) (w : World) : Calls Tryz.prog 86 #[.agg (drvA a id want p st fl tr)] w (IsTrue w) := by
  obtain ⟨h1, h2, h3, h4, h5, h6, h7, h8, h9, h10⟩ := h
  have d1 : decide (a < 0) = false := decide_eq_false (by omega)
  have d2 : decide (127 < a) = false := decide_eq_false (by omega)
  have d3 : decide (id < 0) = false := decide_eq_false (by omega)
  have d4 : decide (255 < id) = false := decide_eq_false (by omega)
  have d5 : decide (p < 1) = false := decide_eq_false (by omega)
  have d6 : decide (250 < p) = false := decide_eq_false (by omega)
  have d7 : decide (st < 0) = false := decide_eq_false (by omega)
  have d8 : decide (8 < st) = false := decide_eq_false (by omega)
  have d9 : decide (fl < 0) = false := decide_eq_false (by omega)
  have d10 : decide (3 ≤ fl) = false := decide_eq_false (by omega)
  have d11 : (st == 5) = false := by simp; omega
  unfold drvA
  go_enter Tryz.func86, Tryz.ntmps86
  go_wp2_with fail
  go_ret
  exact ⟨rfl, (Keeps.refl _ _).alloc _⟩

section
variable {w : World} {g : Nat} {c0 c1 c2 c3 c4 c5 c6 c7 c8 : Value} {t : TypeId}
theorem cells9 (h : w.heap[g]? = some (.cells #[c0, c1, c2, c3, c4, c5, c6, c7, c8] t (0, 0))) : w.cell? ⟨g, 0, none⟩ = some c0 ∧ w.cell? ⟨g, 1, none⟩ = some c1 ∧ w.cell? ⟨g, 2, none⟩ = some c2 ∧ w.cell? ⟨g, 3, none⟩ = some c3 ∧ w.cell? ⟨g, 4, none⟩ = some c4 ∧ w.cell? ⟨g, 5, none⟩ = some c5 ∧ w.cell? ⟨g, 6, none⟩ = some c6 ∧ w.cell? ⟨g, 7, none⟩ = some c7 ∧ w.cell? ⟨g, 8, none⟩ = some c8 := by
  simp [World.cell?, h]
theorem free9 (h : w.heap[g]? = some (.cells #[c0, c1, c2, c3, c4, c5, c6, c7, c8] t (0, 0))) : w.frozen? ⟨g, 0, none⟩ = false ∧ w.frozen? ⟨g, 1, none⟩ = false ∧ w.frozen? ⟨g, 2, none⟩ = false ∧ w.frozen? ⟨g, 3, none⟩ = false ∧ w.frozen? ⟨g, 4, none⟩ = false ∧ w.frozen? ⟨g, 5, none⟩ = false ∧ w.frozen? ⟨g, 6, none⟩ = false ∧ w.frozen? ⟨g, 7, none⟩ = false ∧ w.frozen? ⟨g, 8, none⟩ = false := by
  simp [World.frozen?, h]
end
/-- Set, of a driver that is given up. -/
def DrvF (v : Array Value) (w : World) (e : Ending) (w' : World) : Prop := e = .returned (.tuple #[.agg v, .int .i64 0]) ∧ Keeps [] w w'
set_option maxHeartbeats 1600000 in
set_option maxRecDepth 100000 in
theorem dset_ok {a id p q : Int} {want b : Bool} (h : DrvOk a id p 8 0) (h1 : 1 ≤ q) (h2 : q ≤ 250) (w : World) : Calls Tryz.prog 111 #[.agg (drvA a id want p 8 0 false), .bool b, .int .i64 q] w (DrvF (drvA a id b q 8 0 false) w) := by
  have HG := Go.Lib.hid (fun W => dgood_ok (want := want) (tr := false) h W)
  unfold drvA at HG ⊢
  clear h
  have d1 : decide (q < 1) = false := decide_eq_false (by omega)
  have d2 : decide (250 < q) = false := decide_eq_false (by omega)
  go_enter Tryz.func111, Tryz.ntmps111
  go_upto_region 1 with fail
  obtain ⟨x, hx⟩ : ∃ x, x = w.heap.size := ⟨_, rfl⟩
  obtain ⟨w0, hw0⟩ : ∃ w0, w0 = (w.alloc (.cells #[.int .i64 a, .int .i64 id, .bool want, .int .i64 p, .int .i64 8, .int .i64 0, .bool false, .int .i64 0, .int .i64 0] 85)).alloc (.cells #[.int .i64 0, .int .i64 0, .bool false, .int .i64 0, .int .i64 0, .int .i64 0, .bool false, .int .i64 0, .int .i64 0] 85) := ⟨_, rfl⟩
  rw [← hw0, ← hx]
  have hk0 : Keeps [] w w0 := by rw [hw0]; exact ((Keeps.refl _ _).alloc _).alloc _
  have h1 : w0.heap[x]? = some (.cells #[.int .i64 a, .int .i64 id, .bool want, .int .i64 p, .int .i64 8, .int .i64 0, .bool false, .int .i64 0, .int .i64 0] 85 (0, 0)) := by
    rw [hw0, Below.heap_alloc _ _ _ (by simp [hx]), hx]; exact heap_alloc_new _ _
  have h2 : w0.heap[x + 1]? = some (.cells #[.int .i64 0, .int .i64 0, .bool false, .int .i64 0, .int .i64 0, .int .i64 0, .bool false, .int .i64 0, .int .i64 0] 85 (0, 0)) := by
    rw [hw0, hx, ← World.size_alloc w (.cells #[.int .i64 a, .int .i64 id, .bool want, .int .i64 p, .int .i64 8, .int .i64 0, .bool false, .int .i64 0, .int .i64 0] 85)]; exact heap_alloc_new _ _
  have HX := Go.Lib.hid (Nat.le_of_eq hx.symm)
  have HK0 := Go.Lib.hid hk0
  have H1 := Go.Lib.hid h1
  have H2 := Go.Lib.hid h2
  have c0 := cells9 h1
  clear hx hw0 hk0 h1 h2
  obtain ⟨p0, p1, p2, p3, p4, p5, p6, p7, p8⟩ := c0
  go_wp2_with fail
  refine (HG.out _).mono ?_
  rintro e w1 ⟨rfl, hk1⟩
  have HK1 := Go.Lib.hid (HK0.out.trans hk1)
  have h11 := hk1.heap H1.out (by simp)
  have h12 := hk1.heap H2.out (by simp)
  obtain ⟨q0, q1, q2, q3, q4, q5, q6, q7, q8⟩ := cells9 h11
  obtain ⟨f0, f1, f2, f3, f4, f5, f6, f7, f8⟩ := free9 h11
  obtain ⟨g0, g1, g2, g3, g4, g5, g6, g7, g8⟩ := free9 h12
  obtain ⟨r0, r1, r2, r3, r4, r5, r6, r7, r8⟩ := cells9 h12
  clear hk1 h11 h12 p0 p1 p2 p3 p4 p5 p6 p7 p8 HG
  go_wp2_with fail
  go_quiet (fail)
  have hx9 := HX.out
  cases b
  all_goals
    go_wp2_with fail
    refine bodyPost_ret (v := .tuple #[.agg #[.int .i64 a, .int .i64 id, .bool _, .int .i64 q, .int .i64 8, .int .i64 0, .bool false, .int .i64 0, .int .i64 0], .int .i64 0]) (by simp [results, Tryz.f111, go_sem, r0, r1, r2, r3, r4, r5, r6, r7, r8]) rfl ⟨rfl, ?_⟩
    repeat (refine Keeps.setNew ?_ (by simp; omega) _)
    exact HK1.out.drewN _
end Go.Proofs.YtkhalpnonijogaaGreat
