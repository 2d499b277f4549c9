/- drv's closures: a write. No condition but the numbers'. | hub.put for nobody, rate.Needing of an empty table. No condition but the numbers'. -/
import Derived.Test.YtkhalpnonijogaaGreatX42
namespace Go.Proofs.YtkhalpnonijogaaGreat
open Go.RowKit

theorem info230 : (Tryz.prog.info? 230).map (·.size) = some 4 := by kernel_rfl
theorem st4 {W : World} {x : Nat} {u0 u1 u2 u3 a b c d : Value} {t : TypeId} (h : W.heap[x]? = some (.cells #[u0, u1, u2, u3] t (0, 0))) : ((((W.setCell ⟨x, 0, none⟩ a).setCell ⟨x, 1, none⟩ b).setCell ⟨x, 2, none⟩ c).setCell ⟨x, 3, none⟩ d).heap[x]? = some (.cells #[a, b, c, d] t (0, 0)) :=
  (heap_setCell_self (heap_setCell_self (heap_setCell_self (heap_setCell_self h)))).trans (by simp)
theorem keeps4 (W : World) (x : Nat) (a b c d : Value) : Keeps [x] W ((((W.setCell ⟨x, 0, none⟩ a).setCell ⟨x, 1, none⟩ b).setCell ⟨x, 2, none⟩ c).setCell ⟨x, 3, none⟩ d) := ((((Keeps.refl [x] W).setCell (by simp) _).setCell (by simp) _).setCell (by simp) _).setCell (by simp) _
/-- A write's transaction: one byte. -/
def TxF (a r : Int) (w : World) (e : Ending) (w' : World) : Prop := ∃ z, e = .returned (.agg #[.int .i64 a, .int .i64 r, .slice (some ⟨z, 0, none⟩) 1 1, .int .i64 0]) ∧ Keeps [] w w'
set_option maxHeartbeats 3200000 in
set_option maxRecDepth 100000 in
theorem cl_write {b q : Nat} {r n a id p st fl : Int} {want tr : Bool} {w : World} (hw : WrIs w b q r n) (hn : 0 ≤ n) (hn2 : n < 256) : Calls Tryz.prog 238 #[.agg (drvA a id want p st fl tr), .pointer (some ⟨b, 0, none⟩), .pointer (some ⟨b + 1, 0, none⟩)] w (TxF a r w) := by
  obtain ⟨g1, g2, g3⟩ := hw
  have HC := Go.Lib.hid (fun (W : World) (h : W.heap[q]? = some (.cells #[.int .i64 n] 3 (0, 0))) => cl_const (a := a) (id := id) (p := p) (st := st) (fl := fl) (want := want) (tr := tr) h)
  have dn : n % 256 = n := Int.emod_eq_of_lt hn hn2
  have DN := Go.Lib.hid dn
  have G1 := Go.Lib.hid g1
  have G2 := Go.Lib.hid g2
  have G3 := Go.Lib.hid g3
  unfold drvA at HC ⊢
  clear g1 g2 g3 hn hn2 dn
  go_enter Tryz.func238, Tryz.ntmps238
  go_upto_region 1 with fail
  obtain ⟨x, hx⟩ : ∃ x, x = w.heap.size := ⟨_, rfl⟩
  obtain ⟨w0, hw0⟩ : ∃ w0, w0 = (w.alloc (.cells #[.int .i64 a, .int .i64 id, .bool want, .int .i64 p, .int .i64 st, .int .i64 fl, .bool tr, .int .i64 0, .int .i64 0] 85)).alloc (.cells #[.int .i64 0, .int .i64 0, .slice none 0 0, .int .i64 0] 230) := ⟨_, rfl⟩
  rw [← hw0, ← hx]
  have hk0 : Keeps [] w w0 := by rw [hw0]; exact ((Keeps.refl _ _).alloc _).alloc _
  have h1 : w0.heap[x]? = some (.cells #[.int .i64 a, .int .i64 id, .bool want, .int .i64 p, .int .i64 st, .int .i64 fl, .bool tr, .int .i64 0, .int .i64 0] 85 (0, 0)) := by
    rw [hw0, Below.heap_alloc _ _ _ (by simp [hx]), hx]; exact heap_alloc_new _ _
  have h2 : w0.heap[x + 1]? = some (.cells #[.int .i64 0, .int .i64 0, .slice none 0 0, .int .i64 0] 230 (0, 0)) := by
    rw [hw0, hx, ← World.size_alloc w (.cells #[.int .i64 a, .int .i64 id, .bool want, .int .i64 p, .int .i64 st, .int .i64 fl, .bool tr, .int .i64 0, .int .i64 0] 85)]; exact heap_alloc_new _ _
  have kc : ∀ (W : World) (u0 u1 u2 u3 : Value), W.heap[x]? = some (.cells #[.int .i64 a, .int .i64 id, .bool want, .int .i64 p, .int .i64 st, .int .i64 fl, .bool tr, .int .i64 0, .int .i64 0] 85 (0, 0)) → W.heap[b]? = some (.cells #[.int .i64 r] 3 (0, 0)) → W.heap[b + 1]? = some (.cells #[.func (.func 236) #[] #[.pointer (some ⟨q, 0, none⟩)]] 378 (0, 0)) → W.heap[x + 1]? = some (.cells #[u0, u1, u2, u3] 230 (0, 0)) →
      W.cell? ⟨x, 0, none⟩ = some (.int .i64 a) ∧ W.cell? ⟨x, 1, none⟩ = some (.int .i64 id) ∧ W.cell? ⟨x, 2, none⟩ = some (.bool want) ∧ W.cell? ⟨x, 3, none⟩ = some (.int .i64 p) ∧ W.cell? ⟨x, 4, none⟩ = some (.int .i64 st) ∧ W.cell? ⟨x, 5, none⟩ = some (.int .i64 fl) ∧ W.cell? ⟨x, 6, none⟩ = some (.bool tr) ∧ W.cell? ⟨x, 7, none⟩ = some (.int .i64 0) ∧ W.cell? ⟨x, 8, none⟩ = some (.int .i64 0) ∧ W.cell? ⟨b, 0, none⟩ = some (.int .i64 r) ∧ W.cell? ⟨b + 1, 0, none⟩ = some (.func (.func 236) #[] #[.pointer (some ⟨q, 0, none⟩)]) ∧ StOk W ⟨x + 1, 0, none⟩ ∧ StOk W ⟨x + 1, 1, none⟩ ∧ StOk W ⟨x + 1, 2, none⟩ ∧ StOk W ⟨x + 1, 3, none⟩ := fun W u0 u1 u2 u3 e1 e2 e3 e4 => by
    obtain ⟨p0, p1, p2, p3, p4, p5, p6, p7, p8⟩ := cells9 e1
    exact ⟨p0, p1, p2, p3, p4, p5, p6, p7, p8, (cell_at e2 (p := 0) rfl).1, (cell_at e3 (p := 0) rfl).1, st_ok (cell_at e4 (p := 0) rfl).1 (cell_at e4 (p := 0) rfl).2, st_ok (cell_at e4 (p := 1) rfl).1 (cell_at e4 (p := 1) rfl).2, st_ok (cell_at e4 (p := 2) rfl).1 (cell_at e4 (p := 2) rfl).2, st_ok (cell_at e4 (p := 3) rfl).1 (cell_at e4 (p := 3) rfl).2⟩
  have KC := Go.Lib.hid kc
  have HP0 := Go.Lib.hid (And.intro h1 (And.intro (hk0.heap G1.out (by simp)) (And.intro (hk0.heap G2.out (by simp)) h2)))
  have HQ := Go.Lib.hid (hk0.heap G3.out (by simp))
  have HNE : Hid (x ∉ [x + 1] ∧ b ∉ [x + 1] ∧ b + 1 ∉ [x + 1]) := Go.Lib.hid (by
    have := lt_of_block G1.out
    have := lt_of_block G2.out
    simp only [List.mem_singleton]
    omega)
  have HK0 := Go.Lib.hid hk0
  have HX := Go.Lib.hid (Nat.le_of_eq hx.symm)
  clear kc hx hw0 hk0 h1 h2 G1 G2 G3
  go_region_held3 (fun W => W.cell? ⟨x, 0, none⟩ = some (.int .i64 a) ∧ W.cell? ⟨x, 1, none⟩ = some (.int .i64 id) ∧ W.cell? ⟨x, 2, none⟩ = some (.bool want) ∧ W.cell? ⟨x, 3, none⟩ = some (.int .i64 p) ∧ W.cell? ⟨x, 4, none⟩ = some (.int .i64 st) ∧ W.cell? ⟨x, 5, none⟩ = some (.int .i64 fl) ∧ W.cell? ⟨x, 6, none⟩ = some (.bool tr) ∧ W.cell? ⟨x, 7, none⟩ = some (.int .i64 0) ∧ W.cell? ⟨x, 8, none⟩ = some (.int .i64 0) ∧ W.cell? ⟨b, 0, none⟩ = some (.int .i64 r) ∧ W.cell? ⟨b + 1, 0, none⟩ = some (.func (.func 236) #[] #[.pointer (some ⟨q, 0, none⟩)]) ∧ StOk W ⟨x + 1, 0, none⟩ ∧ StOk W ⟨x + 1, 1, none⟩ ∧ StOk W ⟨x + 1, 2, none⟩ ∧ StOk W ⟨x + 1, 3, none⟩)
    (first | with_reducible exact KC.out _ _ _ _ _ (((Keeps.refl [] w0).drew).heap HP0.out.1 (by simp)) (((Keeps.refl [] w0).drew).heap HP0.out.2.1 (by simp)) (((Keeps.refl [] w0).drew).heap HP0.out.2.2.1 (by simp)) (((Keeps.refl [] w0).drew).heap HP0.out.2.2.2 (by simp)) | with_reducible exact KC.out _ _ _ _ _ HP1.out.1 HP1.out.2.1 HP1.out.2.2.1 HP1.out.2.2.2 | with_reducible exact KC.out _ _ _ _ _ (((Keeps.refl [] w1).alloc _).heap HP1.out.1 (by simp)) (((Keeps.refl [] w1).alloc _).heap HP1.out.2.1 (by simp)) (((Keeps.refl [] w1).alloc _).heap HP1.out.2.2.1 (by simp)) (((Keeps.refl [] w1).alloc _).heap HP1.out.2.2.2 (by simp)) | with_reducible exact KC.out _ _ _ _ _ ((((Keeps.refl [x + 1] w1).alloc _).trans (keeps4 _ _ _ _ _ _)).heap HP1.out.1 HNE.out.1) ((((Keeps.refl [x + 1] w1).alloc _).trans (keeps4 _ _ _ _ _ _)).heap HP1.out.2.1 HNE.out.2.1) ((((Keeps.refl [x + 1] w1).alloc _).trans (keeps4 _ _ _ _ _ _)).heap HP1.out.2.2.1 HNE.out.2.2) (st4 (((Keeps.refl [] w1).alloc _).heap HP1.out.2.2.2 (by simp))) | fail)
    ((go_at_call 236; (refine (HC.out _ (((Keeps.refl [] w0).drew).heap HQ.out (by simp))).mono ?_; rintro e w1 ⟨rfl, hk1⟩); have HK1 := Go.Lib.hid (((Keeps.refl [] w0).drew).trans hk1); have HP1 := Go.Lib.hid (And.intro (HK1.out.heap HP0.out.1 (by simp)) (And.intro (HK1.out.heap HP0.out.2.1 (by simp)) (And.intro (HK1.out.heap HP0.out.2.2.1 (by simp)) (HK1.out.heap HP0.out.2.2.2 (by simp))))); clear hk1))
  go_wp2_with fail
  have hx4 := st4 (a := .int .i64 a) (b := .int .i64 r) (c := .slice (some ⟨w1.heap.size, 0, none⟩) 1 1) (d := .int .i64 0) (((Keeps.refl [] w1).alloc (.cells #[.int .u8 (IntKind.u8.wrap n)] 5)).heap HP1.out.2.2.2 (by simp))
  have hX := HX.out
  refine bodyPost_ret (results_cell_row rfl _ _ (x + 1) 230 #[.int .i64 a, .int .i64 r, .slice (some ⟨w1.heap.size, 0, none⟩) 1 1, .int .i64 0] (0, 0) _ rfl hx4 Tryz.underlying230 rfl info230) rfl ⟨_, rfl, ?_⟩
  exact (((((HK0.out.trans HK1.out).alloc _).setNew (by simp; omega) _).setNew (by simp; omega) _).setNew (by simp; omega) _).setNew (by simp; omega) _
end Go.Proofs.YtkhalpnonijogaaGreat
namespace Go.Proofs.YtkhalpnonijogaaGreat
open Go.RowKit

set_option maxHeartbeats 1600000 in
set_option maxRecDepth 100000 in
theorem rising0 (w : World) : Calls Tryz.prog 207 #[.slice none 0 0, .slice none 0 0] w (IsTrue w) := by
  go_enter Tryz.func207, Tryz.ntmps207
  go_wp2_with fail
  go_loopw [14] (fun s14 wx => s14 = .int .i64 0 ∧ wx = w) (fun _ _ => 0)
  case atStart => exact ⟨rfl, rfl⟩
  case round =>
    obtain ⟨rfl, rfl⟩ := hrel
    go_wp2_with fail
    go_ret
    exact ⟨rfl, Keeps.refl _ _⟩
set_option maxHeartbeats 1600000 in
set_option maxRecDepth 100000 in
theorem time0 (w : World) : Calls Tryz.prog 118 #[.int .i64 0] w (IsTrue w) := by
  go_enter Tryz.func118, Tryz.ntmps118
  go_wp2_with fail
  go_ret
  exact ⟨rfl, Keeps.refl _ _⟩
set_option maxHeartbeats 3200000 in
set_option maxRecDepth 100000 in
theorem bput0 {q : Value} {s d : Int} (w : World) : Calls Tryz.prog 149 #[q, .agg #[.int .i64 s, .int .i64 0, .int .i64 d, .int .i64 0, .int .i64 0, .int .i64 0], .slice none 0 0, .slice none 0 0] w fun e w' => e = .returned (.int .i64 0) ∧ Keeps [] w w' := by
  go_enter Tryz.func149, Tryz.ntmps149
  go_upto_region 1 with fail
  obtain ⟨x, hx⟩ : ∃ x, x = w.heap.size := ⟨_, rfl⟩
  obtain ⟨w0, hw0⟩ : ∃ w0, w0 = w.alloc (.cells #[.int .i64 s, .int .i64 0, .int .i64 d, .int .i64 0, .int .i64 0, .int .i64 0] 49) := ⟨_, rfl⟩
  rw [← hw0, ← hx]
  have HK0 : Hid (Keeps [] w w0) := Go.Lib.hid (by rw [hw0]; exact (Keeps.refl _ _).alloc _)
  have h1 : w0.heap[x]? = some (.cells #[.int .i64 s, .int .i64 0, .int .i64 d, .int .i64 0, .int .i64 0, .int .i64 0] 49 (0, 0)) := by rw [hw0, hx]; exact heap_alloc_new _ _
  have H1 := Go.Lib.hid h1
  clear hx hw0 h1
  go_wp2_with fail
  refine (rising0 _).mono ?_
  rintro e w1 ⟨rfl, hk1⟩
  have c1 := (cell_at (hk1.heap H1.out (by simp)) (p := 1) rfl).1
  have HK1 := Go.Lib.hid (HK0.out.trans hk1)
  clear hk1
  go_wp2_with fail
  refine (time0 _).mono ?_
  rintro e w2 ⟨rfl, hk2⟩
  have HK2 := Go.Lib.hid (HK1.out.trans hk2)
  clear hk2 c1
  go_wp2_with fail
  go_ret
  exact ⟨rfl, HK2.out⟩
set_option maxHeartbeats 1600000 in
set_option maxRecDepth 100000 in
theorem needing0 {r k : Nat} {f : Value} {w : World} (hr : w.heap[r]? = some (.cells #[.slice none 0 0, f] 210 (0, 0))) (hk : k < 5) : Calls Tryz.prog 91 #[.pointer (some ⟨r, 0, none⟩), .int .i64 ((k : Int) + 1)] w fun e w' => e = .returned (.tuple #[.slice none 0 0, .int .i64 0]) ∧ Keeps [] w w' := by
  have c0 := (cell_at hr (p := 0) rfl).1
  have d1 : decide ((k : Int) + 1 < 1) = false := decide_eq_false (by omega)
  have d2 : decide (5 < (k : Int) + 1) = false := decide_eq_false (by omega)
  clear hr hk
  go_enter Tryz.func91, Tryz.ntmps91
  go_wp2_with fail
  go_loopw [6, 23] (fun s6 s23 wx => s6 = .slice none 0 0 ∧ s23 = .int .i64 0 ∧ wx = w) (fun _ _ _ => 0)
  case atStart => exact ⟨rfl, rfl, rfl⟩
  case round =>
    obtain ⟨rfl, rfl, rfl⟩ := hrel
    go_wp2_with fail
    go_ret2
    exact ⟨rfl, Keeps.refl _ _⟩
set_option maxHeartbeats 3200000 in
set_option maxRecDepth 100000 in
theorem hput0 {h : Nat} {q : Value} {k : Int} {arr : Array Value} {w : World} (hh : w.heap[h]? = some (.cells arr 94 (0, 0))) (h50 : arr[50]? = some q) : Calls Tryz.prog 92 #[.pointer (some ⟨h, 0, none⟩), .agg #[.int .i64 16, .int .i64 0, .int .i64 k, .int .i64 0, .int .i64 0, .int .i64 0], .slice none 0 0, .func (.func 93) #[] #[]] w fun e w' => (∃ v, e = .returned v) ∧ Keeps [] w w' := by
  go_enter Tryz.func92, Tryz.ntmps92
  go_upto_region 1 with fail
  obtain ⟨x, hx⟩ : ∃ x, x = w.heap.size := ⟨_, rfl⟩
  obtain ⟨w0, hw0⟩ : ∃ w0, w0 = w.alloc (.cells #[.int .i64 16, .int .i64 0, .int .i64 k, .int .i64 0, .int .i64 0, .int .i64 0] 49) := ⟨_, rfl⟩
  rw [← hw0, ← hx]
  have hk0 : Keeps [] w w0 := by rw [hw0]; exact (Keeps.refl _ _).alloc _
  have h1 : w0.heap[x]? = some (.cells #[.int .i64 16, .int .i64 0, .int .i64 k, .int .i64 0, .int .i64 0, .int .i64 0] 49 (0, 0)) := by rw [hw0, hx]; exact heap_alloc_new _ _
  have hh0 := hk0.heap hh (by simp)
  have kc : ∀ W : World, W.heap[h]? = some (.cells arr 94 (0, 0)) → W.heap[x]? = some (.cells #[.int .i64 16, .int .i64 0, .int .i64 k, .int .i64 0, .int .i64 0, .int .i64 0] 49 (0, 0)) → W.cell? ⟨h, 50, none⟩ = some q ∧ W.cell? ⟨x, 0, none⟩ = some (.int .i64 16) ∧ W.cell? ⟨x, 1, none⟩ = some (.int .i64 0) ∧ W.cell? ⟨x, 2, none⟩ = some (.int .i64 k) ∧ W.cell? ⟨x, 3, none⟩ = some (.int .i64 0) ∧ W.cell? ⟨x, 4, none⟩ = some (.int .i64 0) ∧ W.cell? ⟨x, 5, none⟩ = some (.int .i64 0) := fun W e1 e2 =>
    ⟨(cell_at e1 h50).1, (cell_at e2 (p := 0) rfl).1, (cell_at e2 (p := 1) rfl).1, (cell_at e2 (p := 2) rfl).1, (cell_at e2 (p := 3) rfl).1, (cell_at e2 (p := 4) rfl).1, (cell_at e2 (p := 5) rfl).1⟩
  have H1 := Go.Lib.hid h1
  have HK0 := Go.Lib.hid hk0
  have HH0 := Go.Lib.hid hh0
  have KC := Go.Lib.hid kc
  clear hx hw0 hk0 h1 hh0 kc hh h50
  go_wp2_with fail
  go_loopw [8, 13] (fun s8 s13 wx => s8 = .slice none 0 0 ∧ s13 = .int .i64 0 ∧ wx = w0) (fun _ _ _ => 0)
  case atStart => exact ⟨rfl, rfl, rfl⟩
  case round =>
    obtain ⟨rfl, rfl, rfl⟩ := hrel
    go_upto_region 7 with fail
    go_region_held3 (fun W => W.cell? ⟨h, 50, none⟩ = some q ∧ W.cell? ⟨x, 0, none⟩ = some (.int .i64 16) ∧ W.cell? ⟨x, 1, none⟩ = some (.int .i64 0) ∧ W.cell? ⟨x, 2, none⟩ = some (.int .i64 k) ∧ W.cell? ⟨x, 3, none⟩ = some (.int .i64 0) ∧ W.cell? ⟨x, 4, none⟩ = some (.int .i64 0) ∧ W.cell? ⟨x, 5, none⟩ = some (.int .i64 0))
      (first | with_reducible exact KC.out _ (((Keeps.refl [] wr).drew).heap HH0.out (by simp)) (((Keeps.refl [] wr).drew).heap H1.out (by simp)) | with_reducible exact KC.out _ (HK1.out.heap HH0.out (by simp)) (HK1.out.heap H1.out (by simp)) | fail)
      ((go_at_call 149; (refine (bput0 _).mono ?_; rintro e w1 ⟨rfl, hk1⟩); have HK1 := Go.Lib.hid (((Keeps.refl [] wr).drew).trans hk1); clear hk1))
    go_wp2_with fail
    go_end0
    exact ⟨⟨_, rfl⟩, HK0.out.trans HK1.out⟩
end Go.Proofs.YtkhalpnonijogaaGreat
