/- drv.Take of a refused transaction. No condition but the numbers'. | A hub that is being made; hub.busy. No condition but the hub's. -/
import Derived.Test.YtkhalpnonijogaaGreatX46
import Derived.Test.YtkhalpnonijogaaGreatX17
namespace Go.Proofs.YtkhalpnonijogaaGreat
open Go.RowKit

theorem mk_chan310 : ∀ w, (Instr.makeChan 310 (.int .i64 1)).run Tryz.prog w = .ok (.chan (some w.heap.size)) (w.alloc (.chan 1 #[] false 0 0 false)) := by
  intro w
  have hm : (Tryz.prog.info? 234).map (·.bytes) = some 32 := by kernel_rfl
  obtain ⟨i, hi, hb⟩ := Option.map_eq_some_iff.1 hm
  exact Go.Conc.run_makeChan (P := Tryz.prog) (w := w) Tryz.underlying310 hi .i64 1 (by omega) (by rw [hb]; omega)
theorem Nx.st {st fl st' fl' : Int} {f : Bool} (h : Nx st fl st' fl' f) : st = 6 ∨ st = 7 := by cases h <;> simp
theorem Nx.ok {a id st fl st' fl' : Int} {f : Bool} (h : Nx st fl st' fl' f) (h1 : 0 ≤ a) (h2 : a ≤ 127) (h3 : 0 ≤ id) (h4 : id ≤ 255) : DrvOk a id 1 st fl := by
  cases h <;> exact ⟨h1, h2, h3, h4, by omega, by omega, by omega, by omega, by omega, by omega⟩
theorem Nx.ok' {a id st fl st' fl' : Int} {f : Bool} (h : Nx st fl st' fl' f) (h1 : 0 ≤ a) (h2 : a ≤ 127) (h3 : 0 ≤ id) (h4 : id ≤ 255) : DrvOk a id 1 st' fl' := by
  cases h <;> exact ⟨h1, h2, h3, h4, by omega, by omega, by omega, by omega, by omega, by omega⟩
set_option maxHeartbeats 6400000 in
set_option maxRecDepth 100000 in
theorem dtake_ok {a id st fl st' fl' : Int} {f : Bool} (hn : Nx st fl st' fl' f) (h1 : 0 ≤ a) (h2 : a ≤ 127) (h3 : 0 ≤ id) (h4 : id ≤ 255) (w : World) :
    Calls Tryz.prog 89 #[.agg (drvA a id false 1 st fl false), .agg #[.int .i64 2, .slice none 0 0]] w fun e w' => e = .returned (.tuple #[.agg (drvA a id false 1 st' fl' false), .slice none 0 0, .bool f, .int .i64 0]) ∧ Keeps [] w w' := by
  have HN := Go.Lib.hid (fun W => next_ok (want := false) (tr := false) (hn.ok h1 h2 h3 h4) hn.st W)
  have HG := Go.Lib.hid (fun (t0 t1 t2 t3 : Value) W => ngood_ok (a := a) (id := id) (p := 1) (st := st) (fl := fl) (want := false) (tr := false) (t0 := t0) (t1 := t1) (t2 := t2) (t3 := t3) W)
  have HB := Go.Lib.hid (fun W => bad_ok (a := a) (id := id) hn W)
  have hmc : ∀ w, (Instr.makeChan 310 (.int .i64 1)).run Tryz.prog w = .ok (.chan (some w.heap.size)) (w.alloc (.chan 1 #[] false 0 0 false)) := mk_chan310
  unfold drvA at HN HG HB ⊢
  clear hn h1 h2 h3 h4
  go_enter Tryz.func89, Tryz.ntmps89
  go_upto_region 1 with fail
  obtain ⟨x, hx⟩ : ∃ x, x = w.heap.size := ⟨_, rfl⟩
  obtain ⟨w0, hw0⟩ : ∃ w0, w0 = ((w.alloc (.cells #[.int .i64 a, .int .i64 id, .bool false, .int .i64 1, .int .i64 st, .int .i64 fl, .bool false, .int .i64 0, .int .i64 0] 85)).alloc (.cells #[.int .i64 2, .slice none 0 0] 234)).alloc (.cells #[.int .i64 0, .int .i64 0, .bool false, .int .i64 0, .int .i64 0, .int .i64 0, .bool false, .int .i64 0, .int .i64 0] 85) := ⟨_, rfl⟩
  rw [← hw0, ← hx]
  have hk0 : Keeps [] w w0 := by rw [hw0]; exact (((Keeps.refl _ _).alloc _).alloc _).alloc _
  have h1 : w0.heap[x]? = some (.cells #[.int .i64 a, .int .i64 id, .bool false, .int .i64 1, .int .i64 st, .int .i64 fl, .bool false, .int .i64 0, .int .i64 0] 85 (0, 0)) := by
    rw [hw0, Below.heap_alloc _ _ _ (by simp [hx]; omega), Below.heap_alloc _ _ _ (by simp [hx]), hx]; exact heap_alloc_new _ _
  have h2 : w0.heap[x + 1]? = some (.cells #[.int .i64 2, .slice none 0 0] 234 (0, 0)) := by
    rw [hw0, Below.heap_alloc _ _ _ (by simp [hx]), hx]; exact box2nd _ _ _ _
  have h3 : w0.heap[x + 1 + 1]? = some (.cells #[.int .i64 0, .int .i64 0, .bool false, .int .i64 0, .int .i64 0, .int .i64 0, .bool false, .int .i64 0, .int .i64 0] 85 (0, 0)) := by
    rw [hw0, hx, show w.heap.size + 1 + 1 = (w.alloc (.cells #[.int .i64 a, .int .i64 id, .bool false, .int .i64 1, .int .i64 st, .int .i64 fl, .bool false, .int .i64 0, .int .i64 0] 85)).heap.size + 1 by simp]; exact box2nd _ _ _ _
  have HK0 := Go.Lib.hid hk0
  have HX := Go.Lib.hid (Nat.le_of_eq hx.symm)
  have H1 := Go.Lib.hid h1
  have H2 := Go.Lib.hid h2
  have H3 := Go.Lib.hid h3
  obtain ⟨p0, p1, p2, p3, p4, p5, p6, p7, p8⟩ := cells9 h1
  clear hx hw0 hk0 h1 h2 h3
  go_wp2_with fail
  refine (HN.out _).mono ?_
  rintro e w1 ⟨r, z, _, _, rfl, hk1⟩
  have HK1 := Go.Lib.hid hk1
  clear hk1 p0 p1 p2 p3 p4 p5 p6 p7 p8
  go_upto_region 4 with fail
  obtain ⟨y, hy⟩ : ∃ y, y = w1.heap.size := ⟨_, rfl⟩
  obtain ⟨w2, hw2⟩ : ∃ w2, w2 = w1.alloc (.cells #[.int .i64 a, .int .i64 r, .slice (some ⟨z, 0, none⟩) 1 1, .int .i64 0] 230) := ⟨_, rfl⟩
  rw [← hw2, ← hy]
  have hy2 : w2.heap[y]? = some (.cells #[.int .i64 a, .int .i64 r, .slice (some ⟨z, 0, none⟩) 1 1, .int .i64 0] 230 (0, 0)) := by rw [hw2, hy]; exact heap_alloc_new _ _
  have HK2 : Hid (Keeps [] w0 w2) := Go.Lib.hid (by rw [hw2]; exact HK1.out.alloc _)
  obtain ⟨c, hc⟩ : ∃ c, c = w2.heap.size := ⟨_, rfl⟩
  have hmc2 := hmc w2
  obtain ⟨w3, hw3⟩ : ∃ w3, w3 = w2.alloc (.chan 1 #[] false 0 0 false) := ⟨_, rfl⟩
  rw [← hw3, ← hc] at hmc2
  have HC3 : Hid (w3.heap[c]? = some (.chan 1 #[] false 0 0 false)) := Go.Lib.hid (by rw [hw3, hc]; exact heap_alloc_new _ _)
  have hk3 : Keeps [] w2 w3 := by rw [hw3]; exact (Keeps.refl _ _).alloc _
  have HK3 := Go.Lib.hid (HK2.out.trans hk3)
  obtain ⟨p0, p1, p2, p3, p4, p5, p6, p7, p8⟩ := cells9 (HK3.out.heap H1.out (by simp))
  obtain ⟨y0, y1, y2, y3⟩ := And.intro (cell_at (hk3.heap hy2 (by simp)) (p := 0) rfl).1 (And.intro (cell_at (hk3.heap hy2 (by simp)) (p := 1) rfl).1 (And.intro (cell_at (hk3.heap hy2 (by simp)) (p := 2) rfl).1 (cell_at (hk3.heap hy2 (by simp)) (p := 3) rfl).1))
  obtain ⟨t0, t1⟩ := And.intro (cell_at (HK3.out.heap H2.out (by simp)) (p := 0) rfl).1 (cell_at (HK3.out.heap H2.out (by simp)) (p := 1) rfl).1
  clear hy hw2 hy2 hc hw3 hk3 hmc
  go_wp2_with fail
  refine (HG.out _ _ _ _ _).mono ?_
  rintro e w4 ⟨rfl, hk4⟩
  have HK4 := Go.Lib.hid (HK3.out.trans hk4)
  have hch := hk4.heap HC3.out (by simp)
  obtain ⟨q0, q1, q2, q3, q4, q5, q6, q7, q8⟩ := cells9 (HK4.out.heap H1.out (by simp))
  have h3 := HK4.out.heap H3.out (by simp)
  clear hk4 p0 p1 p2 p3 p4 p5 p6 p7 p8 y0 y1 y2 y3 t0 t1 hmc2 HG HN
  go_upto_region 8 with fail
  refine Sel.wp_recv_default (c := c) (cap := 1) (s := 0) (r := 0) (tm := false) (z := .agg #[.int .i64 0, .slice none 0 0]) rfl rfl (by simp [go_sem, execOp, Go.Conc.rcase, Act.eval]) hch ?_
  clear hch
  go_wp2_with fail
  refine (HB.out _).mono ?_
  rintro e w5 ⟨rfl, hk5⟩
  have HK5 := Go.Lib.hid (HK4.out.trans hk5)
  have h5 := hk5.heap h3 (by simp)
  obtain ⟨r0, r1, r2, r3, r4, r5, r6, r7, r8⟩ := cells9 h5
  obtain ⟨f0, f1, f2, f3, f4, f5, f6, f7, f8⟩ := free9 h5
  have H6 := Go.Lib.hid (st9 (a := .int .i64 a) (b := .int .i64 id) (c := .bool false) (d := .int .i64 1) (e := .int .i64 st') (f := .int .i64 fl') (g := .bool false) (h := .int .i64 0) (i := .int .i64 0) h5)
  clear hk5 h3 h5 q0 q1 q2 q3 q4 q5 q6 q7 q8 HB
  go_upto_region 13 with fail
  have hX := HX.out
  have hk6 : Keeps [] w (((((((((w5.setCell ⟨x + 1 + 1, 0, none⟩ (.int .i64 a)).setCell ⟨x + 1 + 1, 1, none⟩ (.int .i64 id)).setCell ⟨x + 1 + 1, 2, none⟩ (.bool false)).setCell ⟨x + 1 + 1, 3, none⟩ (.int .i64 1)).setCell ⟨x + 1 + 1, 4, none⟩ (.int .i64 st')).setCell ⟨x + 1 + 1, 5, none⟩ (.int .i64 fl')).setCell ⟨x + 1 + 1, 6, none⟩ (.bool false)).setCell ⟨x + 1 + 1, 7, none⟩ (.int .i64 0)).setCell ⟨x + 1 + 1, 8, none⟩ (.int .i64 0)) := by
    repeat (refine Keeps.setNew ?_ (by simp; omega) _)
    exact HK0.out.trans HK5.out
  obtain ⟨w6, hw6⟩ : ∃ w6, w6 = ((((((((w5.setCell ⟨x + 1 + 1, 0, none⟩ (.int .i64 a)).setCell ⟨x + 1 + 1, 1, none⟩ (.int .i64 id)).setCell ⟨x + 1 + 1, 2, none⟩ (.bool false)).setCell ⟨x + 1 + 1, 3, none⟩ (.int .i64 1)).setCell ⟨x + 1 + 1, 4, none⟩ (.int .i64 st')).setCell ⟨x + 1 + 1, 5, none⟩ (.int .i64 fl')).setCell ⟨x + 1 + 1, 6, none⟩ (.bool false)).setCell ⟨x + 1 + 1, 7, none⟩ (.int .i64 0)).setCell ⟨x + 1 + 1, 8, none⟩ (.int .i64 0) := ⟨_, rfl⟩
  rw [← hw6] at H6 hk6 ⊢
  have HK6 := Go.Lib.hid hk6
  have h6 := H6.out
  obtain ⟨s0, s1, s2, s3, s4, s5, s6, s7, s8⟩ := cells9 h6
  obtain ⟨g0, g1, g2, g3, g4, g5, g6, g7, g8⟩ := free9 h6
  have H7 := Go.Lib.hid (st9 (a := .int .i64 a) (b := .int .i64 id) (c := .bool false) (d := .int .i64 1) (e := .int .i64 st') (f := .int .i64 fl') (g := .bool false) (h := .int .i64 0) (i := .int .i64 0) h6)
  clear hw6 hk6 h6 hX r0 r1 r2 r3 r4 r5 r6 r7 r8 f0 f1 f2 f3 f4 f5 f6 f7 f8
  go_wp2_with fail
  have hX := HX.out
  have hk7 : Keeps [] w (((((((((w6.setCell ⟨x + 1 + 1, 0, none⟩ (.int .i64 a)).setCell ⟨x + 1 + 1, 1, none⟩ (.int .i64 id)).setCell ⟨x + 1 + 1, 2, none⟩ (.bool false)).setCell ⟨x + 1 + 1, 3, none⟩ (.int .i64 1)).setCell ⟨x + 1 + 1, 4, none⟩ (.int .i64 st')).setCell ⟨x + 1 + 1, 5, none⟩ (.int .i64 fl')).setCell ⟨x + 1 + 1, 6, none⟩ (.bool false)).setCell ⟨x + 1 + 1, 7, none⟩ (.int .i64 0)).setCell ⟨x + 1 + 1, 8, none⟩ (.int .i64 0)) := by
    repeat (refine Keeps.setNew ?_ (by simp; omega) _)
    exact HK6.out
  obtain ⟨z0, z1, z2, z3, z4, z5, z6, z7, z8⟩ := cells9 H7.out
  generalize ((((((((w6.setCell ⟨x + 1 + 1, 0, none⟩ (.int .i64 a)).setCell ⟨x + 1 + 1, 1, none⟩ (.int .i64 id)).setCell ⟨x + 1 + 1, 2, none⟩ (.bool false)).setCell ⟨x + 1 + 1, 3, none⟩ (.int .i64 1)).setCell ⟨x + 1 + 1, 4, none⟩ (.int .i64 st')).setCell ⟨x + 1 + 1, 5, none⟩ (.int .i64 fl')).setCell ⟨x + 1 + 1, 6, none⟩ (.bool false)).setCell ⟨x + 1 + 1, 7, none⟩ (.int .i64 0)).setCell ⟨x + 1 + 1, 8, none⟩ (.int .i64 0) = Wz at hk7 z0 z1 z2 z3 z4 z5 z6 z7 z8 ⊢
  exact bodyPost_ret (v := .tuple #[.agg #[.int .i64 a, .int .i64 id, .bool false, .int .i64 1, .int .i64 st', .int .i64 fl', .bool false, .int .i64 0, .int .i64 0], .slice none 0 0, .bool f, .int .i64 0]) (by simp [results, Tryz.f89, go_sem, z0, z1, z2, z3, z4, z5, z6, z7, z8]) rfl ⟨rfl, hk7⟩
end Go.Proofs.YtkhalpnonijogaaGreat
namespace Go.Proofs.YtkhalpnonijogaaGreat
open Go.RowKit

/-- The cells of a hub that is being made, but its drivers'. -/
structure NewA (A : Array Value) (b r : Nat) : Prop where
  bus : A[0]? = some (.pointer (some ⟨b, 0, none⟩))
  rate : A[49]? = some (.pointer (some ⟨r, 0, none⟩))
  bat : ∃ q, A[50]? = some q
  now : A[53]? = some (.int .i64 0)
def DrvN (arr : Array Value) (S : Nat → Int × Int) : Prop := ∀ d : Nat, d < 5 → ∀ j : Nat, j < 9 → arr[3 + d * 9 + j]? = (drvA (16 + (d : Int)) (49 + (d : Int)) false 1 (S d).1 (S d).2 false)[j]?
/-- A hub that is being made: its drivers' states and tries; how many transactions there were. -/
structure NewIs (A : Array Value) (h b r : Nat) (S : Nat → Int × Int) (c : Int) (w : World) : Prop where
  ex : ∃ arr, w.heap[h]? = some (.cells arr 94 (0, 0)) ∧ arr.size = 54 ∧ (∀ j, (j < 3 ∨ 48 ≤ j) → arr[j]? = A[j]?) ∧ DrvN arr S
  rate : ∃ f, w.heap[r]? = some (.cells #[.slice none 0 0, f] 210 (0, 0))
  bus : BusIs w b c
theorem BusIs.new {w w' : World} {b : Nat} {c : Int} (h : BusIs w b c) (hk : Keeps [] w w') : BusIs w' b c := by
  obtain ⟨m, h1, h2⟩ := h
  exact ⟨m, hk.heap h1 (by simp), h2.keeps hk (by simp)⟩
theorem NewIs.new {A : Array Value} {h b r : Nat} {S : Nat → Int × Int} {c : Int} {w w' : World} (H : NewIs A h b r S c w) (hk : Keeps [] w w') : NewIs A h b r S c w' := by
  obtain ⟨arr, h1, h2⟩ := H.ex
  obtain ⟨f, h3⟩ := H.rate
  exact ⟨⟨arr, hk.heap h1 (by simp), h2⟩, ⟨f, hk.heap h3 (by simp)⟩, H.bus.new hk⟩
theorem drvN_cells {h k : Nat} {arr : Array Value} {S : Nat → Int × Int} {w : World} (hh : w.heap[h]? = some (.cells arr 94 (0, 0))) (hd : DrvN arr S) (hk : k < 5) :
    (w.cell? ⟨h, 3 + k * 9, none⟩ = some (.int .i64 (16 + (k : Int))) ∧ w.cell? ⟨h, 3 + k * 9 + 1, none⟩ = some (.int .i64 (49 + (k : Int))) ∧ w.cell? ⟨h, 3 + k * 9 + 2, none⟩ = some (.bool false) ∧ w.cell? ⟨h, 3 + k * 9 + 3, none⟩ = some (.int .i64 1) ∧ w.cell? ⟨h, 3 + k * 9 + 4, none⟩ = some (.int .i64 (S k).1) ∧ w.cell? ⟨h, 3 + k * 9 + 5, none⟩ = some (.int .i64 (S k).2) ∧ w.cell? ⟨h, 3 + k * 9 + 6, none⟩ = some (.bool false) ∧ w.cell? ⟨h, 3 + k * 9 + 7, none⟩ = some (.int .i64 0) ∧ w.cell? ⟨h, 3 + k * 9 + 8, none⟩ = some (.int .i64 0)) ∧
    (∀ j, w.frozen? ⟨h, j, none⟩ = false) := by
  have g3 := hd k hk
  refine ⟨⟨?_, ?_, ?_, ?_, ?_, ?_, ?_, ?_, ?_⟩, fun j => frozen_of_row w h j arr 94 hh⟩
  · rw [cell_of_row w h _ arr 94 (0, 0) hh]; exact g3 0 (by omega)
  · rw [cell_of_row w h _ arr 94 (0, 0) hh]; exact g3 1 (by omega)
  · rw [cell_of_row w h _ arr 94 (0, 0) hh]; exact g3 2 (by omega)
  · rw [cell_of_row w h _ arr 94 (0, 0) hh]; exact g3 3 (by omega)
  · rw [cell_of_row w h _ arr 94 (0, 0) hh]; exact g3 4 (by omega)
  · rw [cell_of_row w h _ arr 94 (0, 0) hh]; exact g3 5 (by omega)
  · rw [cell_of_row w h _ arr 94 (0, 0) hh]; exact g3 6 (by omega)
  · rw [cell_of_row w h _ arr 94 (0, 0) hh]; exact g3 7 (by omega)
  · rw [cell_of_row w h _ arr 94 (0, 0) hh]; exact g3 8 (by omega)
theorem drvN_ok {k : Nat} {st fl : Int} (hk : k < 5) (h1 : 6 ≤ st) (h2 : st ≤ 8) (h3 : 0 ≤ fl) (h4 : fl ≤ 2) : DrvOk (16 + (k : Int)) (49 + (k : Int)) 1 st fl := ⟨by omega, by omega, by omega, by omega, by omega, by omega, h1, h2, h3, h4⟩
set_option maxHeartbeats 3200000 in
set_option maxRecDepth 100000 in
theorem busy_ok {A : Array Value} {h b r k : Nat} {S : Nat → Int × Int} {c st fl : Int} {w : World} (H : NewIs A h b r S c w) (hk : k < 5) (hS : S k = (st, fl)) (hst : st = 6 ∨ st = 7) (h3 : 0 ≤ fl) (h4 : fl ≤ 2) :
    Calls Tryz.prog 54 #[.pointer (some ⟨h, 0, none⟩), .int .i64 ((k : Int) + 1)] w fun e w' => e = .returned (.bool true) ∧ Keeps [] w w' := by
  obtain ⟨arr, hh, hs, ha, hd⟩ := H.ex
  obtain ⟨⟨p0, p1, p2, p3, p4, p5, p6, p7, p8⟩, _⟩ := drvN_cells hh hd hk
  rw [hS] at p4 p5
  have HN := Go.Lib.hid (fun W => next_ok (want := false) (tr := false) (drvN_ok (st := st) (fl := fl) hk (by omega) (by omega) h3 h4) hst W)
  have HAT := Go.Lib.hid (hat_ok (h := h) hk)
  unfold drvA at HN
  clear H hh hs ha hd hS hst h3 h4
  go_enter Tryz.func54, Tryz.ntmps54
  go_wp2_with fail
  refine (HAT.out _).mono ?_
  rintro e w1 ⟨rfl, rfl⟩
  go_wp2_with fail
  refine (HN.out _).mono ?_
  rintro e w1 ⟨r, z, _, _, rfl, hk1⟩
  have HE : Hid (Keeps [] w (w1.alloc (.cells #[.int .i64 (16 + (k : Int)), .int .i64 r, .slice (some ⟨z, 0, none⟩) 1 1, .int .i64 0] 230))) := Go.Lib.hid (hk1.alloc _)
  clear hk1
  go_wp2_with fail
  go_ret
  exact ⟨rfl, HE.out⟩
set_option maxHeartbeats 3200000 in
set_option maxRecDepth 100000 in
theorem idle_ok {A : Array Value} {h b r k : Nat} {S : Nat → Int × Int} {c fl : Int} {w : World} (H : NewIs A h b r S c w) (hk : k < 5) (hS : S k = (8, fl)) (h3 : 0 ≤ fl) (h4 : fl ≤ 2) :
    Calls Tryz.prog 54 #[.pointer (some ⟨h, 0, none⟩), .int .i64 ((k : Int) + 1)] w fun e w' => e = .returned (.bool false) ∧ Keeps [] w w' := by
  obtain ⟨arr, hh, hs, ha, hd⟩ := H.ex
  obtain ⟨⟨p0, p1, p2, p3, p4, p5, p6, p7, p8⟩, _⟩ := drvN_cells hh hd hk
  rw [hS] at p4 p5
  have HN := Go.Lib.hid (fun W => next_no (want := false) (tr := false) (drvN_ok (st := 8) (fl := fl) hk (by omega) (by omega) h3 h4) W)
  have HAT := Go.Lib.hid (hat_ok (h := h) hk)
  unfold drvA at HN
  clear H hh hs ha hd hS h3 h4
  go_enter Tryz.func54, Tryz.ntmps54
  go_wp2_with fail
  refine (HAT.out _).mono ?_
  rintro e w1 ⟨rfl, rfl⟩
  go_wp2_with fail
  refine (HN.out _).mono ?_
  rintro e w1 ⟨rfl, hk1⟩
  have HE : Hid (Keeps [] w (w1.alloc (.cells #[.int .i64 0, .int .i64 0, .slice none 0 0, .int .i64 0] 230))) := Go.Lib.hid (hk1.alloc _)
  clear hk1
  go_wp2_with fail
  go_ret
  exact ⟨rfl, HE.out⟩
end Go.Proofs.YtkhalpnonijogaaGreat
