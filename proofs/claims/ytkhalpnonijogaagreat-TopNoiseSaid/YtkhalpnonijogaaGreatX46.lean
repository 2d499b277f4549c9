/- bus.Good, bus.find, bus.Do of a bus without devices. No condition but the numbers'. | drv.Next of a driver that is given up. No condition but the numbers'. | bus.Do on a bus without devices: refused. No condition but the numbers'. -/
import Derived.Test.YtkhalpnonijogaaGreatX43
import Derived.Test.YtkhalpnonijogaaGreatX45
namespace Go.Proofs.YtkhalpnonijogaaGreat
open Go.RowKit

set_option maxHeartbeats 1600000 in
set_option maxRecDepth 100000 in
theorem bgood_ok {a r : Int} {A : Option Addr} {c : Nat} (h1 : 0 ≤ a) (h2 : a ≤ 127) (h3 : 0 ≤ r) (h4 : r ≤ 5) (w : World) : Calls Tryz.prog 139 #[.agg #[.int .i64 a, .int .i64 r, .slice A 1 c, .int .i64 0]] w (IsTrue w) := by
  have d1 : decide (a < 0) = false := decide_eq_false (by omega)
  have d2 : decide (127 < a) = false := decide_eq_false (by omega)
  have d3 : decide (r < 0) = false := decide_eq_false (by omega)
  have d4 : decide (5 < r) = false := decide_eq_false (by omega)
  go_enter Tryz.func139, Tryz.ntmps139
  go_wp2_with fail
  go_ret
  exact ⟨rfl, (Keeps.refl _ _).alloc _⟩
set_option maxHeartbeats 1600000 in
set_option maxRecDepth 100000 in
theorem bfind_ok {b : Nat} {m c : Value} {a : Int} {w : World} (hb : w.heap[b]? = some (.cells #[.slice none 0 0, m, c] 112 (0, 0))) : Calls Tryz.prog 41 #[.pointer (some ⟨b, 0, none⟩), .int .i64 a] w fun e w' => e = .returned (.pointer none) ∧ Keeps [] w w' := by
  have c0 := (cell_at hb (p := 0) rfl).1
  clear hb
  go_enter Tryz.func41, Tryz.ntmps41
  go_wp2_with fail
  go_loopw [12] (fun s12 wx => s12 = .int .i64 0 ∧ wx = w) (fun _ _ => 0)
  case atStart => exact ⟨rfl, rfl⟩
  case round =>
    obtain ⟨rfl, rfl⟩ := hrel
    go_wp2_with fail
    go_ret
    exact ⟨rfl, Keeps.refl _ _⟩
end Go.Proofs.YtkhalpnonijogaaGreat
namespace Go.Proofs.YtkhalpnonijogaaGreat
open Go.RowKit

def TabN (w : World) (e : Ending) (w' : World) : Prop := ∃ m L, e = .returned (.map (some m)) ∧ MapIs w' m L ∧ getL 8 L = none ∧ Keeps [] w w'
theorem table_n (w : World) : Calls Tryz.prog 138 #[] w (TabN w) := by
  refine (table_ok w).mono ?_
  rintro e w' ⟨m, L, b6, q6, b7, q7, g6, g7, h1, h2, h3, h4, h5, _, _, h7, _⟩
  exact ⟨m, L, h1, h2, h5, h7⟩
theorem zero304 (W : World) : (zeroValue 304).run Tryz.prog W = .ok (.agg #[.nilFunc, .nilFunc]) W := by kernel_rfl
theorem store_nf {P : Program} {W : World} {a : Addr} {c : Value} (hc : W.cell? a = some c) (hf : W.frozen? a = false) : (store a .nilFunc).run P W = .ok () (W.setCell a .nilFunc) := by
  rw [run_store _ _ _ _ _ rfl, hc]
  simp [hf]
theorem store_nf2 {P : Program} {W : World} {g : Nat} {c c' : Value} {t : TypeId} (h : W.heap[g]? = some (.cells #[c, c'] t (0, 0))) : (store ⟨g, 0, none⟩ .nilFunc).run P W = .ok () (W.setCell ⟨g, 0, none⟩ .nilFunc) ∧ (store ⟨g, 1, none⟩ .nilFunc).run P (W.setCell ⟨g, 0, none⟩ .nilFunc) = .ok () ((W.setCell ⟨g, 0, none⟩ .nilFunc).setCell ⟨g, 1, none⟩ .nilFunc) := by
  have h1 : (W.setCell ⟨g, 0, none⟩ .nilFunc).heap[g]? = some (.cells #[.nilFunc, c'] t (0, 0)) := (heap_setCell_self h).trans (by simp)
  exact ⟨store_nf (cell_at h (p := 0) rfl).1 (cell_at h (p := 0) rfl).2, store_nf (cell_at h1 (p := 1) rfl).1 (cell_at h1 (p := 1) rfl).2⟩
set_option maxHeartbeats 6400000 in
set_option maxRecDepth 100000 in
theorem next_no {a id p fl : Int} {want tr : Bool} (hd : DrvOk a id p 8 fl) (w : World) : Calls Tryz.prog 87 #[.agg (drvA a id want p 8 fl tr)] w fun e w' => e = .returned (.tuple #[.agg #[.int .i64 0, .int .i64 0, .slice none 0 0, .int .i64 0], .bool false, .int .i64 0]) ∧ Keeps [] w w' := by
  have HG := Go.Lib.hid (fun W => dgood_ok (want := want) (tr := tr) hd W)
  have HT := Go.Lib.hid (fun W => table_n W)
  unfold drvA at HG ⊢
  clear hd
  go_enter Tryz.func87, Tryz.ntmps87
  go_upto_region 1 with fail
  obtain ⟨x, hx⟩ : ∃ x, x = w.heap.size := ⟨_, rfl⟩
  obtain ⟨w0, hw0⟩ : ∃ w0, w0 = (w.alloc (.cells #[.int .i64 a, .int .i64 id, .bool want, .int .i64 p, .int .i64 8, .int .i64 fl, .bool tr, .int .i64 0, .int .i64 0] 85)).alloc (.cells #[.int .i64 0, .int .i64 0, .slice none 0 0, .int .i64 0] 230) := ⟨_, rfl⟩
  rw [← hw0, ← hx]
  have hk0 : Keeps [] w w0 := by rw [hw0]; exact ((Keeps.refl _ _).alloc _).alloc _
  have h1 : w0.heap[x]? = some (.cells #[.int .i64 a, .int .i64 id, .bool want, .int .i64 p, .int .i64 8, .int .i64 fl, .bool tr, .int .i64 0, .int .i64 0] 85 (0, 0)) := by
    rw [hw0, Below.heap_alloc _ _ _ (by simp [hx]), hx]; exact heap_alloc_new _ _
  have h2 : w0.heap[x + 1]? = some (.cells #[.int .i64 0, .int .i64 0, .slice none 0 0, .int .i64 0] 230 (0, 0)) := by rw [hw0, hx]; exact box2nd _ _ _ _
  have HK0 := Go.Lib.hid hk0
  have HX := Go.Lib.hid (Nat.le_of_eq hx.symm)
  have H1 := Go.Lib.hid h1
  have H2 := Go.Lib.hid h2
  obtain ⟨p0, p1, p2, p3, p4, p5, p6, p7, p8⟩ := cells9 h1
  clear hx hw0 hk0 h1 h2
  go_wp2_with fail
  refine (HG.out _).mono ?_
  rintro e w1 ⟨rfl, hk1⟩
  have HK1 := Go.Lib.hid (HK0.out.trans hk1)
  have HP := Go.Lib.hid (And.intro (hk1.heap H1.out (by simp)) (hk1.heap H2.out (by simp)))
  clear hk1 p0 p1 p2 p3 p4 p5 p6 p7 p8
  go_upto_region 3 with fail
  have kc : ∀ W : World, Keeps [] w1 W → W.cell? ⟨x, 4, none⟩ = some (.int .i64 8) := fun W hW => (cell_at (hW.heap HP.out.1 (by simp)) (p := 4) rfl).1
  have KC := Go.Lib.hid kc
  have HNN := World.new_ne w1 ⟨x, 4, none⟩ ((cell_at HP.out.1 (p := 4) rfl).1)
  clear kc
  go_region_held3 (fun W => W.cell? ⟨x, 4, none⟩ = some (.int .i64 8)) (first | with_reducible exact KC.out _ (Keeps.refl [] w1).drew | with_reducible exact KC.out _ ((Keeps.refl [] w1).alloc _).drew | with_reducible exact KC.out _ HK2.out | with_reducible exact KC.out _ (HK2.out.alloc _) | with_reducible exact KC.out _ (((HK2.out.alloc _).setNew HSZ _).setNew HSZ _) | with_reducible exact KC.out _ ((HK2.out.setNew HSZ _).setNew HSZ _) | go_keep) (first | (go_at_call 138; (refine (HT.out (w1.alloc _).drew).mono ?_; rintro e w2 hT); obtain ⟨m, L, rfl, hm, hg, hk2⟩ := hT; have HL : ∀ o, (Instr.lookup 306 (.map (some m)) (.int .i64 8) true).run Tryz.prog (w2.alloc o) = .ok (.tuple #[.agg #[.nilFunc, .nilFunc], .bool false]) (w2.alloc o) := fun o => run_get_no Tryz.underlying306 Tryz.underlying3 (hm.keeps ((Keeps.refl [] w2).alloc o) (by simp)) hg zero304 true; have HL0 : (Instr.lookup 306 (.map (some m)) (.int .i64 8) true).run Tryz.prog w2 = .ok (.tuple #[.agg #[.nilFunc, .nilFunc], .bool false]) w2 := run_get_no Tryz.underlying306 Tryz.underlying3 hm hg zero304 true; have HK2 := Go.Lib.hid (((Keeps.refl [] w1).alloc _).drew.trans hk2); have HSZ := Nat.le_refl w1.heap.size; have HY := hk2.heap (show (w1.alloc (.cells #[.nilFunc, .nilFunc] 304)).drew.heap[w1.heap.size]? = _ from heap_alloc_new w1 (.cells #[.nilFunc, .nilFunc] 304)) (by simp); obtain ⟨hs1, hs2⟩ := store_nf2 (P := Tryz.prog) HY; clear HY hk2 hm hg) | (go_at_call 138; (refine (HT.out w1.drew).mono ?_; rintro e w2 hT); obtain ⟨m, L, rfl, hm, hg, hk2⟩ := hT; have HL : ∀ o, (Instr.lookup 306 (.map (some m)) (.int .i64 8) true).run Tryz.prog (w2.alloc o) = .ok (.tuple #[.agg #[.nilFunc, .nilFunc], .bool false]) (w2.alloc o) := fun o => run_get_no Tryz.underlying306 Tryz.underlying3 (hm.keeps ((Keeps.refl [] w2).alloc o) (by simp)) hg zero304 true; have HL0 : (Instr.lookup 306 (.map (some m)) (.int .i64 8) true).run Tryz.prog w2 = .ok (.tuple #[.agg #[.nilFunc, .nilFunc], .bool false]) w2 := run_get_no Tryz.underlying306 Tryz.underlying3 hm hg zero304 true; have HK2 := Go.Lib.hid (((Keeps.refl [] w1).drew).trans hk2); have HSZ := HK2.out.size; have hs1 := store_nf (P := Tryz.prog) (cell_at (heap_alloc_new w2 (.cells #[.nilFunc, .nilFunc] 304)) (p := 0) rfl).1 (cell_at (heap_alloc_new w2 (.cells #[.nilFunc, .nilFunc] 304)) (p := 0) rfl).2; have hs2 := store_nf (P := Tryz.prog) (cell_at (heap_alloc_new w2 (.cells #[.nilFunc, .nilFunc] 304)) (p := 1) rfl).1 (cell_at (heap_alloc_new w2 (.cells #[.nilFunc, .nilFunc] 304)) (p := 1) rfl).2; clear hk2 hm hg))
  all_goals (first
    | (obtain ⟨W, hW⟩ : ∃ W, W = w2.alloc (.cells #[.nilFunc, .nilFunc] 304) := ⟨_, rfl⟩; rw [← hW]; have HKW : Hid (Keeps [] w1 W) := Go.Lib.hid (by rw [hW]; exact HK2.out.alloc _); clear hW)
    | (obtain ⟨W, hW⟩ : ∃ W, W = (w2.setCell ⟨w1.heap.size, 0, none⟩ .nilFunc).setCell ⟨w1.heap.size, 1, none⟩ .nilFunc := ⟨_, rfl⟩; rw [← hW]; have hyz : w1.heap.size ≤ w1.heap.size := Nat.le_refl _; have HKW : Hid (Keeps [] w1 W) := Go.Lib.hid (by rw [hW]; exact (HK2.out.setNew hyz _).setNew hyz _); clear hW hyz))
  all_goals have h4 := HKW.out.heap HP.out.2 (by simp)
  all_goals obtain ⟨f0, f1, f2, f3⟩ := And.intro (cell_at h4 (p := 0) rfl).2 (And.intro (cell_at h4 (p := 1) rfl).2 (And.intro (cell_at h4 (p := 2) rfl).2 (cell_at h4 (p := 3) rfl).2))
  all_goals have H5 := Go.Lib.hid (st4 (a := .int .i64 0) (b := .int .i64 0) (c := .slice none 0 0) (d := .int .i64 0) h4)
  all_goals obtain ⟨r0, r1, r2, r3⟩ := And.intro (cell_at h4 (p := 0) rfl).1 (And.intro (cell_at h4 (p := 1) rfl).1 (And.intro (cell_at h4 (p := 2) rfl).1 (cell_at h4 (p := 3) rfl).1))
  all_goals clear h4
  all_goals go_wp2_with fail
  all_goals obtain ⟨z0, z1, z2, z3⟩ := And.intro (cell_at H5.out (p := 0) rfl).1 (And.intro (cell_at H5.out (p := 1) rfl).1 (And.intro (cell_at H5.out (p := 2) rfl).1 (cell_at H5.out (p := 3) rfl).1))
  all_goals have h9 := HX.out
  all_goals refine bodyPost_ret (v := .tuple #[.agg #[.int .i64 0, .int .i64 0, .slice none 0 0, .int .i64 0], .bool false, .int .i64 0]) (by simp [results, Tryz.f87, go_sem, z0, z1, z2, z3]) rfl ⟨rfl, ?_⟩
  all_goals exact ((((HK1.out.trans HKW.out).setNew (by simp; omega) _).setNew (by simp; omega) _).setNew (by simp; omega) _).setNew (by simp; omega) _
end Go.Proofs.YtkhalpnonijogaaGreat
namespace Go.Proofs.YtkhalpnonijogaaGreat
open Go.RowKit

/-- A bus without devices; how many transactions there were. -/
def BusIs (w : World) (b : Nat) (c : Int) : Prop := ∃ m, w.heap[b]? = some (.cells #[.slice none 0 0, .map (some m), .int .i64 c] 112 (0, 0)) ∧ MapIs w m []
theorem zero108 (W : World) : (zeroValue 108).run Tryz.prog W = .ok (.agg #[.int .i64 0, .int .i64 0, .int .i64 0, .int .u8 0]) W := by kernel_rfl
set_option maxHeartbeats 6400000 in
set_option maxRecDepth 100000 in
theorem do_ok {b : Nat} {c a r : Int} {z : Nat} {w : World} (hb : BusIs w b c) (hc : 0 ≤ c) (hc2 : c ≤ 1000) (h1 : 0 ≤ a) (h2 : a ≤ 127) (h3 : 0 ≤ r) (h4 : r ≤ 5) :
    Calls Tryz.prog 88 #[.pointer (some ⟨b, 0, none⟩), .agg #[.int .i64 a, .int .i64 r, .slice (some ⟨z, 0, none⟩) 1 1, .int .i64 0]] w fun e w' => e = .returned (.tuple #[.agg #[.int .i64 2, .slice none 0 0], .int .i64 0]) ∧ BusIs w' b (c + 1) ∧ Keeps [b] w w' := by
  obtain ⟨m, hb, hm⟩ := hb
  have HG := Go.Lib.hid (fun W => bgood_ok (A := some ⟨z, 0, none⟩) (c := 1) h1 h2 h3 h4 W)
  have HB := Go.Lib.hid hb
  have HM := Go.Lib.hid hm
  clear hb hm h1 h2 h3 h4
  go_enter Tryz.func88, Tryz.ntmps88
  go_upto_region 1 with fail
  obtain ⟨x, hx⟩ : ∃ x, x = w.heap.size := ⟨_, rfl⟩
  obtain ⟨w0, hw0⟩ : ∃ w0, w0 = (w.alloc (.cells #[.int .i64 a, .int .i64 r, .slice (some ⟨z, 0, none⟩) 1 1, .int .i64 0] 230)).alloc (.cells #[.int .i64 0, .slice none 0 0] 234) := ⟨_, rfl⟩
  rw [← hw0, ← hx]
  have hk0 : Keeps [] w w0 := by rw [hw0]; exact ((Keeps.refl _ _).alloc _).alloc _
  have h1 : w0.heap[x]? = some (.cells #[.int .i64 a, .int .i64 r, .slice (some ⟨z, 0, none⟩) 1 1, .int .i64 0] 230 (0, 0)) := by
    rw [hw0, Below.heap_alloc _ _ _ (by simp [hx]), hx]; exact heap_alloc_new _ _
  have h2 : w0.heap[x + 1]? = some (.cells #[.int .i64 0, .slice none 0 0] 234 (0, 0)) := by rw [hw0, hx]; exact box2nd _ _ _ _
  have HK0 := Go.Lib.hid hk0
  have HX := Go.Lib.hid (Nat.le_of_eq hx.symm)
  have H1 := Go.Lib.hid h1
  have H2 := Go.Lib.hid h2
  obtain ⟨p0, p1, p2, p3⟩ := And.intro (cell_at h1 (p := 0) rfl).1 (And.intro (cell_at h1 (p := 1) rfl).1 (And.intro (cell_at h1 (p := 2) rfl).1 (cell_at h1 (p := 3) rfl).1))
  clear hx hw0 hk0 h1 h2
  go_wp2_with fail
  refine (HG.out _).mono ?_
  rintro e w1 ⟨rfl, hk1⟩
  have HK1 := Go.Lib.hid (HK0.out.trans hk1)
  have HP := Go.Lib.hid (And.intro (hk1.heap H1.out (by simp)) (hk1.heap H2.out (by simp)))
  have hb1 := HK1.out.heap HB.out (by simp)
  have b2 := (cell_at hb1 (p := 2) rfl).1
  have f2 := (cell_at hb1 (p := 2) rfl).2
  have HS : Hid ((w1.setCell ⟨b, 2, none⟩ (.int .i64 (c + 1))).heap[b]? = some (.cells #[.slice none 0 0, .map (some m), .int .i64 (c + 1)] 112 (0, 0))) := Go.Lib.hid ((heap_setCell_self hb1).trans (by simp))
  clear hk1 p0 p1 p2 p3 hb1 HG
  go_upto_region 4 with fail
  obtain ⟨w2, hw2⟩ : ∃ w2, w2 = w1.setCell ⟨b, 2, none⟩ (.int .i64 (c + 1)) := ⟨_, rfl⟩
  rw [← hw2] at HS ⊢
  have hk2 : Keeps [b] w1 w2 := by rw [hw2]; exact (Keeps.refl _ _).setCell (by simp) _
  have HK2 := Go.Lib.hid ((HK1.out.mono (S' := [b]) (by simp)).trans hk2)
  have hbx : x ≠ b ∧ x + 1 ≠ b := by
    have := lt_of_block HB.out
    have := HX.out
    omega
  have HP2 := Go.Lib.hid (And.intro (hk2.heap HP.out.1 (by simpa using hbx.1)) (hk2.heap HP.out.2 (by simpa using hbx.2)))
  have hm2 : MapIs w2 m [] := (HM.out.keeps HK1.out (by simp)).keeps hk2 (fun hm => by
    obtain ⟨es, clk, e, _⟩ := HM.out
    rw [List.mem_singleton.1 hm, HB.out] at e
    simp at e)
  have HM2 := Go.Lib.hid hm2
  have kc : ∀ W : World, Keeps [] w2 W → W.cell? ⟨b, 1, none⟩ = some (.map (some m)) ∧ W.cell? ⟨b, 2, none⟩ = some (.int .i64 (c + 1)) := fun W hW => ⟨(cell_at (hW.heap HS.out (by simp)) (p := 1) rfl).1, (cell_at (hW.heap HS.out (by simp)) (p := 2) rfl).1⟩
  have KC := Go.Lib.hid kc
  have hl : (Instr.lookup 109 (.map (some m)) (.int .i64 (c + 1)) false).run Tryz.prog w2.drew = .ok (.agg #[.int .i64 0, .int .i64 0, .int .i64 0, .int .u8 0]) w2.drew := run_get_no Tryz.underlying109 Tryz.underlying3 (hm2.keeps (Keeps.refl [] w2).drew (by simp)) rfl zero108 false
  have hl2 : ∀ o, (Instr.lookup 109 (.map (some m)) (.int .i64 (c + 1)) false).run Tryz.prog (w2.alloc o).drew = .ok (.agg #[.int .i64 0, .int .i64 0, .int .i64 0, .int .u8 0]) (w2.alloc o).drew := fun o => run_get_no Tryz.underlying109 Tryz.underlying3 (hm2.keeps ((Keeps.refl [] w2).alloc o).drew (by simp)) rfl zero108 false
  clear hw2 hk2 hbx hm2 kc b2 f2
  go_region_held3 (fun W => W.cell? ⟨b, 1, none⟩ = some (.map (some m)) ∧ W.cell? ⟨b, 2, none⟩ = some (.int .i64 (c + 1))) (first | with_reducible exact KC.out _ (Keeps.refl [] w2).drew | with_reducible exact KC.out _ ((Keeps.refl [] w2).alloc _).drew | fail) (fail)
  all_goals (obtain ⟨y, hy⟩ : ∃ y, y = w2.heap.size := ⟨_, rfl⟩; obtain ⟨W, hW⟩ : ∃ W, W = (w2.alloc (.cells #[.int .i64 0, .int .i64 0, .int .i64 0, .int .u8 0] 108)).drew := ⟨_, rfl⟩; rw [← hW, ← hy]; have HKW : Hid (Keeps [] w2 W) := Go.Lib.hid (by rw [hW]; exact ((Keeps.refl _ _).alloc _).drew); have HY : Hid (W.heap[y]? = some (.cells #[.int .i64 0, .int .i64 0, .int .i64 0, .int .u8 0] 108 (0, 0))) := Go.Lib.hid (by rw [hW, hy]; exact heap_alloc_new w2 _); clear hW hy hl hl2)
  all_goals have x0 := (cell_at (HKW.out.heap HP2.out.1 (by simp)) (p := 0) rfl).1
  all_goals go_wp2_with fail
  all_goals (refine (bfind_ok (HKW.out.heap HS.out (by simp))).mono ?_; rintro e w3 ⟨rfl, hk3⟩)
  all_goals have HK3 := Go.Lib.hid (HKW.out.trans hk3)
  all_goals have y1 := (cell_at (hk3.heap HY.out (by simp)) (p := 1) rfl).1
  all_goals have h4 := HK3.out.heap HP2.out.2 (by simp)
  all_goals obtain ⟨r0, r1, f0, f1⟩ := And.intro (cell_at h4 (p := 0) rfl).1 (And.intro (cell_at h4 (p := 1) rfl).1 (And.intro (cell_at h4 (p := 0) rfl).2 (cell_at h4 (p := 1) rfl).2))
  all_goals have H5 : Hid (((w3.setCell ⟨x + 1, 0, none⟩ (.int .i64 2)).setCell ⟨x + 1, 1, none⟩ (.slice none 0 0)).heap[x + 1]? = some (.cells #[.int .i64 2, .slice none 0 0] 234 (0, 0))) := Go.Lib.hid ((heap_setCell_self (heap_setCell_self h4)).trans (by simp))
  all_goals clear hk3 h4 x0
  all_goals go_wp2_with fail
  all_goals obtain ⟨z0, z1⟩ := And.intro (cell_at H5.out (p := 0) rfl).1 (cell_at H5.out (p := 1) rfl).1
  all_goals have h9 := HX.out
  all_goals have h10 := lt_of_block HB.out
  all_goals have hk9 : Keeps [x + 1] w2 ((w3.setCell ⟨x + 1, 0, none⟩ (.int .i64 2)).setCell ⟨x + 1, 1, none⟩ (.slice none 0 0)) := ((HK3.out.mono (by simp)).setCell (by simp) _).setCell (by simp) _
  all_goals refine bodyPost_ret (v := .tuple #[.agg #[.int .i64 2, .slice none 0 0], .int .i64 0]) (by simp [results, Tryz.f88, go_sem, z0, z1]) rfl ⟨rfl, ⟨m, hk9.heap HS.out (by simp; omega), HM2.out.keeps hk9 ?_⟩, ?_⟩
  all_goals first
    | exact ((HK2.out.trans (HK3.out.mono (by simp))).setNew (by simp; omega) _).setNew (by simp; omega) _
    | (intro hm
       obtain ⟨es, clk, e, _⟩ := HM2.out
       have := HP2.out.2
       rw [List.mem_singleton.1 hm] at e
       rw [e] at this
       simp at this)
end Go.Proofs.YtkhalpnonijogaaGreat
