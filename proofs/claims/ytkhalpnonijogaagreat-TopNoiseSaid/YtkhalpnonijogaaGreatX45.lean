/- drv.Next of a driver in the states 6, 7, 8. No condition but the numbers'. -/
import Derived.Test.YtkhalpnonijogaaGreatX44
namespace Go.Proofs.YtkhalpnonijogaaGreat
open Go.RowKit

def TabG (st : Int) (w : World) (e : Ending) (w' : World) : Prop := ∃ m L b q r n gf gA gB, e = .returned (.map (some m)) ∧ MapIs w' m L ∧ getL st L = some (.agg #[.func (.func 238) #[] #[.pointer (some ⟨b, 0, none⟩), .pointer (some ⟨b + 1, 0, none⟩)], .func gf gA gB]) ∧ WrIs w' b q r n ∧ (0 ≤ r ∧ r ≤ 5 ∧ 0 ≤ n ∧ n < 256) ∧ Keeps [] w w'
theorem table_g {st : Int} (h : st = 6 ∨ st = 7) (w : World) : Calls Tryz.prog 138 #[] w (TabG st w) := by
  refine (table_ok w).mono ?_
  rintro e w' ⟨m, L, b6, q6, b7, q7, g6, g7, h1, h2, h3, h4, _, h5, h6, h7, ⟨f6, A6, B6, rfl⟩, f7, A7, B7, rfl⟩
  rcases h with rfl | rfl
  · exact ⟨m, L, b6, q6, 1, 0, f6, A6, B6, h1, h2, h3, h5, ⟨by omega, by omega, by omega, by omega⟩, h7⟩
  · exact ⟨m, L, b7, q7, 5, 182, f7, A7, B7, h1, h2, h4, h6, ⟨by omega, by omega, by omega, by omega⟩, h7⟩
theorem store_fn {P : Program} {W : World} {a : Addr} {f : Fn} {A B : Array Value} {c : Value} (hc : W.cell? a = some c) (hf : W.frozen? a = false) : (store a (.func f A B)).run P W = .ok () (W.setCell a (.func f A B)) := by
  rw [run_store _ _ _ _ _ rfl, hc]
  simp [hf]
theorem store_fn2 {P : Program} {W : World} {g : Nat} {f f' : Fn} {A B A' B' : Array Value} {c c' : Value} {t : TypeId} (h : W.heap[g]? = some (.cells #[c, c'] t (0, 0))) : (store ⟨g, 0, none⟩ (.func f A B)).run P W = .ok () (W.setCell ⟨g, 0, none⟩ (.func f A B)) ∧ (store ⟨g, 1, none⟩ (.func f' A' B')).run P (W.setCell ⟨g, 0, none⟩ (.func f A B)) = .ok () ((W.setCell ⟨g, 0, none⟩ (.func f A B)).setCell ⟨g, 1, none⟩ (.func f' A' B')) ∧ ((W.setCell ⟨g, 0, none⟩ (.func f A B)).setCell ⟨g, 1, none⟩ (.func f' A' B')).heap[g]? = some (.cells #[.func f A B, .func f' A' B'] t (0, 0)) := by
  have h1 : (W.setCell ⟨g, 0, none⟩ (.func f A B)).heap[g]? = some (.cells #[.func f A B, c'] t (0, 0)) := (heap_setCell_self h).trans (by simp)
  exact ⟨store_fn (cell_at h (p := 0) rfl).1 (cell_at h (p := 0) rfl).2, store_fn (cell_at h1 (p := 1) rfl).1 (cell_at h1 (p := 1) rfl).2, (heap_setCell_self h1).trans (by simp)⟩
theorem WrIs.other {w w' : World} {b q y : Nat} {r n : Int} {cs : Array Value} {fr : Nat × Nat} (h : WrIs w b q r n) (hk : Keeps [y] w w') (hy : w.heap[y]? = some (.cells cs 304 fr)) : WrIs w' b q r n := by
  obtain ⟨h1, h2, h3⟩ := h
  refine ⟨hk.heap h1 (fun hm => ?_), hk.heap h2 (fun hm => ?_), hk.heap h3 (fun hm => ?_)⟩
  · rw [List.mem_singleton.1 hm, hy] at h1; simp at h1
  · rw [List.mem_singleton.1 hm, hy] at h2; simp at h2
  · rw [List.mem_singleton.1 hm, hy] at h3; simp at h3
set_option maxHeartbeats 6400000 in
set_option maxRecDepth 100000 in
theorem next_ok {a id p st fl : Int} {want tr : Bool} (hd : DrvOk a id p st fl) (hst : st = 6 ∨ st = 7) (w : World) : Calls Tryz.prog 87 #[.agg (drvA a id want p st fl tr)] w fun e w' => ∃ r z, 0 ≤ r ∧ r ≤ 5 ∧ e = .returned (.tuple #[.agg #[.int .i64 a, .int .i64 r, .slice (some ⟨z, 0, none⟩) 1 1, .int .i64 0], .bool true, .int .i64 0]) ∧ Keeps [] w w' := by
  have HG := Go.Lib.hid (fun W => dgood_ok (want := want) (tr := tr) hd W)
  have HT := Go.Lib.hid (fun W => table_g hst W)
  unfold drvA at HG ⊢
  clear hd hst
  go_enter Tryz.func87, Tryz.ntmps87
  go_upto_region 1 with fail
  obtain ⟨x, hx⟩ : ∃ x, x = w.heap.size := ⟨_, rfl⟩
  obtain ⟨w0, hw0⟩ : ∃ w0, w0 = (w.alloc (.cells #[.int .i64 a, .int .i64 id, .bool want, .int .i64 p, .int .i64 st, .int .i64 fl, .bool tr, .int .i64 0, .int .i64 0] 85)).alloc (.cells #[.int .i64 0, .int .i64 0, .slice none 0 0, .int .i64 0] 230) := ⟨_, rfl⟩
  rw [← hw0, ← hx]
  have hk0 : Keeps [] w w0 := by rw [hw0]; exact ((Keeps.refl _ _).alloc _).alloc _
  have h1 : w0.heap[x]? = some (.cells #[.int .i64 a, .int .i64 id, .bool want, .int .i64 p, .int .i64 st, .int .i64 fl, .bool tr, .int .i64 0, .int .i64 0] 85 (0, 0)) := by
    rw [hw0, Below.heap_alloc _ _ _ (by simp [hx]), hx]; exact heap_alloc_new _ _
  have h2 : w0.heap[x + 1]? = some (.cells #[.int .i64 0, .int .i64 0, .slice none 0 0, .int .i64 0] 230 (0, 0)) := by rw [hw0, hx]; exact box2nd _ _ _ _
  have HK0 := Go.Lib.hid hk0
  have HX := Go.Lib.hid (Nat.le_of_eq hx.symm)
  have H1 := Go.Lib.hid h1
  have H2 := Go.Lib.hid h2
  obtain ⟨p0, p1, p2, p3, p4, p5, p6, p7, p8⟩ := cells9 h1
  clear hx hw0 hk0 h1 h2
  go_wp2_with fail
  refine (HG.out _).mono ?_
  rintro e w1 ⟨rfl, hk1⟩
  have HK1 := Go.Lib.hid (HK0.out.trans hk1)
  have HP := Go.Lib.hid (And.intro (hk1.heap H1.out (by simp)) (hk1.heap H2.out (by simp)))
  clear hk1 p0 p1 p2 p3 p4 p5 p6 p7 p8
  go_upto_region 3 with fail
  have kc : ∀ W : World, Keeps [] w1 W → W.cell? ⟨x, 4, none⟩ = some (.int .i64 st) := fun W hW => (cell_at (hW.heap HP.out.1 (by simp)) (p := 4) rfl).1
  have KC := Go.Lib.hid kc
  have HNN := World.new_ne w1 ⟨x, 4, none⟩ ((cell_at HP.out.1 (p := 4) rfl).1)
  clear kc
  go_region_held3 (fun W => W.cell? ⟨x, 4, none⟩ = some (.int .i64 st)) (first | with_reducible exact KC.out _ (Keeps.refl [] w1).drew | with_reducible exact KC.out _ ((Keeps.refl [] w1).alloc _).drew | with_reducible exact KC.out _ HK2.out | with_reducible exact KC.out _ (HK2.out.alloc _) | with_reducible exact KC.out _ (((HK2.out.alloc _).setNew HSZ _).setNew HSZ _) | with_reducible exact KC.out _ ((HK2.out.setNew HSZ _).setNew HSZ _) | go_keep) (first | (go_at_call 138; (refine (HT.out (w1.alloc _).drew).mono ?_; rintro e w2 hT); obtain ⟨m, L, b, q, r, n, gf, gA, gB, rfl, hm, hg, hwr, hrn, hk2⟩ := hT; have HM := Go.Lib.hid hm; have HL : ∀ o, (Instr.lookup 306 (.map (some m)) (.int .i64 st) true).run Tryz.prog (w2.alloc o) = .ok (.tuple #[.agg #[.func (.func 238) #[] #[.pointer (some ⟨b, 0, none⟩), .pointer (some ⟨b + 1, 0, none⟩)], .func gf gA gB], .bool true]) (w2.alloc o) := fun o => run_get Tryz.underlying306 Tryz.underlying3 (hm.keeps ((Keeps.refl [] w2).alloc o) (by simp)) hg true; have HL0 : (Instr.lookup 306 (.map (some m)) (.int .i64 st) true).run Tryz.prog w2 = .ok (.tuple #[.agg #[.func (.func 238) #[] #[.pointer (some ⟨b, 0, none⟩), .pointer (some ⟨b + 1, 0, none⟩)], .func gf gA gB], .bool true]) w2 := run_get Tryz.underlying306 Tryz.underlying3 hm hg true; have HK2 := Go.Lib.hid (((Keeps.refl [] w1).alloc _).drew.trans hk2); have HSZ := Nat.le_refl w1.heap.size; have HY := Go.Lib.hid (hk2.heap (show (w1.alloc (.cells #[.nilFunc, .nilFunc] 304)).drew.heap[w1.heap.size]? = _ from heap_alloc_new w1 (.cells #[.nilFunc, .nilFunc] 304)) (by simp)); obtain ⟨hs1, hs2, hs3⟩ := store_fn2 (P := Tryz.prog) (f := .func 238) (A := #[]) (B := #[.pointer (some ⟨b, 0, none⟩), .pointer (some ⟨b + 1, 0, none⟩)]) (f' := gf) (A' := gA) (B' := gB) (hk2.heap (show (w1.alloc (.cells #[.nilFunc, .nilFunc] 304)).drew.heap[w1.heap.size]? = _ from heap_alloc_new w1 (.cells #[.nilFunc, .nilFunc] 304)) (by simp)); have HS3 := Go.Lib.hid hs3; have HWR := Go.Lib.hid hwr; have HRN := Go.Lib.hid hrn; clear hs3 hwr hrn hk2 hm hg) | (go_at_call 138; (refine (HT.out w1.drew).mono ?_; rintro e w2 hT); obtain ⟨m, L, b, q, r, n, gf, gA, gB, rfl, hm, hg, hwr, hrn, hk2⟩ := hT; have HM := Go.Lib.hid hm; have HL : ∀ o, (Instr.lookup 306 (.map (some m)) (.int .i64 st) true).run Tryz.prog (w2.alloc o) = .ok (.tuple #[.agg #[.func (.func 238) #[] #[.pointer (some ⟨b, 0, none⟩), .pointer (some ⟨b + 1, 0, none⟩)], .func gf gA gB], .bool true]) (w2.alloc o) := fun o => run_get Tryz.underlying306 Tryz.underlying3 (hm.keeps ((Keeps.refl [] w2).alloc o) (by simp)) hg true; have HL0 : (Instr.lookup 306 (.map (some m)) (.int .i64 st) true).run Tryz.prog w2 = .ok (.tuple #[.agg #[.func (.func 238) #[] #[.pointer (some ⟨b, 0, none⟩), .pointer (some ⟨b + 1, 0, none⟩)], .func gf gA gB], .bool true]) w2 := run_get Tryz.underlying306 Tryz.underlying3 hm hg true; have HK2 := Go.Lib.hid (((Keeps.refl [] w1).drew).trans hk2); have HSZ := HK2.out.size; have hs1 := store_fn (P := Tryz.prog) (f := .func 238) (A := #[]) (B := #[.pointer (some ⟨b, 0, none⟩), .pointer (some ⟨b + 1, 0, none⟩)]) (cell_at (heap_alloc_new w2 (.cells #[.nilFunc, .nilFunc] 304)) (p := 0) rfl).1 (cell_at (heap_alloc_new w2 (.cells #[.nilFunc, .nilFunc] 304)) (p := 0) rfl).2; have hs2 := store_fn (P := Tryz.prog) (f := gf) (A := gA) (B := gB) (cell_at (heap_alloc_new w2 (.cells #[.func (.func 238) #[] #[.pointer (some ⟨b, 0, none⟩), .pointer (some ⟨b + 1, 0, none⟩)], .nilFunc] 304)) (p := 1) rfl).1 (cell_at (heap_alloc_new w2 (.cells #[.func (.func 238) #[] #[.pointer (some ⟨b, 0, none⟩), .pointer (some ⟨b + 1, 0, none⟩)], .nilFunc] 304)) (p := 1) rfl).2; have HS3 := Go.Lib.hid (heap_alloc_new w2 (.cells #[.func (.func 238) #[] #[.pointer (some ⟨b, 0, none⟩), .pointer (some ⟨b + 1, 0, none⟩)], .func gf gA gB] 304)); have HWR := Go.Lib.hid hwr; have HRN := Go.Lib.hid hrn; clear hwr hrn hk2 hm hg))
  all_goals (first
    | (obtain ⟨y, hy⟩ : ∃ y, y = w2.heap.size := ⟨_, rfl⟩; obtain ⟨W, hW⟩ : ∃ W, W = w2.alloc (.cells #[.func (.func 238) #[] #[.pointer (some ⟨b, 0, none⟩), .pointer (some ⟨b + 1, 0, none⟩)], .func gf gA gB] 304) := ⟨_, rfl⟩; rw [← hW, ← hy]; have HKW : Hid (Keeps [] w1 W) := Go.Lib.hid (by rw [hW]; exact HK2.out.alloc _); have HWR2 : Hid (WrIs W b q r n) := Go.Lib.hid (by rw [hW]; exact HWR.out.keeps ((Keeps.refl [] w2).alloc _) (by simp)); have HS4 : Hid (W.heap[y]? = some (.cells #[.func (.func 238) #[] #[.pointer (some ⟨b, 0, none⟩), .pointer (some ⟨b + 1, 0, none⟩)], .func gf gA gB] 304 (0, 0))) := Go.Lib.hid (by rw [hW, hy]; exact HS3.out); clear hy hW)
    | (obtain ⟨y, hy⟩ : ∃ y, y = w1.heap.size := ⟨_, rfl⟩; obtain ⟨W, hW⟩ : ∃ W, W = (w2.setCell ⟨w1.heap.size, 0, none⟩ (.func (.func 238) #[] #[.pointer (some ⟨b, 0, none⟩), .pointer (some ⟨b + 1, 0, none⟩)])).setCell ⟨w1.heap.size, 1, none⟩ (.func gf gA gB) := ⟨_, rfl⟩; rw [← hW, ← hy]; have hyz : w1.heap.size ≤ w1.heap.size := Nat.le_refl _; have HKW : Hid (Keeps [] w1 W) := Go.Lib.hid (by rw [hW]; exact (HK2.out.setNew hyz _).setNew hyz _); have HWR2 : Hid (WrIs W b q r n) := Go.Lib.hid (by rw [hW]; exact HWR.out.other (((Keeps.refl [w1.heap.size] w2).setCell (by simp) _).setCell (by simp) _) HY.out); have HS4 : Hid (W.heap[y]? = some (.cells #[.func (.func 238) #[] #[.pointer (some ⟨b, 0, none⟩), .pointer (some ⟨b + 1, 0, none⟩)], .func gf gA gB] 304 (0, 0))) := Go.Lib.hid (by rw [hW, hy]; exact HS3.out); clear hy hW hyz))
  all_goals have c5 := (cell_at HS4.out (p := 0) rfl).1
  all_goals obtain ⟨p0, p1, p2, p3, p4, p5, p6, p7, p8⟩ := cells9 (HKW.out.heap HP.out.1 (by simp))
  all_goals have HCW := Go.Lib.hid (cl_write (a := a) (id := id) (p := p) (st := st) (fl := fl) (want := want) (tr := tr) HWR2.out HRN.out.2.2.1 HRN.out.2.2.2)
  all_goals unfold drvA at HCW
  all_goals go_wp2_with fail
  all_goals (refine HCW.out.mono ?_; rintro e w3 ⟨z, rfl, hk3⟩)
  all_goals have HK3 := Go.Lib.hid (HKW.out.trans hk3)
  all_goals have h4 := HK3.out.heap HP.out.2 (by simp)
  all_goals obtain ⟨f0, f1, f2, f3⟩ := And.intro (cell_at h4 (p := 0) rfl).2 (And.intro (cell_at h4 (p := 1) rfl).2 (And.intro (cell_at h4 (p := 2) rfl).2 (cell_at h4 (p := 3) rfl).2))
  all_goals have H5 := Go.Lib.hid (st4 (a := .int .i64 a) (b := .int .i64 r) (c := .slice (some ⟨z, 0, none⟩) 1 1) (d := .int .i64 0) h4)
  all_goals obtain ⟨r0, r1, r2, r3⟩ := And.intro (cell_at h4 (p := 0) rfl).1 (And.intro (cell_at h4 (p := 1) rfl).1 (And.intro (cell_at h4 (p := 2) rfl).1 (cell_at h4 (p := 3) rfl).1))
  all_goals clear hk3 h4 c5 p0 p1 p2 p3 p4 p5 p6 p7 p8 HCW
  all_goals go_wp2_with fail
  all_goals obtain ⟨z0, z1, z2, z3⟩ := And.intro (cell_at H5.out (p := 0) rfl).1 (And.intro (cell_at H5.out (p := 1) rfl).1 (And.intro (cell_at H5.out (p := 2) rfl).1 (cell_at H5.out (p := 3) rfl).1))
  all_goals have h9 := HX.out
  all_goals refine bodyPost_ret (v := .tuple #[.agg #[.int .i64 a, .int .i64 r, .slice (some ⟨z, 0, none⟩) 1 1, .int .i64 0], .bool true, .int .i64 0]) (by simp [results, Tryz.f87, go_sem, z0, z1, z2, z3]) rfl ⟨r, z, HRN.out.1, HRN.out.2.1, rfl, ?_⟩
  all_goals exact ((((HK1.out.trans HK3.out).setNew (by simp; omega) _).setNew (by simp; omega) _).setNew (by simp; omega) _).setNew (by simp; omega) _
end Go.Proofs.YtkhalpnonijogaaGreat
