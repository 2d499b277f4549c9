/- drv.good, drv.bad of a refused transaction. No condition but the numbers'. -/
import Derived.Test.YtkhalpnonijogaaGreatX43
namespace Go.Proofs.YtkhalpnonijogaaGreat
open Go.RowKit

/-- What a refusal makes of a driver's state and its tries; whether it fails then. -/
inductive Nx : Int → Int → Int → Int → Bool → Prop
  | a : Nx 6 0 6 1 false
  | b : Nx 6 1 6 2 false
  | c : Nx 6 2 7 0 false
  | d : Nx 7 0 8 0 true
set_option maxHeartbeats 1600000 in
set_option maxRecDepth 100000 in
theorem ngood_ok {a id p st fl : Int} {want tr : Bool} {t0 t1 t2 t3 : Value} (w : World) : Calls Tryz.prog 141 #[.agg (drvA a id want p st fl tr), .agg #[t0, t1, t2, t3], .agg #[.int .i64 2, .slice none 0 0]] w fun e w' => e = .returned (.bool false) ∧ Keeps [] w w' := by
  unfold drvA
  go_enter Tryz.func141, Tryz.ntmps141
  go_wp2_with fail
  go_ret
  exact ⟨rfl, (((Keeps.refl _ _).alloc _).alloc _).alloc _⟩
theorem box2nd (w : World) (o : Obj) (A : Array Value) (t : TypeId) : ((w.alloc o).alloc (.cells A t)).heap[w.heap.size + 1]? = some (.cells A t (0, 0)) := by
  rw [← World.size_alloc w o]; exact heap_alloc_new _ _
theorem st9 {W : World} {x : Nat} {u0 u1 u2 u3 u4 u5 u6 u7 u8 a b c d e f g h i : Value} {t : TypeId} (hW : W.heap[x]? = some (.cells #[u0, u1, u2, u3, u4, u5, u6, u7, u8] t (0, 0))) : (((((((((W.setCell ⟨x, 0, none⟩ a).setCell ⟨x, 1, none⟩ b).setCell ⟨x, 2, none⟩ c).setCell ⟨x, 3, none⟩ d).setCell ⟨x, 4, none⟩ e).setCell ⟨x, 5, none⟩ f).setCell ⟨x, 6, none⟩ g).setCell ⟨x, 7, none⟩ h).setCell ⟨x, 8, none⟩ i).heap[x]? = some (.cells #[a, b, c, d, e, f, g, h, i] t (0, 0)) :=
  (heap_setCell_self (heap_setCell_self (heap_setCell_self (heap_setCell_self (heap_setCell_self (heap_setCell_self (heap_setCell_self (heap_setCell_self (heap_setCell_self hW))))))))).trans (by simp)
set_option maxHeartbeats 3200000 in
set_option maxRecDepth 100000 in
theorem bad_ok {a id st fl st' fl' : Int} {f : Bool} (hn : Nx st fl st' fl' f) (w : World) : Calls Tryz.prog 142 #[.agg (drvA a id false 1 st fl false)] w fun e w' => e = .returned (.tuple #[.agg (drvA a id false 1 st' fl' false), .bool f]) ∧ Keeps [] w w' := by
  unfold drvA
  cases hn
  · go_enter Tryz.func142, Tryz.ntmps142
    go_wp2_with fail
    obtain ⟨z0, z1, z2, z3, z4, z5, z6, z7, z8⟩ := cells9 (box2nd w (.cells #[.int .i64 a, .int .i64 id, .bool false, .int .i64 1, .int .i64 6, .int .i64 1, .bool false, .int .i64 0, .int .i64 0] 85) #[.int .i64 a, .int .i64 id, .bool false, .int .i64 1, .int .i64 6, .int .i64 1, .bool false, .int .i64 0, .int .i64 0] 85)
    exact bodyPost_ret (v := .tuple #[.agg #[.int .i64 a, .int .i64 id, .bool false, .int .i64 1, .int .i64 6, .int .i64 1, .bool false, .int .i64 0, .int .i64 0], .bool false]) (by simp [results, Tryz.f142, go_sem, z0, z1, z2, z3, z4, z5, z6, z7, z8]) rfl ⟨rfl, ((Keeps.refl _ _).alloc _).alloc _⟩
  · go_enter Tryz.func142, Tryz.ntmps142
    go_wp2_with fail
    obtain ⟨z0, z1, z2, z3, z4, z5, z6, z7, z8⟩ := cells9 (box2nd w (.cells #[.int .i64 a, .int .i64 id, .bool false, .int .i64 1, .int .i64 6, .int .i64 2, .bool false, .int .i64 0, .int .i64 0] 85) #[.int .i64 a, .int .i64 id, .bool false, .int .i64 1, .int .i64 6, .int .i64 2, .bool false, .int .i64 0, .int .i64 0] 85)
    exact bodyPost_ret (v := .tuple #[.agg #[.int .i64 a, .int .i64 id, .bool false, .int .i64 1, .int .i64 6, .int .i64 2, .bool false, .int .i64 0, .int .i64 0], .bool false]) (by simp [results, Tryz.f142, go_sem, z0, z1, z2, z3, z4, z5, z6, z7, z8]) rfl ⟨rfl, ((Keeps.refl _ _).alloc _).alloc _⟩
  · go_enter Tryz.func142, Tryz.ntmps142
    go_wp2_with fail
    obtain ⟨x, hx⟩ : ∃ x, x = w.heap.size := ⟨_, rfl⟩
    obtain ⟨w0, hw0⟩ : ∃ w0, w0 = (w.alloc (.cells #[.int .i64 a, .int .i64 id, .bool false, .int .i64 1, .int .i64 7, .int .i64 0, .bool false, .int .i64 0, .int .i64 0] 85)).alloc (.cells #[.int .i64 0, .int .i64 0, .bool false, .int .i64 0, .int .i64 0, .int .i64 0, .bool false, .int .i64 0, .int .i64 0] 85) := ⟨_, rfl⟩
    rw [← hw0, ← hx]
    have hk0 : Keeps [] w w0 := by rw [hw0]; exact ((Keeps.refl _ _).alloc _).alloc _
    have h1 : w0.heap[x]? = some (.cells #[.int .i64 a, .int .i64 id, .bool false, .int .i64 1, .int .i64 7, .int .i64 0, .bool false, .int .i64 0, .int .i64 0] 85 (0, 0)) := by
      rw [hw0, Below.heap_alloc _ _ _ (by simp [hx]), hx]; exact heap_alloc_new _ _
    have h2 : w0.heap[x + 1]? = some (.cells #[.int .i64 0, .int .i64 0, .bool false, .int .i64 0, .int .i64 0, .int .i64 0, .bool false, .int .i64 0, .int .i64 0] 85 (0, 0)) := by rw [hw0, hx]; exact box2nd _ _ _ _
    have HK0 := Go.Lib.hid hk0
    have HX := Go.Lib.hid (Nat.le_of_eq hx.symm)
    have HX9 := Go.Lib.hid (st9 (a := .int .i64 a) (b := .int .i64 id) (c := .bool false) (d := .int .i64 1) (e := .int .i64 7) (f := .int .i64 0) (g := .bool false) (h := .int .i64 0) (i := .int .i64 0) h2)
    obtain ⟨p0, p1, p2, p3, p4, p5, p6, p7, p8⟩ := cells9 h1
    obtain ⟨r0, r1, r2, r3, r4, r5, r6, r7, r8⟩ := cells9 h2
    obtain ⟨f0, f1, f2, f3, f4, f5, f6, f7, f8⟩ := free9 h2
    clear hx hw0 hk0 h1 h2
    go_region
    go_wp2_with fail
    have h9 := HX.out
    have hkW : Keeps [] w (((((((((w0.setCell ⟨x + 1, 0, none⟩ (.int .i64 a)).setCell ⟨x + 1, 1, none⟩ (.int .i64 id)).setCell ⟨x + 1, 2, none⟩ (.bool false)).setCell ⟨x + 1, 3, none⟩ (.int .i64 1)).setCell ⟨x + 1, 4, none⟩ (.int .i64 7)).setCell ⟨x + 1, 5, none⟩ (.int .i64 0)).setCell ⟨x + 1, 6, none⟩ (.bool false)).setCell ⟨x + 1, 7, none⟩ (.int .i64 0)).setCell ⟨x + 1, 8, none⟩ (.int .i64 0)).drew := by
      refine Keeps.drew ?_
      repeat (refine Keeps.setNew ?_ (by simp; omega) _)
      exact HK0.out
    obtain ⟨z0, z1, z2, z3, z4, z5, z6, z7, z8⟩ := cells9 (((Keeps.refl [] _).drew).heap HX9.out (by simp))
    generalize (((((((((w0.setCell ⟨x + 1, 0, none⟩ (.int .i64 a)).setCell ⟨x + 1, 1, none⟩ (.int .i64 id)).setCell ⟨x + 1, 2, none⟩ (.bool false)).setCell ⟨x + 1, 3, none⟩ (.int .i64 1)).setCell ⟨x + 1, 4, none⟩ (.int .i64 7)).setCell ⟨x + 1, 5, none⟩ (.int .i64 0)).setCell ⟨x + 1, 6, none⟩ (.bool false)).setCell ⟨x + 1, 7, none⟩ (.int .i64 0)).setCell ⟨x + 1, 8, none⟩ (.int .i64 0)).drew = Wz at hkW z0 z1 z2 z3 z4 z5 z6 z7 z8 ⊢
    exact bodyPost_ret (v := .tuple #[.agg #[.int .i64 a, .int .i64 id, .bool false, .int .i64 1, .int .i64 7, .int .i64 0, .bool false, .int .i64 0, .int .i64 0], .bool false]) (by simp [results, Tryz.f142, go_sem, z0, z1, z2, z3, z4, z5, z6, z7, z8]) rfl ⟨rfl, hkW⟩
  · go_enter Tryz.func142, Tryz.ntmps142
    go_wp2_with fail
    obtain ⟨x, hx⟩ : ∃ x, x = w.heap.size := ⟨_, rfl⟩
    obtain ⟨w0, hw0⟩ : ∃ w0, w0 = (w.alloc (.cells #[.int .i64 a, .int .i64 id, .bool false, .int .i64 1, .int .i64 8, .int .i64 0, .bool false, .int .i64 0, .int .i64 0] 85)).alloc (.cells #[.int .i64 0, .int .i64 0, .bool false, .int .i64 0, .int .i64 0, .int .i64 0, .bool false, .int .i64 0, .int .i64 0] 85) := ⟨_, rfl⟩
    rw [← hw0, ← hx]
    have hk0 : Keeps [] w w0 := by rw [hw0]; exact ((Keeps.refl _ _).alloc _).alloc _
    have h1 : w0.heap[x]? = some (.cells #[.int .i64 a, .int .i64 id, .bool false, .int .i64 1, .int .i64 8, .int .i64 0, .bool false, .int .i64 0, .int .i64 0] 85 (0, 0)) := by
      rw [hw0, Below.heap_alloc _ _ _ (by simp [hx]), hx]; exact heap_alloc_new _ _
    have h2 : w0.heap[x + 1]? = some (.cells #[.int .i64 0, .int .i64 0, .bool false, .int .i64 0, .int .i64 0, .int .i64 0, .bool false, .int .i64 0, .int .i64 0] 85 (0, 0)) := by rw [hw0, hx]; exact box2nd _ _ _ _
    have HK0 := Go.Lib.hid hk0
    have HX := Go.Lib.hid (Nat.le_of_eq hx.symm)
    have HX9 := Go.Lib.hid (st9 (a := .int .i64 a) (b := .int .i64 id) (c := .bool false) (d := .int .i64 1) (e := .int .i64 8) (f := .int .i64 0) (g := .bool false) (h := .int .i64 0) (i := .int .i64 0) h2)
    obtain ⟨p0, p1, p2, p3, p4, p5, p6, p7, p8⟩ := cells9 h1
    obtain ⟨r0, r1, r2, r3, r4, r5, r6, r7, r8⟩ := cells9 h2
    obtain ⟨f0, f1, f2, f3, f4, f5, f6, f7, f8⟩ := free9 h2
    clear hx hw0 hk0 h1 h2
    go_region
    go_wp2_with fail
    have h9 := HX.out
    have hkW : Keeps [] w (((((((((w0.setCell ⟨x + 1, 0, none⟩ (.int .i64 a)).setCell ⟨x + 1, 1, none⟩ (.int .i64 id)).setCell ⟨x + 1, 2, none⟩ (.bool false)).setCell ⟨x + 1, 3, none⟩ (.int .i64 1)).setCell ⟨x + 1, 4, none⟩ (.int .i64 8)).setCell ⟨x + 1, 5, none⟩ (.int .i64 0)).setCell ⟨x + 1, 6, none⟩ (.bool false)).setCell ⟨x + 1, 7, none⟩ (.int .i64 0)).setCell ⟨x + 1, 8, none⟩ (.int .i64 0)).drew := by
      refine Keeps.drew ?_
      repeat (refine Keeps.setNew ?_ (by simp; omega) _)
      exact HK0.out
    obtain ⟨z0, z1, z2, z3, z4, z5, z6, z7, z8⟩ := cells9 (((Keeps.refl [] _).drew).heap HX9.out (by simp))
    generalize (((((((((w0.setCell ⟨x + 1, 0, none⟩ (.int .i64 a)).setCell ⟨x + 1, 1, none⟩ (.int .i64 id)).setCell ⟨x + 1, 2, none⟩ (.bool false)).setCell ⟨x + 1, 3, none⟩ (.int .i64 1)).setCell ⟨x + 1, 4, none⟩ (.int .i64 8)).setCell ⟨x + 1, 5, none⟩ (.int .i64 0)).setCell ⟨x + 1, 6, none⟩ (.bool false)).setCell ⟨x + 1, 7, none⟩ (.int .i64 0)).setCell ⟨x + 1, 8, none⟩ (.int .i64 0)).drew = Wz at hkW z0 z1 z2 z3 z4 z5 z6 z7 z8 ⊢
    exact bodyPost_ret (v := .tuple #[.agg #[.int .i64 a, .int .i64 id, .bool false, .int .i64 1, .int .i64 8, .int .i64 0, .bool false, .int .i64 0, .int .i64 0], .bool true]) (by simp [results, Tryz.f142, go_sem, z0, z1, z2, z3, z4, z5, z6, z7, z8]) rfl ⟨rfl, hkW⟩
end Go.Proofs.YtkhalpnonijogaaGreat
