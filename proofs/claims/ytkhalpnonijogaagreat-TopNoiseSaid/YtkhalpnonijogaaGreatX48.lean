/- hub.drive of a device that refuses. No condition but the hub's. -/
import Derived.Test.YtkhalpnonijogaaGreatX47
import Derived.Test.YtkhalpnonijogaaGreatX43
import Derived.Deep.CutRange
namespace Go.Proofs.YtkhalpnonijogaaGreat
open Go.RowKit

def updS (S : Nat → Int × Int) (k : Nat) (v : Int × Int) : Nat → Int × Int := fun d => if d = k then v else S d
theorem NewIs.did {A : Array Value} {h b r : Nat} {S : Nat → Int × Int} {c c' : Int} {w w' : World} (H : NewIs A h b r S c w) (hk : Keeps [b] w w') (hb : BusIs w' b c') : NewIs A h b r S c' w' := by
  obtain ⟨arr, h1, h2⟩ := H.ex
  obtain ⟨f, h3⟩ := H.rate
  obtain ⟨m, h4, _⟩ := H.bus
  refine ⟨⟨arr, hk.heap h1 (fun hm => ?_), h2⟩, ⟨f, hk.heap h3 (fun hm => ?_)⟩, hb⟩
  · rw [List.mem_singleton.1 hm, h4] at h1; simp at h1
  · rw [List.mem_singleton.1 hm, h4] at h3; simp at h3
theorem NewIs.aside {A : Array Value} {h b r x : Nat} {S : Nat → Int × Int} {c : Int} {w w' : World} {cs : Array Value} {t : TypeId} {fr : Nat × Nat} (H : NewIs A h b r S c w) (hk : Keeps [x] w w') (hx : w.heap[x]? = some (.cells cs t fr)) (t1 : t ≠ 94) (t2 : t ≠ 112) (t3 : t ≠ 210) : NewIs A h b r S c w' := by
  obtain ⟨arr, h1, h2⟩ := H.ex
  obtain ⟨f, h3⟩ := H.rate
  obtain ⟨m, h4, h5⟩ := H.bus
  refine ⟨⟨arr, hk.heap h1 (fun hm => ?_), h2⟩, ⟨f, hk.heap h3 (fun hm => ?_)⟩, ⟨m, hk.heap h4 (fun hm => ?_), h5.keeps hk (fun hm => ?_)⟩⟩
  · rw [List.mem_singleton.1 hm, hx] at h1
    simp only [Option.some.injEq, Obj.cells.injEq] at h1
    exact t1 h1.2.1
  · rw [List.mem_singleton.1 hm, hx] at h3
    simp only [Option.some.injEq, Obj.cells.injEq] at h3
    exact t3 h3.2.1
  · rw [List.mem_singleton.1 hm, hx] at h4
    simp only [Option.some.injEq, Obj.cells.injEq] at h4
    exact t2 h4.2.1
  · obtain ⟨es, clk, e, _⟩ := h5
    rw [List.mem_singleton.1 hm, hx] at e
    simp at e
theorem st2 {W : World} {x : Nat} {u0 u1 a b : Value} {t : TypeId} (h : W.heap[x]? = some (.cells #[u0, u1] t (0, 0))) : ((W.setCell ⟨x, 0, none⟩ a).setCell ⟨x, 1, none⟩ b).heap[x]? = some (.cells #[a, b] t (0, 0)) :=
  (heap_setCell_self (heap_setCell_self h)).trans (by simp)
theorem keeps9 (W : World) (x : Nat) (a b c d e f g h i : Value) : Keeps [x] W (((((((((W.setCell ⟨x, 0, none⟩ a).setCell ⟨x, 1, none⟩ b).setCell ⟨x, 2, none⟩ c).setCell ⟨x, 3, none⟩ d).setCell ⟨x, 4, none⟩ e).setCell ⟨x, 5, none⟩ f).setCell ⟨x, 6, none⟩ g).setCell ⟨x, 7, none⟩ h).setCell ⟨x, 8, none⟩ i) := by
  repeat (refine Keeps.setCell ?_ (by simp) _)
  exact Keeps.refl _ _
theorem keeps9n {S : List Nat} {w W : World} {x : Nat} (h : Keeps S w W) (hx : w.heap.size ≤ x) (a b c d e f g h i : Value) : Keeps S w (((((((((W.setCell ⟨x, 0, none⟩ a).setCell ⟨x, 1, none⟩ b).setCell ⟨x, 2, none⟩ c).setCell ⟨x, 3, none⟩ d).setCell ⟨x, 4, none⟩ e).setCell ⟨x, 5, none⟩ f).setCell ⟨x, 6, none⟩ g).setCell ⟨x, 7, none⟩ h).setCell ⟨x, 8, none⟩ i) := by
  repeat (refine Keeps.setNew ?_ hx _)
  assumption
theorem NewIs.set {A : Array Value} {h b r k : Nat} {S : Nat → Int × Int} {c st fl : Int} {w : World} (H : NewIs A h b r S c w) (hk : k < 5) : NewIs A h b r (updS S k (st, fl)) c (w.setCells h (3 + k * 9) (drvA (16 + (k : Int)) (49 + (k : Int)) false 1 st fl false).toList) ∧ Keeps [h] w (w.setCells h (3 + k * 9) (drvA (16 + (k : Int)) (49 + (k : Int)) false 1 st fl false).toList) := by
  obtain ⟨arr, h1, h2, h2', h2''⟩ := H.ex
  obtain ⟨f, h3⟩ := H.rate
  obtain ⟨m, h4, h5⟩ := H.bus
  have hl : (drvA (16 + (k : Int)) (49 + (k : Int)) false 1 st fl false).toList.length = 9 := rfl
  have hkk : Keeps [h] w (w.setCells h (3 + k * 9) (drvA (16 + (k : Int)) (49 + (k : Int)) false 1 st fl false).toList) := keeps_setCells (.inl (by simp)) _ _ _ (Keeps.refl _ _)
  obtain ⟨arr', e1, e2, e3, e4⟩ := heap_setCells (b := h) (t := 94) (fr := (0, 0)) (drvA (16 + (k : Int)) (49 + (k : Int)) false 1 st fl false).toList (3 + k * 9) w arr h1 (by rw [hl, h2]; omega)
  rw [hl] at e4
  refine ⟨⟨⟨arr', e1, by rw [e2, h2], fun j hj => by rw [e4 j (by omega)]; exact h2' j hj, fun d hd5 j hj => ?_⟩, ⟨f, hkk.heap h3 (fun hm => ?_)⟩, ⟨m, hkk.heap h4 (fun hm => ?_), h5.keeps hkk (fun hm => ?_)⟩⟩, hkk⟩
  · by_cases hdk : d = k
    · subst hdk
      have hj' : j < (drvA (16 + (d : Int)) (49 + (d : Int)) false 1 st fl false).toList.length := by rw [hl]; exact hj
      rw [e3 j _ (List.getElem?_eq_getElem hj'), updS, if_pos rfl, ← Array.getElem?_toList, List.getElem?_eq_getElem hj']
    · rw [e4 _ (by omega), updS, if_neg hdk]
      exact h2'' d hd5 j hj
  · rw [List.mem_singleton.1 hm, h1] at h3; simp at h3
  · rw [List.mem_singleton.1 hm, h1] at h4; simp at h4
  · obtain ⟨es, clk, e, _⟩ := h5
    rw [List.mem_singleton.1 hm, h1] at e
    simp at e
theorem Nx.two {st fl st' fl' : Int} {f : Bool} (h : Nx st fl st' fl' f) : 0 ≤ fl ∧ fl ≤ 2 ∧ 0 ≤ fl' ∧ fl' ≤ 2 ∧ ((f = false ∧ (st' = 6 ∨ st' = 7)) ∨ (f = true ∧ st' = 8)) := by
  cases h <;> simp
set_option maxHeartbeats 12800000 in
set_option maxRecDepth 100000 in
theorem drive_ok {A : Array Value} {h b r k : Nat} {S : Nat → Int × Int} {c st fl st' fl' : Int} {f : Bool} {w : World} (H : NewIs A h b r S c w) (HA : NewA A b r) (hk : k < 5) (hS : S k = (st, fl)) (hn : Nx st fl st' fl' f) (hc : 0 ≤ c) (hc2 : c ≤ 1000) :
    Calls Tryz.prog 55 #[.pointer (some ⟨h, 0, none⟩), .int .i64 ((k : Int) + 1)] w fun e w' => (∃ v, e = .returned v) ∧ NewIs A h b r (updS S k (st', fl')) (c + 1) w' ∧ Keeps [h, b] w w' := by
  obtain ⟨hf1, hf2, hf3, hf4, hcase⟩ := hn.two
  have HBY := Go.Lib.hid (fun W (hW : NewIs A h b r S c W) => busy_ok hW hk hS hn.st hf1 hf2)
  have HN := Go.Lib.hid (fun W => next_ok (want := false) (tr := false) (hn.ok (a := 16 + (k : Int)) (id := 49 + (k : Int)) (by omega) (by omega) (by omega) (by omega)) hn.st W)
  have HTK := Go.Lib.hid (fun W => dtake_ok (a := 16 + (k : Int)) (id := 49 + (k : Int)) hn (by omega) (by omega) (by omega) (by omega) W)
  have HDO := Go.Lib.hid (fun (r' : Int) (z : Nat) (W : World) (hb : BusIs W b c) (h3 : 0 ≤ r') (h4 : r' ≤ 5) => do_ok (a := 16 + (k : Int)) (z := z) hb hc hc2 (by omega) (by omega) h3 h4)
  have HAT := Go.Lib.hid (hat_ok (h := h) hk)
  have HH := Go.Lib.hid H
  have HHA := Go.Lib.hid HA
  have HSS := Go.Lib.hid hS
  have HCS := Go.Lib.hid hcase
  have HFL := Go.Lib.hid (And.intro hf3 hf4)
  unfold drvA at HN HTK
  have dk : decide ((k : Int) + 1 < 1) = false := decide_eq_false (by omega)
  clear H HA hS hn hc hc2 hf1 hf2 hf3 hf4 hcase
  go_enter Tryz.func55, Tryz.ntmps55
  go_wp2_with fail
  refine (HBY.out _ HH.out).mono ?_
  rintro e w1 ⟨rfl, hk1⟩
  have HH1 := Go.Lib.hid (HH.out.new hk1)
  have HK1 := Go.Lib.hid hk1
  clear hk1
  go_wp2_with fail
  refine (HAT.out _).mono ?_
  rintro e w2 ⟨rfl, rfl⟩
  obtain ⟨arr, hh, hs, ha, hd⟩ := HH1.out.ex
  obtain ⟨⟨p0, p1, p2, p3, p4, p5, p6, p7, p8⟩, _⟩ := drvN_cells hh hd hk
  rw [HSS.out] at p4 p5
  clear hh hs ha hd
  go_wp2_with fail
  refine (HN.out _).mono ?_
  rintro e w2 ⟨r', z, hr1, hr2, rfl, hk2⟩
  have HR := Go.Lib.hid (And.intro hr1 hr2)
  have HK2 := Go.Lib.hid hk2
  clear hk2 hr1 hr2 p0 p1 p2 p3 p4 p5 p6 p7 p8
  go_upto_region 5 with fail
  obtain ⟨y, hy⟩ : ∃ y, y = w2.heap.size := ⟨_, rfl⟩
  obtain ⟨w3, hw3⟩ : ∃ w3, w3 = w2.alloc (.cells #[.int .i64 (16 + (k : Int)), .int .i64 r', .slice (some ⟨z, 0, none⟩) 1 1, .int .i64 0] 230) := ⟨_, rfl⟩
  rw [← hw3, ← hy]
  have hk3 : Keeps [] w1 w3 := by rw [hw3]; exact HK2.out.alloc _
  have HH3 := Go.Lib.hid (HH1.out.new hk3)
  have HK3 := Go.Lib.hid (HK1.out.trans hk3)
  have HY : Hid (w3.heap[y]? = some (.cells #[.int .i64 (16 + (k : Int)), .int .i64 r', .slice (some ⟨z, 0, none⟩) 1 1, .int .i64 0] 230 (0, 0))) := Go.Lib.hid (by rw [hw3, hy]; exact heap_alloc_new _ _)
  clear hy hw3 hk3 HBY
  go_cut [10, 11] from 41 to 49 (fun s10 s11 wx => ∃ y10, s10 = .pointer (some ⟨y10, 0, none⟩) ∧ s11 = .int .i64 0 ∧ Hid (NewIs A h b r S (c + 1) wx ∧ wx.heap[y]? = some (.cells #[.int .i64 (16 + (k : Int)), .int .i64 r', .slice (some ⟨z, 0, none⟩) 1 1, .int .i64 0] 230 (0, 0)) ∧ wx.heap[y10]? = some (.cells #[.int .i64 2, .slice none 0 0] 234 (0, 0)) ∧ Keeps [b] w3 wx))
  case first =>
    have kc : ∀ (W : World) (c' : Int), NewIs A h b r S c' W → W.heap[y]? = some (.cells #[.int .i64 (16 + (k : Int)), .int .i64 r', .slice (some ⟨z, 0, none⟩) 1 1, .int .i64 0] 230 (0, 0)) → W.cell? ⟨h, 0, none⟩ = some (.pointer (some ⟨b, 0, none⟩)) ∧ W.cell? ⟨y, 0, none⟩ = some (.int .i64 (16 + (k : Int))) ∧ W.cell? ⟨y, 1, none⟩ = some (.int .i64 r') ∧ W.cell? ⟨y, 2, none⟩ = some (.slice (some ⟨z, 0, none⟩) 1 1) ∧ W.cell? ⟨y, 3, none⟩ = some (.int .i64 0) := fun W c' e1 e2 => by
      obtain ⟨arr, h1, h2, h3, h4⟩ := e1.ex
      have h0 : arr[0]? = some (.pointer (some ⟨b, 0, none⟩)) := by rw [h3 0 (.inl (by omega))]; exact HHA.out.bus
      exact ⟨(cell_at h1 h0).1, (cell_at e2 (p := 0) rfl).1, (cell_at e2 (p := 1) rfl).1, (cell_at e2 (p := 2) rfl).1, (cell_at e2 (p := 3) rfl).1⟩
    have KC := Go.Lib.hid kc
    have HYB : Hid (y ∉ [b]) := Go.Lib.hid (fun hm => by
      obtain ⟨m, e, _⟩ := HH3.out.bus
      have := HY.out
      rw [List.mem_singleton.1 hm, e] at this
      simp at this)
    have HSB : Hid (w3.heap.size ∉ [b]) := Go.Lib.hid (fun hm => by
      obtain ⟨m, e, _⟩ := HH3.out.bus
      have := lt_of_block e
      rw [List.mem_singleton] at hm
      omega)
    clear kc
    go_region_held3 (fun W => W.cell? ⟨h, 0, none⟩ = some (.pointer (some ⟨b, 0, none⟩)) ∧ W.cell? ⟨y, 0, none⟩ = some (.int .i64 (16 + (k : Int))) ∧ W.cell? ⟨y, 1, none⟩ = some (.int .i64 r') ∧ W.cell? ⟨y, 2, none⟩ = some (.slice (some ⟨z, 0, none⟩) 1 1) ∧ W.cell? ⟨y, 3, none⟩ = some (.int .i64 0))
      (first | with_reducible exact KC.out _ _ (HH3.out.new (Keeps.refl [] w3).drew) ((Keeps.refl [] w3).drew.heap HY.out (by simp)) | with_reducible exact KC.out _ _ (HH3.out.new ((Keeps.refl [] w3).alloc _).drew) (((Keeps.refl [] w3).alloc _).drew.heap HY.out (by simp)) | with_reducible exact KC.out _ _ HH4.out (HK4.out.heap HY.out HYB.out) | with_reducible exact KC.out _ _ (HH4.out.new ((Keeps.refl [] w4).alloc _)) ((HK4.out.alloc _).heap HY.out HYB.out) | with_reducible exact KC.out _ _ (HH4.out.aside (((Keeps.refl [w3.heap.size] w4).setCell (by simp) _).setCell (by simp) _) HY0.out (by decide) (by decide) (by decide)) (((HK4.out.setNew (Nat.le_refl _) _).setNew (Nat.le_refl _) _).heap HY.out HYB.out) | fail)
      (first | ((go_at_call 88; (refine (HDO.out _ _ (w3.alloc _).drew (HH3.out.bus.new ((Keeps.refl [] w3).alloc _).drew) HR.out.1 HR.out.2).mono ?_; rintro e w4 ⟨rfl, hb4, hk4⟩)); have HH4 := Go.Lib.hid ((HH3.out.new ((Keeps.refl [] w3).alloc (.cells #[.int .i64 0, .slice none 0 0] 234)).drew).did hk4 hb4); have HK4 := Go.Lib.hid (((Keeps.refl [b] w3).alloc _).drew.trans hk4); have hy0 := hk4.heap (show (w3.alloc (.cells #[.int .i64 0, .slice none 0 0] 234)).drew.heap[w3.heap.size]? = _ from heap_alloc_new w3 (.cells #[.int .i64 0, .slice none 0 0] 234)) HSB.out; have HY0 := Go.Lib.hid hy0; obtain ⟨a0, a1, a2, a3⟩ := And.intro (cell_at hy0 (p := 0) rfl).1 (And.intro (cell_at hy0 (p := 1) rfl).1 (And.intro (cell_at hy0 (p := 0) rfl).2 (cell_at hy0 (p := 1) rfl).2)); clear hy0 hb4 hk4) | ((go_at_call 88; (refine (HDO.out _ _ w3.drew (HH3.out.bus.new (Keeps.refl [] w3).drew) HR.out.1 HR.out.2).mono ?_; rintro e w4 ⟨rfl, hb4, hk4⟩)); have HH4 := Go.Lib.hid ((HH3.out.new (Keeps.refl [] w3).drew).did hk4 hb4); have HK4 := Go.Lib.hid ((Keeps.refl [b] w3).drew.trans hk4); clear hb4 hk4))
    all_goals go_wp2_with fail
    all_goals go_meet
    all_goals first
      | exact ⟨_, rfl, rfl, Go.Lib.hid ⟨HH4.out.new ((Keeps.refl [] w4).alloc _), (HK4.out.alloc _).heap HY.out HYB.out, heap_alloc_new w4 _, HK4.out.alloc _⟩⟩
      | exact ⟨_, rfl, rfl, Go.Lib.hid ⟨HH4.out.aside (((Keeps.refl [w3.heap.size] w4).setCell (by simp) _).setCell (by simp) _) HY0.out (by decide) (by decide) (by decide), ((HK4.out.setNew (Nat.le_refl _) _).setNew (Nat.le_refl _) _).heap HY.out HYB.out, st2 HY0.out, (HK4.out.setNew (Nat.le_refl _) _).setNew (Nat.le_refl _) _⟩⟩
  case rest =>
    obtain ⟨y10, rfl, rfl, HC⟩ := hcut
    clear HDO HN
    go_upto_region 6 with fail
    go_cut [12, 13, 14, 15] from 50 to 59 (fun s12 s13 s14 s15 wx => ∃ y12, s12 = .pointer (some ⟨y12, 0, none⟩) ∧ s13 = .slice none 0 0 ∧ s14 = .bool f ∧ s15 = .int .i64 0 ∧ Hid (NewIs A h b r S (c + 1) wx ∧ wx.heap[y]? = some (.cells #[.int .i64 (16 + (k : Int)), .int .i64 r', .slice (some ⟨z, 0, none⟩) 1 1, .int .i64 0] 230 (0, 0)) ∧ wx.heap[y12]? = some (.cells #[.int .i64 (16 + (k : Int)), .int .i64 (49 + (k : Int)), .bool false, .int .i64 1, .int .i64 st', .int .i64 fl', .bool false, .int .i64 0, .int .i64 0] 85 (0, 0)) ∧ Keeps [b] w3 wx))
    case first =>
      have kc : ∀ (W : World), NewIs A h b r S (c + 1) W → W.heap[y10]? = some (.cells #[.int .i64 2, .slice none 0 0] 234 (0, 0)) → W.cell? ⟨h, 3 + k * 9, none⟩ = some (.int .i64 (16 + (k : Int))) ∧ W.cell? ⟨h, 3 + k * 9 + 1, none⟩ = some (.int .i64 (49 + (k : Int))) ∧ W.cell? ⟨h, 3 + k * 9 + 2, none⟩ = some (.bool false) ∧ W.cell? ⟨h, 3 + k * 9 + 3, none⟩ = some (.int .i64 1) ∧ W.cell? ⟨h, 3 + k * 9 + 4, none⟩ = some (.int .i64 st) ∧ W.cell? ⟨h, 3 + k * 9 + 5, none⟩ = some (.int .i64 fl) ∧ W.cell? ⟨h, 3 + k * 9 + 6, none⟩ = some (.bool false) ∧ W.cell? ⟨h, 3 + k * 9 + 7, none⟩ = some (.int .i64 0) ∧ W.cell? ⟨h, 3 + k * 9 + 8, none⟩ = some (.int .i64 0) ∧ W.cell? ⟨y10, 0, none⟩ = some (.int .i64 2) ∧ W.cell? ⟨y10, 1, none⟩ = some (.slice none 0 0) := fun W e1 e2 => by
        obtain ⟨arr, h1, h2, h3, h4⟩ := e1.ex
        obtain ⟨⟨p0, p1, p2, p3, p4, p5, p6, p7, p8⟩, _⟩ := drvN_cells h1 h4 hk
        rw [HSS.out] at p4 p5
        exact ⟨p0, p1, p2, p3, p4, p5, p6, p7, p8, (cell_at e2 (p := 0) rfl).1, (cell_at e2 (p := 1) rfl).1⟩
      have KC := Go.Lib.hid kc
      have HN1 := Go.Lib.hid HC.out.1
      have HN3 := Go.Lib.hid HC.out.2.2.1
      have HNZ : Hid (y10 ∉ [wc.heap.size] ∧ y ∉ [wc.heap.size]) := Go.Lib.hid (by
        have := lt_of_block HC.out.2.2.1
        have := lt_of_block HC.out.2.1
        simp only [List.mem_singleton]
        omega)
      clear kc
      go_region_held3 (fun W => W.cell? ⟨h, 3 + k * 9, none⟩ = some (.int .i64 (16 + (k : Int))) ∧ W.cell? ⟨h, 3 + k * 9 + 1, none⟩ = some (.int .i64 (49 + (k : Int))) ∧ W.cell? ⟨h, 3 + k * 9 + 2, none⟩ = some (.bool false) ∧ W.cell? ⟨h, 3 + k * 9 + 3, none⟩ = some (.int .i64 1) ∧ W.cell? ⟨h, 3 + k * 9 + 4, none⟩ = some (.int .i64 st) ∧ W.cell? ⟨h, 3 + k * 9 + 5, none⟩ = some (.int .i64 fl) ∧ W.cell? ⟨h, 3 + k * 9 + 6, none⟩ = some (.bool false) ∧ W.cell? ⟨h, 3 + k * 9 + 7, none⟩ = some (.int .i64 0) ∧ W.cell? ⟨h, 3 + k * 9 + 8, none⟩ = some (.int .i64 0) ∧ W.cell? ⟨y10, 0, none⟩ = some (.int .i64 2) ∧ W.cell? ⟨y10, 1, none⟩ = some (.slice none 0 0))
        (first | with_reducible exact KC.out _ (HN1.out.new (Keeps.refl [] wc).drew) ((Keeps.refl [] wc).drew.heap HN3.out (by simp)) | with_reducible exact KC.out _ (HN1.out.new ((Keeps.refl [] wc).alloc _).drew) (((Keeps.refl [] wc).alloc _).drew.heap HN3.out (by simp)) | with_reducible exact KC.out _ (HN1.out.new HK4.out) (HK4.out.heap HN3.out (by simp)) | with_reducible exact KC.out _ (HN1.out.new (HK4.out.alloc _)) ((HK4.out.alloc _).heap HN3.out (by simp)) | with_reducible exact KC.out _ ((HN1.out.new HK4.out).aside (keeps9 _ _ _ _ _ _ _ _ _ _ _) HY0.out (by decide) (by decide) (by decide)) ((keeps9n HK4.out (Nat.le_refl _) _ _ _ _ _ _ _ _ _).heap HN3.out (by simp)) | fail)
        (first | ((go_at_call 89; (refine (HTK.out (wc.alloc _).drew).mono ?_; rintro e w4 ⟨rfl, hk4⟩)); have HK4 := Go.Lib.hid (((Keeps.refl [] wc).alloc (.cells #[.int .i64 0, .int .i64 0, .bool false, .int .i64 0, .int .i64 0, .int .i64 0, .bool false, .int .i64 0, .int .i64 0] 85)).drew.trans hk4); have hy0 := hk4.heap (show (wc.alloc (.cells #[.int .i64 0, .int .i64 0, .bool false, .int .i64 0, .int .i64 0, .int .i64 0, .bool false, .int .i64 0, .int .i64 0] 85)).drew.heap[wc.heap.size]? = _ from heap_alloc_new wc (.cells #[.int .i64 0, .int .i64 0, .bool false, .int .i64 0, .int .i64 0, .int .i64 0, .bool false, .int .i64 0, .int .i64 0] 85)) (by simp); have HY0 := Go.Lib.hid hy0; obtain ⟨a0, a1, a2, a3, a4, a5, a6, a7, a8⟩ := cells9 hy0; obtain ⟨b0, b1, b2, b3, b4, b5, b6, b7, b8⟩ := free9 hy0; clear hy0 hk4) | ((go_at_call 89; (refine (HTK.out wc.drew).mono ?_; rintro e w4 ⟨rfl, hk4⟩)); have HK4 := Go.Lib.hid ((Keeps.refl [] wc).drew.trans hk4); clear hk4))
      all_goals go_wp2_with fail
      all_goals go_meet
      all_goals first
        | (obtain ⟨W, hW⟩ : ∃ W, W = w4.alloc (.cells #[.int .i64 (16 + (k : Int)), .int .i64 (49 + (k : Int)), .bool false, .int .i64 1, .int .i64 st', .int .i64 fl', .bool false, .int .i64 0, .int .i64 0] 85) := ⟨_, rfl⟩
           rw [← hW]
           have hk5 : Keeps [] wc W := by rw [hW]; exact HK4.out.alloc _
           have hx5 : W.heap[w4.heap.size]? = some (.cells #[.int .i64 (16 + (k : Int)), .int .i64 (49 + (k : Int)), .bool false, .int .i64 1, .int .i64 st', .int .i64 fl', .bool false, .int .i64 0, .int .i64 0] 85 (0, 0)) := by rw [hW]; exact heap_alloc_new w4 _
           clear hW
           exact ⟨w4.heap.size, rfl, rfl, rfl, rfl, Go.Lib.hid ⟨HN1.out.new hk5, hk5.heap HC.out.2.1 (by simp), hx5, HC.out.2.2.2.trans (hk5.mono (by simp))⟩⟩)
        | (obtain ⟨W, hW⟩ : ∃ W, W = ((((((((w4.setCell ⟨wc.heap.size, 0, none⟩ (.int .i64 (16 + (k : Int)))).setCell ⟨wc.heap.size, 1, none⟩ (.int .i64 (49 + (k : Int)))).setCell ⟨wc.heap.size, 2, none⟩ (.bool false)).setCell ⟨wc.heap.size, 3, none⟩ (.int .i64 1)).setCell ⟨wc.heap.size, 4, none⟩ (.int .i64 st')).setCell ⟨wc.heap.size, 5, none⟩ (.int .i64 fl')).setCell ⟨wc.heap.size, 6, none⟩ (.bool false)).setCell ⟨wc.heap.size, 7, none⟩ (.int .i64 0)).setCell ⟨wc.heap.size, 8, none⟩ (.int .i64 0) := ⟨_, rfl⟩
           rw [← hW]
           have hk5 : Keeps [] wc W := by rw [hW]; exact keeps9n HK4.out (Nat.le_refl _) _ _ _ _ _ _ _ _ _
           have hx5 : W.heap[wc.heap.size]? = some (.cells #[.int .i64 (16 + (k : Int)), .int .i64 (49 + (k : Int)), .bool false, .int .i64 1, .int .i64 st', .int .i64 fl', .bool false, .int .i64 0, .int .i64 0] 85 (0, 0)) := by rw [hW]; exact st9 HY0.out
           clear hW
           exact ⟨wc.heap.size, rfl, rfl, rfl, rfl, Go.Lib.hid ⟨HN1.out.new hk5, hk5.heap HC.out.2.1 (by simp), hx5, HC.out.2.2.2.trans (hk5.mono (by simp))⟩⟩)
    case rest =>
      obtain ⟨y12, rfl, rfl, rfl, rfl, HC2⟩ := hcut
      obtain ⟨arr, hh, hs, ha, hd⟩ := HC2.out.1.ex
      obtain ⟨⟨p0, p1, p2, p3, p4, p5, p6, p7, p8⟩, fz⟩ := drvN_cells hh hd hk
      have f0 := fz (3 + k * 9)
      have f1 := fz (3 + k * 9 + 1)
      have f2 := fz (3 + k * 9 + 2)
      have f3 := fz (3 + k * 9 + 3)
      have f4 := fz (3 + k * 9 + 4)
      have f5 := fz (3 + k * 9 + 5)
      have f6 := fz (3 + k * 9 + 6)
      have f7 := fz (3 + k * 9 + 7)
      have f8 := fz (3 + k * 9 + 8)
      obtain ⟨q0, q1, q2, q3, q4, q5, q6, q7, q8⟩ := cells9 HC2.out.2.2.1
      have hyh : y12 ∉ [h] := fun hm => by
        have := HC2.out.2.2.1
        rw [List.mem_singleton.1 hm, hh] at this
        simp at this
      obtain ⟨hset, hks⟩ := HC2.out.1.set (st := st') (fl := fl') hk
      have HSET := Go.Lib.hid hset
      have HKS := Go.Lib.hid hks
      have HYH := Go.Lib.hid (hks.heap HC2.out.2.2.1 hyh)
      clear hh hs ha hd fz hset hks hyh
      go_upto_region 8 with fail
      obtain ⟨w8, hw8⟩ : ∃ w8, w8 = wc.setCells h (3 + k * 9) (drvA (16 + (k : Int)) (49 + (k : Int)) false 1 st' fl' false).toList := ⟨_, rfl⟩
      rw [← hw8] at HSET HKS HYH
      rw [show ((((((((wc.setCell ⟨h, 3 + k * 9, none⟩ (.int .i64 (16 + (k : Int)))).setCell ⟨h, 3 + k * 9 + 1, none⟩ (.int .i64 (49 + (k : Int)))).setCell ⟨h, 3 + k * 9 + 2, none⟩ (.bool false)).setCell ⟨h, 3 + k * 9 + 3, none⟩ (.int .i64 1)).setCell ⟨h, 3 + k * 9 + 4, none⟩ (.int .i64 st')).setCell ⟨h, 3 + k * 9 + 5, none⟩ (.int .i64 fl')).setCell ⟨h, 3 + k * 9 + 6, none⟩ (.bool false)).setCell ⟨h, 3 + k * 9 + 7, none⟩ (.int .i64 0)).setCell ⟨h, 3 + k * 9 + 8, none⟩ (.int .i64 0) = w8 from hw8.symm]
      have HK8 : Hid (Keeps [h, b] w w8) := Go.Lib.hid (((HK3.out.mono (by simp)).trans (HC2.out.2.2.2.mono (by simp))).trans (HKS.out.mono (by simp)))
      clear hw8 p0 p1 p2 p3 p4 p5 p6 p7 p8 f0 f1 f2 f3 f4 f5 f6 f7 f8 q0 q1 q2 q3 q4 q5 q6 q7 q8 HKS HC2
      go_wp2_with fail
      go_loopw [65] (fun s65 wx => s65 = .int .i64 0 ∧ wx = w8) (fun _ _ => 0)
      case atStart => exact ⟨rfl, rfl⟩
      case round =>
        obtain ⟨rfl, rfl⟩ := hrel
        obtain ⟨hc1, hc2⟩ | ⟨hc1, hc2⟩ := HCS.out
        · subst hc1
          have HB2 := Go.Lib.hid (busy_ok HSET.out hk (by rw [updS, if_pos rfl]) hc2 HFL.out.1 HFL.out.2)
          have y4 : ∀ W, Keeps [] wr W → W.cell? ⟨y12, 4, none⟩ = some (.int .i64 st') := fun W hW => (cell_at (hW.heap HYH.out (by simp)) (p := 4) rfl).1
          have HY4 := Go.Lib.hid y4
          have dst : (st' == 4) = false := by simp; omega
          clear hc2 y4
          go_wp2_with fail
          refine HB2.out.mono ?_
          rintro e w9 ⟨rfl, hk9⟩
          have y4 := HY4.out _ hk9
          have HK9 := Go.Lib.hid hk9
          clear hk9 HB2
          go_wp2_with fail
          go_ret2
          exact ⟨⟨_, rfl⟩, HSET.out.new (HK9.out.alloc _), HK8.out.trans ((HK9.out.mono (by simp)).alloc _)⟩
        · subst hc1
          subst hc2
          obtain ⟨arr, hh, hs, ha, hd⟩ := HSET.out.ex
          obtain ⟨fr, hr⟩ := HSET.out.rate
          obtain ⟨q, hq⟩ := HHA.out.bat
          have a49 : arr[49]? = some (.pointer (some ⟨r, 0, none⟩)) := by rw [ha 49 (.inr (by omega))]; exact HHA.out.rate
          have a50 : arr[50]? = some q := by rw [ha 50 (.inr (by omega))]; exact hq
          have a53 : arr[53]? = some (.int .i64 0) := by rw [ha 53 (.inr (by omega))]; exact HHA.out.now
          have c49 := (cell_at hh a49).1
          have HND := Go.Lib.hid (needing0 hr hk)
          have HHH := Go.Lib.hid hh
          have H50 := Go.Lib.hid a50
          have H53 := Go.Lib.hid a53
          clear hh hs ha hd hr hq a49 a50 a53
          go_wp2_with fail
          refine HND.out.mono ?_
          rintro e w9 ⟨rfl, hk9⟩
          have c53 := (cell_at (hk9.heap HHH.out (by simp)) H53.out).1
          have HPT := Go.Lib.hid (hput0 (k := (k : Int) + 1) (hk9.heap HHH.out (by simp)) H50.out)
          have HK9 := Go.Lib.hid hk9
          clear hk9 c49 HND
          go_wp2_with fail
          refine HPT.out.mono ?_
          rintro e w10 ⟨⟨v10, rfl⟩, hk10⟩
          have HK10 := Go.Lib.hid (HK9.out.trans hk10)
          have HB2 := Go.Lib.hid (idle_ok (HSET.out.new HK10.out) hk (by rw [updS, if_pos rfl]) HFL.out.1 HFL.out.2)
          clear hk10 c53 HPT
          go_wp2_with fail
          refine HB2.out.mono ?_
          rintro e w11 ⟨rfl, hk11⟩
          have HK11 := Go.Lib.hid (HK10.out.trans hk11)
          clear hk11
          go_wp2_with fail
          go_ret2
          exact ⟨⟨_, rfl⟩, HSET.out.new HK11.out, HK8.out.trans (HK11.out.mono (by simp))⟩
end Go.Proofs.YtkhalpnonijogaaGreat
