/- store.All of an empty store. No condition but the store's. | rate.New, batch.New, drv.New. No condition. -/
import Derived.Test.YtkhalpnonijogaaGreatX36
import Derived.Deep.RegionHeld3
import Derived.RegionTactic
import Derived.BigRegion
import Derived.Conc.SmallLaws
import Derived.Laws.MakeOwn
namespace Go.Proofs.YtkhalpnonijogaaGreat
open Go.RowKit

set_option maxHeartbeats 3200000 in
set_option maxRecDepth 100000 in
theorem lscan_ok {b c : Nat} {first : Value} {w : World} (hp : PageIs w b 0 first) :
    Calls Tryz.prog 132 #[.slice (some ⟨b, 0, none⟩) 256 c] w fun e w' => e = .returned (.tuple #[.slice none 0 0, .int .i64 1, .int .i64 0]) ∧ Keeps [] w w' := by
  have hq : w.cell? ⟨b, 1, none⟩ = some (.int .u32 4294967295) := by
    have := hp.get 1 (by omega)
    simpa [ffs] using this
  obtain ⟨x, hx⟩ : ∃ x, x = w.heap.size := ⟨_, rfl⟩
  obtain ⟨w0, hw0⟩ : ∃ w0, w0 = w.alloc (.cells #[.slice (some ⟨b, 0, none⟩) 256 c, .int .i64 1] 370) := ⟨_, rfl⟩
  have hk0 : Keeps [] w w0 := by rw [hw0]; exact (Keeps.refl _ _).alloc _
  have hx0 : w0.heap[x]? = some (.cells #[.slice (some ⟨b, 0, none⟩) 256 c, .int .i64 1] 370 (0, 0)) := by rw [hw0, hx]; exact heap_alloc_new _ _
  have q0 : w0.cell? ⟨b, 1, none⟩ = some (.int .u32 4294967295) := hk0.cell hq (by simp)
  have q1 : w0.cell? ⟨x, 1, none⟩ = some (.int .i64 1) := (cell_at hx0 (p := 1) rfl).1
  have HW := Go.Lib.hid hw0
  have HX := Go.Lib.hid hx
  have HK := Go.Lib.hid hk0
  clear hp hq hx hw0 hk0 hx0
  go_enter Tryz.func132, Tryz.ntmps132
  go_upto_region 4 with fail
  rw [← HW.out, ← HX.out]
  go_loopw [2] (fun s2 wx => s2 = .slice none 0 0 ∧ wx = w0) (fun _ _ => 0)
  case atStart => exact ⟨rfl, rfl⟩
  case round =>
    obtain ⟨rfl, hwr⟩ := hrel
    rw [hwr]
    clear hwr
    go_upto_region 10 with fail
    go_quiet (fail)
    go_wp2_with fail
    refine bodyPost_ret (v := .tuple #[.slice none 0 0, .int .i64 1, .int .i64 0]) (by simp [results, Tryz.f132, go_sem]) rfl ?_
    exact ⟨rfl, HK.out.drewN _⟩
set_option maxHeartbeats 800000 in
set_option maxRecDepth 100000 in
theorem idx_none (u : Value) (w : World) : Calls Tryz.prog 135 #[.slice none 0 0, u] w fun e w' => e = .returned (.int .i64 (-1)) ∧ w' = w := by
  go_enter Tryz.func135, Tryz.ntmps135
  go_wp2_with fail
  go_loopw [8] (fun s8 wx => s8 = .int .i64 0 ∧ wx = w) (fun _ _ => 0)
  case atStart => exact ⟨rfl, rfl⟩
  case round =>
    obtain ⟨rfl, hwr⟩ := hrel
    rw [hwr]
    go_wp2_with fail
    go_ret
    exact ⟨rfl, rfl⟩
set_option maxHeartbeats 800000 in
set_option maxRecDepth 100000 in
theorem delf_none (u : Value) (w : World) : Calls Tryz.prog 83 #[.slice none 0 0, u] w fun e w' => e = .returned (.slice none 0 0) ∧ w' = w := by
  go_enter Tryz.func83, Tryz.ntmps83
  go_wp2_with fail
  refine (idx_none _ _).mono ?_
  rintro e w' ⟨rfl, hw'⟩
  rw [hw']
  clear hw'
  go_wp2_with fail
  go_ret
  exact ⟨rfl, rfl⟩
set_option maxHeartbeats 3200000 in
set_option maxRecDepth 100000 in
theorem sall_ok {f g s : Nat} {cnt : Int} {z : Value} {w : World} (h : FlashIs w f g cnt head1) (hs : w.heap[s]? = some (.cells #[.pointer (some ⟨f, 0, none⟩), .int .i64 0, z] 174 (0, 0))) :
    Calls Tryz.prog 82 #[.pointer (some ⟨s, 0, none⟩)] w fun e w' => e = .returned (.tuple #[.slice none 0 0, .int .i64 1]) ∧ Keeps [] w w' := by
  have HW := Go.Lib.hid (words_ok (k := 0) (w := w.drew) (FlashIs.mk h.top h.row) rfl (by omega))
  have KC : Hid (∀ W, Keeps [] w W → W.cell? ⟨s, 0, none⟩ = some (.pointer (some ⟨f, 0, none⟩)) ∧ W.cell? ⟨s, 1, none⟩ = some (.int .i64 0)) := Go.Lib.hid (fun W hW => by
    obtain ⟨x0, x1, _⟩ := cells3 (hW.heap hs (by simp))
    exact ⟨x0, x1⟩)
  clear h hs
  go_enter Tryz.func82, Tryz.ntmps82
  go_upto_region 1 with fail
  go_region_held3 (fun W => W.cell? ⟨s, 0, none⟩ = some (.pointer (some ⟨f, 0, none⟩)) ∧ W.cell? ⟨s, 1, none⟩ = some (.int .i64 0))
    (first | exact KC.out _ ((Keeps.refl [] w).drew) | exact KC.out _ HK1.out | exact KC.out _ HK2.out | fail)
    (first
      | (go_at_call 132; (refine (lscan_ok HP.out).mono ?_; rintro e w2 ⟨rfl, hk2⟩); have HK2 := Go.Lib.hid (HK1.out.trans hk2); clear hk2)
      | (go_at_call 126; (refine HW.out.mono ?_; rintro e w1 ⟨b, c, rfl, hc, hp, hb, hk1⟩); have HP := Go.Lib.hid hp; have HK1 := Go.Lib.hid (((Keeps.refl [] w).drew).trans hk1); clear hp hk1 hb))
  have hn0 : (w2.alloc (.cells #[.slice none 0 0, .nilFunc] 298)).heap[w2.heap.size]? = some (.cells #[.slice none 0 0, .nilFunc] 298 (0, 0)) := heap_alloc_new _ _
  have hst : (store ⟨w2.heap.size, 1, none⟩ (.func (.func 133) #[] #[])).run Tryz.prog (w2.alloc (.cells #[.slice none 0 0, .nilFunc] 298)) = .ok () ((w2.alloc (.cells #[.slice none 0 0, .nilFunc] 298)).setCell ⟨w2.heap.size, 1, none⟩ (.func (.func 133) #[] #[])) := by
    rw [run_store _ _ _ _ _ rfl]
    simp [(cell_at hn0 (p := 1) rfl).1, (cell_at hn0 (p := 1) rfl).2]
  clear hn0
  go_upto_region 4 with fail
  obtain ⟨x, hx⟩ : ∃ x, x = w2.heap.size := ⟨_, rfl⟩
  obtain ⟨w3, hw3⟩ : ∃ w3, w3 = w2.alloc (.cells #[.slice none 0 0, .func (.func 133) #[] #[]] 298) := ⟨_, rfl⟩
  rw [← hw3, ← hx]
  have hk3 : Keeps [] w w3 := by rw [hw3]; exact HK2.out.alloc _
  have hx3 : w3.heap[x]? = some (.cells #[.slice none 0 0, .func (.func 133) #[] #[]] 298 (0, 0)) := by rw [hw3, hx]; exact heap_alloc_new _ _
  have q0 : w3.cell? ⟨x, 0, none⟩ = some (.slice none 0 0) := (cell_at hx3 (p := 0) rfl).1
  have HK3 := Go.Lib.hid hk3
  clear hw3 hx hk3 hx3
  go_loopw [27] (fun s27 wx => s27 = .int .i64 0 ∧ wx = w3) (fun _ _ => 0)
  case atStart => exact ⟨rfl, rfl⟩
  case round =>
    obtain ⟨rfl, hwr⟩ := hrel
    rw [hwr]
    clear hwr
    go_wp2_with fail
    go_ret2
    exact ⟨rfl, HK3.out⟩
set_option maxHeartbeats 800000 in
set_option maxRecDepth 100000 in
theorem storeall_ok {f g s : Nat} {cnt : Int} {z : Value} {w : World} (h : FlashIs w f g cnt head1) (hs : w.heap[s]? = some (.cells #[.pointer (some ⟨f, 0, none⟩), .int .i64 0, z] 174 (0, 0))) :
    Calls Tryz.prog 50 #[.pointer (some ⟨s, 0, none⟩)] w fun e w' => e = .returned (.slice none 0 0) ∧ Keeps [] w w' := by
  have HA := Go.Lib.hid (sall_ok h hs)
  clear h hs
  go_enter Tryz.func50, Tryz.ntmps50
  go_wp2_with fail
  refine HA.out.mono ?_
  rintro e w1 ⟨rfl, hk1⟩
  have HK1 := Go.Lib.hid hk1
  clear hk1 HA
  go_wp2_with fail
  refine (delf_none _ _).mono ?_
  rintro e w' ⟨rfl, hw'⟩
  rw [hw']
  clear hw'
  go_wp2_with fail
  go_ret
  exact ⟨rfl, HK1.out⟩
end Go.Proofs.YtkhalpnonijogaaGreat
namespace Go.Proofs.YtkhalpnonijogaaGreat
open Go.RowKit

set_option maxHeartbeats 800000 in
set_option maxRecDepth 100000 in
theorem rate_new (w : World) : Calls Tryz.prog 46 #[] w fun e w' => ∃ r, e = .returned (.pointer (some ⟨r, 0, none⟩)) ∧ w'.heap[r]? = some (.cells #[.slice none 0 0, .func (.func 79) #[] #[]] 210 (0, 0)) ∧ w.heap.size ≤ r ∧ Keeps [] w w' := by
  have HE : Hid ((w.alloc (.cells #[.slice none 0 0, .func (.func 79) #[] #[]] 210)).heap[w.heap.size]? = some (.cells #[.slice none 0 0, .func (.func 79) #[] #[]] 210 (0, 0)) ∧ w.heap.size ≤ w.heap.size ∧ Keeps [] w (w.alloc (.cells #[.slice none 0 0, .func (.func 79) #[] #[]] 210))) := Go.Lib.hid ⟨heap_alloc_new _ _, Nat.le_refl _, (Keeps.refl _ _).alloc _⟩
  go_enter Tryz.func46, Tryz.ntmps46
  go_wp2_with fail
  go_ret
  exact ⟨_, rfl, HE.out⟩
theorem mk_chan (n : Nat) (hn : n ≤ 256) : ∀ w, (Instr.makeChan 165 (.int .i64 n)).run Tryz.prog w = .ok (.chan (some w.heap.size)) (w.alloc (.chan n #[] false 0 0 false)) := by
  intro w
  have hm : (Tryz.prog.info? 359).map (·.bytes) = some 0 := by kernel_rfl
  obtain ⟨i, hi, hb⟩ := Option.map_eq_some_iff.1 hm
  exact Go.Conc.run_makeChan (P := Tryz.prog) (w := w) Tryz.underlying165 hi .i64 n (by omega) (by rw [hb]; omega)
theorem mk_slice (n : Nat) (hn : n ≤ 256) : ∀ w, (Instr.makeSlice 365 (.int .i64 n) (.int .i64 n)).run Tryz.prog w = .ok (.slice (some ⟨w.heap.size, 0, none⟩) n n) (w.alloc (.cells (madeCells (.pointer none : Value).cells (n * 1)) 289)) := by
  intro w
  have hm : (Tryz.prog.info? 289).map (fun i => (i.zero, i.size, i.bytes)) = some (some (.pointer none), 1, 8) := by kernel_rfl
  obtain ⟨i, hi, h⟩ := Option.map_eq_some_iff.1 hm
  simp only [Prod.mk.injEq] at h
  have := run_make (P := Tryz.prog) w 365 289 i (.pointer none) Tryz.underlying365 hi h.1 .i64 .i64 n n (by omega) (by omega) (by rw [h.2.2]; omega) (by omega)
  rw [h.2.1] at this
  simpa using this
set_option maxHeartbeats 3200000 in
set_option maxRecDepth 100000 in
theorem ring_new (w : World) : Calls Tryz.prog 131 #[.int .i64 64] w fun e w' => ∃ v, e = .returned (.tuple #[.pointer (some ⟨v, 0, none⟩), .int .i64 0]) ∧ Keeps [] w w' := by
  have m1 : ∀ w, (Instr.makeChan 165 (.int .i64 64)).run Tryz.prog w = .ok (.chan (some w.heap.size)) (w.alloc (.chan 64 #[] false 0 0 false)) := mk_chan 64 (by omega)
  obtain ⟨X, m2⟩ : ∃ X, ∀ w, (Instr.makeSlice 365 (.int .i64 64) (.int .i64 64)).run Tryz.prog w = .ok (.slice (some ⟨w.heap.size, 0, none⟩) 64 64) (w.alloc (.cells X 289)) := ⟨_, mk_slice 64 (by omega)⟩
  go_enter Tryz.func131, Tryz.ntmps131
  go_wp2_with fail
  go_region
  all_goals
    go_wp2
    go_ret2
  all_goals exact ⟨_, rfl, ((((Keeps.refl _ _).alloc _).alloc _).alloc _).drew⟩
set_option maxHeartbeats 800000 in
set_option maxRecDepth 100000 in
theorem empty_new (w : World) : Calls Tryz.prog 80 #[] w fun e w' => (∃ v, e = .returned (.pointer (some ⟨v, 0, none⟩))) ∧ Keeps [] w w' := by
  go_enter Tryz.func80, Tryz.ntmps80
  go_wp2_with fail
  refine (ring_new _).mono ?_
  rintro e w' ⟨v, rfl, hk⟩
  have HK := Go.Lib.hid hk
  clear hk
  go_wp2_with fail
  go_ret
  exact ⟨⟨_, rfl⟩, HK.out⟩
set_option maxHeartbeats 800000 in
set_option maxRecDepth 100000 in
theorem batch_new (w : World) : Calls Tryz.prog 47 #[] w fun e w' => (∃ v, e = .returned (.pointer (some ⟨v, 0, none⟩))) ∧ Keeps [] w w' := by
  go_enter Tryz.func47, Tryz.ntmps47
  go_wp2_with fail
  refine (empty_new _).mono ?_
  rintro e w' ⟨⟨v, rfl⟩, hk⟩
  have HK := Go.Lib.hid hk
  clear hk
  go_wp2_with fail
  go_ret
  exact ⟨⟨_, rfl⟩, HK.out.alloc _⟩
end Go.Proofs.YtkhalpnonijogaaGreat
