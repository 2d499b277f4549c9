/- cmd.Sub of whatever numbers. No condition. | power.Wants: five periods, none above 250. No condition but the row's. -/
import Derived.Test.YtkhalpnonijogaaGreatX22
namespace Go.Proofs.YtkhalpnonijogaaGreat
open Go.RowKit
structure SubV (a b c d : Int) : Prop where
  a0 : 0 ≤ a
  a8 : a < 8
  b1 : 1 ≤ b
  b15 : b ≤ 15
  c1 : 1 ≤ c
  c1000 : c ≤ 1000
  d0 : 0 ≤ d
  d6 : d ≤ 60000
theorem SubV.yes {a b c d : Int} (h : SubV a b c d) (w : World) : Calls Tryz.prog 155 #[.agg #[.int .i64 a, .int .i64 b, .int .i64 c, .int .i64 d]] w (IsTrue w) := by
  obtain ⟨h1, h2, h3, h4, h5, h6, h7, h8⟩ := h
  obtain ⟨a, rfl⟩ := Int.eq_ofNat_of_zero_le h1
  obtain ⟨b, rfl⟩ := Int.eq_ofNat_of_zero_le (show 0 ≤ b by omega)
  obtain ⟨c, rfl⟩ := Int.eq_ofNat_of_zero_le (show 0 ≤ c by omega)
  obtain ⟨d, rfl⟩ := Int.eq_ofNat_of_zero_le h7
  exact csub_yes (x := ⟨a, b, c, d⟩) ⟨by simpa using (by omega : a < 8), by simp; omega, by simp; omega, by simp; omega, by simp; omega, by simp; omega⟩ w
def IsFalse (w : World) (e : Ending) (w' : World) : Prop := e = .returned (.bool false) ∧ Keeps [] w w'
theorem client_any (n : Int) (w : World) : Calls Tryz.prog 160 #[.int .i64 n] w fun e w' => e = .returned (.bool (decide (0 ≤ n ∧ n < 8))) ∧ w = w' := by
  by_cases h1 : 0 ≤ n
  · by_cases h2 : n < 8
    · have d1 : decide (0 ≤ n) = true := decide_eq_true h1
      have d2 : decide (n < 8) = true := decide_eq_true h2
      go_enter Tryz.func160, Tryz.ntmps160
      go_wp2_with fail
      go_ret
      exact ⟨by simp [h1, h2], rfl⟩
    · have d1 : decide (0 ≤ n) = true := decide_eq_true h1
      have d2 : decide (n < 8) = false := decide_eq_false h2
      go_enter Tryz.func160, Tryz.ntmps160
      go_wp2_with fail
      go_ret
      exact ⟨by simp, rfl⟩
  · have d1 : decide (0 ≤ n) = false := decide_eq_false h1
    go_enter Tryz.func160, Tryz.ntmps160
    go_wp2_with fail
    go_ret
    exact ⟨by simp, rfl⟩
theorem sensor_any (n : Int) (w : World) : Calls Tryz.prog 202 #[.int .i64 n] w fun e w' => e = .returned (.bool (decide (1 ≤ n ∧ n ≤ 15))) ∧ w = w' := by
  by_cases h1 : 1 ≤ n
  · by_cases h2 : n ≤ 15
    · have d1 : decide (1 ≤ n) = true := decide_eq_true h1
      have d2 : decide (n ≤ 15) = true := decide_eq_true h2
      go_enter Tryz.func202, Tryz.ntmps202
      go_wp2_with fail
      go_ret
      exact ⟨by simp [h1, h2], rfl⟩
    · have d1 : decide (1 ≤ n) = true := decide_eq_true h1
      have d2 : decide (n ≤ 15) = false := decide_eq_false h2
      go_enter Tryz.func202, Tryz.ntmps202
      go_wp2_with fail
      go_ret
      exact ⟨by simp, rfl⟩
  · have d1 : decide (1 ≤ n) = false := decide_eq_false h1
    go_enter Tryz.func202, Tryz.ntmps202
    go_wp2_with fail
    go_ret
    exact ⟨by simp, rfl⟩
set_option maxHeartbeats 1600000 in
theorem SubV.no {a b c d : Int} (h : ¬ SubV a b c d) (w : World) : Calls Tryz.prog 155 #[.agg #[.int .i64 a, .int .i64 b, .int .i64 c, .int .i64 d]] w (IsFalse w) := by
  have HC := Go.Lib.hid (client_any a)
  have HS := Go.Lib.hid (sensor_any b)
  by_cases h1 : 0 ≤ a ∧ a < 8
  · by_cases h2 : 1 ≤ b ∧ b ≤ 15
    · have hr : decide (1 ≤ c) = false ∨ (decide (1 ≤ c) = true ∧ decide (c ≤ 1000) = false) ∨ (decide (1 ≤ c) = true ∧ decide (c ≤ 1000) = true ∧ decide (0 ≤ d) = false) ∨ (decide (1 ≤ c) = true ∧ decide (c ≤ 1000) = true ∧ decide (0 ≤ d) = true ∧ decide (d ≤ 60000) = false) := by
        simp only [decide_eq_true_eq, decide_eq_false_iff_not]
        by_cases k1 : 1 ≤ c
        · by_cases k2 : c ≤ 1000
          · by_cases k3 : 0 ≤ d
            · exact .inr (.inr (.inr ⟨k1, k2, k3, fun k4 => h ⟨h1.1, h1.2, h2.1, h2.2, k1, k2, k3, k4⟩⟩))
            · exact .inr (.inr (.inl ⟨k1, k2, k3⟩))
          · exact .inr (.inl ⟨k1, k2⟩)
        · exact .inl k1
      have e1 : decide (0 ≤ a ∧ a < 8) = true := decide_eq_true h1
      have e2 : decide (1 ≤ b ∧ b ≤ 15) = true := decide_eq_true h2
      rw [e1] at HC
      rw [e2] at HS
      clear h h1 h2 e1 e2
      rcases hr with k1 | ⟨k1, k2⟩ | ⟨k1, k2, k3⟩ | ⟨k1, k2, k3, k4⟩
      all_goals
        go_enter Tryz.func155, Tryz.ntmps155
        go_wp2_with (first
          | (go_at_call 160; refine (HC.out _).mono ?_; rintro e w' ⟨rfl, rfl⟩)
          | (go_at_call 202; refine (HS.out _).mono ?_; rintro e w' ⟨rfl, rfl⟩))
        go_ret
        exact ⟨rfl, (Keeps.refl _ _).alloc _⟩
    · have e1 : decide (0 ≤ a ∧ a < 8) = true := decide_eq_true h1
      have e2 : decide (1 ≤ b ∧ b ≤ 15) = false := decide_eq_false h2
      rw [e1] at HC
      rw [e2] at HS
      clear h h1 h2 e1 e2
      go_enter Tryz.func155, Tryz.ntmps155
      go_wp2_with (first
        | (go_at_call 160; refine (HC.out _).mono ?_; rintro e w' ⟨rfl, rfl⟩)
        | (go_at_call 202; refine (HS.out _).mono ?_; rintro e w' ⟨rfl, rfl⟩))
      go_ret
      exact ⟨rfl, (Keeps.refl _ _).alloc _⟩
  · have e1 : decide (0 ≤ a ∧ a < 8) = false := decide_eq_false h1
    rw [e1] at HC
    clear h h1 e1 HS
    go_enter Tryz.func155, Tryz.ntmps155
    go_wp2_with (go_at_call 160; refine (HC.out _).mono ?_; rintro e w' ⟨rfl, rfl⟩)
    go_ret
    exact ⟨rfl, (Keeps.refl _ _).alloc _⟩
end Go.Proofs.YtkhalpnonijogaaGreat
namespace Go.Proofs.YtkhalpnonijogaaGreat
open Go.RowKit

/-- Five periods. -/
structure W5 (w : World) (x : Nat) : Prop where
  ex : ∃ arr : Array Value, w.heap[x]? = some (.cells arr 257 (0, 0)) ∧ arr.size = 5 ∧ ∀ k, k < 5 → ∃ v : Int, arr[k]? = some (.int .i64 v) ∧ 0 ≤ v ∧ v ≤ 250
theorem W5.keeps {S : List Nat} {w w' : World} {x : Nat} (h : W5 w x) (hk : Keeps S w w') (hx : x ∉ S) : W5 w' x := by
  obtain ⟨arr, h1, h2⟩ := h.ex
  exact ⟨arr, hk.heap h1 hx, h2⟩
theorem W5.set {w : World} {x k : Nat} {v : Int} (h : W5 w x) (hk : k < 5) (h0 : 0 ≤ v) (h1 : v ≤ 250) : W5 (w.setCell ⟨x, k, none⟩ (.int .i64 v)) x := by
  obtain ⟨arr, e1, e2, e3⟩ := h.ex
  refine ⟨_, heap_setCell_self e1, by simpa using e2, fun i hi => ?_⟩
  by_cases hik : k = i
  · subst hik
    exact ⟨v, by simp [e2, hk], h0, h1⟩
  · obtain ⟨u, g1, g2⟩ := e3 i hi
    exact ⟨u, by rw [Array.getElem?_setIfInBounds_ne hik]; exact g1, g2⟩
theorem W5.at_ {w : World} {x k : Nat} (h : W5 w x) (hk : k < 5) : ∃ v : Int, w.cell? ⟨x, k, none⟩ = some (.int .i64 v) ∧ w.frozen? ⟨x, k, none⟩ = false ∧ 0 ≤ v ∧ v ≤ 250 := by
  obtain ⟨arr, e1, e2, e3⟩ := h.ex
  obtain ⟨v, g1, g2⟩ := e3 k hk
  exact ⟨v, (cell_at e1 g1).1, (cell_at e1 g1).2, g2⟩
/-- The five cells by name. -/
theorem W5.all {w : World} {x : Nat} (h : W5 w x) : ∃ c0 c1 c2 c3 c4 : Int, w.heap[x]? = some (.cells #[.int .i64 c0, .int .i64 c1, .int .i64 c2, .int .i64 c3, .int .i64 c4] 257 (0, 0)) ∧ (0 ≤ c0 ∧ c0 ≤ 250) ∧ (0 ≤ c1 ∧ c1 ≤ 250) ∧ (0 ≤ c2 ∧ c2 ≤ 250) ∧ (0 ≤ c3 ∧ c3 ≤ 250) ∧ (0 ≤ c4 ∧ c4 ≤ 250) := by
  obtain ⟨arr, e1, e2, e3⟩ := h.ex
  obtain ⟨c0, a0, b0⟩ := e3 0 (by omega)
  obtain ⟨c1, a1, b1⟩ := e3 1 (by omega)
  obtain ⟨c2, a2, b2⟩ := e3 2 (by omega)
  obtain ⟨c3, a3, b3⟩ := e3 3 (by omega)
  obtain ⟨c4, a4, b4⟩ := e3 4 (by omega)
  refine ⟨c0, c1, c2, c3, c4, ?_, b0, b1, b2, b3, b4⟩
  rw [e1]
  congr 2
  apply Array.ext
  · simpa using e2
  · intro i h1 h2
    have hi : i < 5 := by simpa using h2
    rw [Array.getElem?_eq_getElem (by omega)] at a0 a1 a2 a3 a4
    obtain rfl | rfl | rfl | rfl | rfl : i = 0 ∨ i = 1 ∨ i = 2 ∨ i = 3 ∨ i = 4 := by omega
    · simpa using a0
    · simpa using a1
    · simpa using a2
    · simpa using a3
    · simpa using a4
theorem cells4 {w : World} {g : Nat} {c0 c1 c2 c3 : Value} {t : TypeId} (h : w.heap[g]? = some (.cells #[c0, c1, c2, c3] t (0, 0))) : w.cell? ⟨g, 0, none⟩ = some c0 ∧ w.cell? ⟨g, 1, none⟩ = some c1 ∧ w.cell? ⟨g, 2, none⟩ = some c2 ∧ w.cell? ⟨g, 3, none⟩ = some c3 := by
  simp [World.cell?, h]
theorem cells5 {w : World} {g : Nat} {c0 c1 c2 c3 c4 : Value} {t : TypeId} (h : w.heap[g]? = some (.cells #[c0, c1, c2, c3, c4] t (0, 0))) : w.cell? ⟨g, 0, none⟩ = some c0 ∧ w.cell? ⟨g, 1, none⟩ = some c1 ∧ w.cell? ⟨g, 2, none⟩ = some c2 ∧ w.cell? ⟨g, 3, none⟩ = some c3 ∧ w.cell? ⟨g, 4, none⟩ = some c4 := by
  simp [World.cell?, h]
theorem free5 {w : World} {g : Nat} {c0 c1 c2 c3 c4 : Value} {t : TypeId} (h : w.heap[g]? = some (.cells #[c0, c1, c2, c3, c4] t (0, 0))) : w.frozen? ⟨g, 0, none⟩ = false ∧ w.frozen? ⟨g, 1, none⟩ = false ∧ w.frozen? ⟨g, 2, none⟩ = false ∧ w.frozen? ⟨g, 3, none⟩ = false ∧ w.frozen? ⟨g, 4, none⟩ = false := by
  simp [World.frozen?, h]
def WantF (w : World) (e : Ending) (w' : World) : Prop := ∃ c0 c1 c2 c3 c4 z : Int, e = .returned (.tuple #[.agg #[.int .i64 c0, .int .i64 c1, .int .i64 c2, .int .i64 c3, .int .i64 c4], .int .i64 z]) ∧ (0 ≤ c0 ∧ c0 ≤ 250) ∧ (0 ≤ c1 ∧ c1 ≤ 250) ∧ (0 ≤ c2 ∧ c2 ≤ 250) ∧ (0 ≤ c3 ∧ c3 ≤ 250) ∧ (0 ≤ c4 ∧ c4 ≤ 250) ∧ Keeps [] w w'

set_option maxHeartbeats 6400000 in
set_option maxRecDepth 100000 in
theorem wants_ok {m B : Nat} {v : Value} {M : List Int} {w : World} (ho : w.ownsRow B 30 4 v m (ints M)) (hm : m ≤ 1000) :
    Calls Tryz.prog 109 #[v] w (WantF w) := by
  have hL : M.length = m * 4 := by have := ho.1; simpa [ints] using this
  obtain ⟨A, c, rfl⟩ := own_form ho
  obtain ⟨x, hx⟩ : ∃ x, x = w.heap.size := ⟨_, rfl⟩
  obtain ⟨w0, hw0⟩ : ∃ w0, w0 = w.alloc (.cells #[.int .i64 0, .int .i64 0, .int .i64 0, .int .i64 0, .int .i64 0] 257) := ⟨_, rfl⟩
  have hk0 : Keeps [] w w0 := by rw [hw0]; exact (Keeps.refl _ _).alloc _
  have hx0 : w0.heap[x]? = some (.cells #[.int .i64 0, .int .i64 0, .int .i64 0, .int .i64 0, .int .i64 0] 257 (0, 0)) := by rw [hw0, hx]; exact heap_alloc_new _ _
  have hW0 : W5 w0 x := ⟨_, hx0, rfl, fun k hk => ⟨0, by
    obtain rfl | rfl | rfl | rfl | rfl : k = 0 ∨ k = 1 ∨ k = 2 ∨ k = 3 ∨ k = 4 := by omega
    all_goals rfl, by omega, by omega⟩⟩
  have HO := Go.Lib.hid (own_new ho hk0)
  have HL := Go.Lib.hid hL
  have HW := Go.Lib.hid hw0
  have HX := Go.Lib.hid hx
  have HK0 := Go.Lib.hid hk0
  have HW0 := Go.Lib.hid hW0
  have HXW := Go.Lib.hid (Nat.le_of_eq hx.symm)
  have HL2 := Go.Lib.hid (fun (s : Nat) (h1 : 1 ≤ s) (h15 : s ≤ 15) (W : World) => needs_row h1 h15 W)
  clear ho hL hw0 hx hk0 hx0 hW0
  go_enter Tryz.func109, Tryz.ntmps109
  go_upto_region 2 with fail
  rw [← HW.out, ← HX.out]
  go_loopw [13] (fun sj wx => ∃ (j : Nat), j ≤ m ∧ sj = .int .i64 j ∧ Hid (W5 wx x) ∧ Hid (Keeps [x] w0 wx)) (fun sj _ => m - (intOf sj).toNat)
  case atStart => exact ⟨0, by omega, rfl, HW0, Go.Lib.hid (Keeps.refl _ _)⟩
  case round =>
    obtain ⟨j, hj, rfl, HWX, HKX⟩ := hrel
    clear HW HX
    by_cases hjm : j < m
    · have hx257 : ∀ (W : World), W5 W x → ∀ (i : Nat) (cs : Array Value) (t : TypeId) (fr : Nat × Nat), W.heap[i]? = some (.cells cs t fr) → t ≠ 257 → i ∉ [x] := fun W hW i cs t fr hi ht hm => by
        obtain ⟨arr, e1, _⟩ := hW.ex
        rw [List.mem_singleton.1 hm, e1] at hi
        simp only [Option.some.injEq, Obj.cells.injEq] at hi
        exact ht hi.2.1.symm
      have H257 := Go.Lib.hid hx257
      have hor := own_kept HO.out (fun i cs fr hi => HKX.out.heap hi (hx257 _ HW0.out i _ _ _ hi (by decide)))
      obtain ⟨g, rfl, _, hmc, _⟩ := own_at hor (by omega)
      have hl := HL.out
      obtain ⟨e0, q0⟩ := int_at hor (k := j * 4) (by omega)
      obtain ⟨e1, q1⟩ := int_at hor (k := j * 4 + 1) (by omega)
      obtain ⟨e2, q2⟩ := int_at hor (k := j * 4 + 2) (by omega)
      obtain ⟨e3, q3⟩ := int_at hor (k := j * 4 + 3) (by omega)
      clear hx257 hor hl
      go_upto_region 4 with fail
      obtain ⟨y, hy⟩ : ∃ y, y = wr.heap.size := ⟨_, rfl⟩
      obtain ⟨w1, hw1⟩ : ∃ w1, w1 = wr.alloc (.cells #[.int .i64 e0, .int .i64 e1, .int .i64 e2, .int .i64 e3] 30) := ⟨_, rfl⟩
      rw [← hw1, ← hy]
      have hk1 : Keeps [] wr w1 := by rw [hw1]; exact (Keeps.refl _ _).alloc _
      have hy1 : w1.heap[y]? = some (.cells #[.int .i64 e0, .int .i64 e1, .int .i64 e2, .int .i64 e3] 30 (0, 0)) := by rw [hw1, hy]; exact heap_alloc_new _ _
      have HK1 := Go.Lib.hid hk1
      have HY1 := Go.Lib.hid hy1
      obtain ⟨p0, p1, p2, p3⟩ := cells4 hy1
      clear hw1 hy hk1 hy1 q0 q1 q2 q3
      by_cases hv : SubV e0 e1 e2 e3
      · have HS := Go.Lib.hid hv.yes
        obtain ⟨_, _, s1, s15, c1, c1000, _, _⟩ := hv
        obtain ⟨s, hs⟩ := Int.eq_ofNat_of_zero_le (show 0 ≤ e1 by omega)
        have HN := Go.Lib.hid (HL2.out s (by omega) (by omega))
        rw [← hs] at HN
        clear hs
        go_wp2_with fail
        refine (HS.out _).mono ?_
        rintro e w2 ⟨rfl, hk2⟩
        have hy2 := hk2.heap HY1.out (by simp)
        obtain ⟨p0', p1', p2', p3'⟩ := cells4 hy2
        have HY2 := Go.Lib.hid hy2
        have HK2 := Go.Lib.hid (HK1.out.trans hk2)
        clear p0 p1 p2 p3 hk2 hy2 HS
        go_wp2_with fail
        refine (HN.out _).mono ?_
        rintro e w3 ⟨v3, xs, rfl, ho3, hx3, hl3, hk3⟩
        obtain ⟨A3, c3, rfl⟩ := own_form ho3
        have HO3 := Go.Lib.hid ho3
        have HX3 := Go.Lib.hid hx3
        have HK3 := Go.Lib.hid (HK2.out.trans hk3)
        have HY3 := Go.Lib.hid (hk3.heap HY2.out (by simp))
        have HW3 := Go.Lib.hid ((HWX.out.keeps HK2.out (by simp)).keeps hk3 (by simp))
        have hyx : Hid (y ∉ [x]) := Go.Lib.hid (H257.out _ HW3.out _ _ _ _ HY3.out (by decide))
        obtain ⟨n, hn⟩ : ∃ n, n = xs.length := ⟨_, rfl⟩
        rw [← hn] at HO3 hl3 ⊢
        have HN3 := Go.Lib.hid hn
        clear ho3 hx3 hk3 HN p0' p1' p2' p3' hn
        go_wp2_with fail
        go_loopw [29] (fun sj wx => ∃ (i : Nat), i ≤ n ∧ sj = .int .i64 i ∧ Hid (W5 wx x) ∧ Hid (Keeps [x] w3 wx)) (fun sj _ => n - (intOf sj).toNat)
        case atStart => exact ⟨0, by omega, rfl, HW3, Go.Lib.hid (Keeps.refl _ _)⟩
        case round =>
          obtain ⟨i, hi, rfl, HWI, HKI⟩ := hrel
          by_cases hin : i < n
          · have hoi := own_kept HO3.out (fun i' cs fr hi' => HKI.out.heap hi' (H257.out _ HW3.out _ _ _ _ hi' (by decide)))
            obtain ⟨g3, rfl, _, hmc3, _⟩ := own_at hoi (by omega)
            have hil : i < xs.length := by rw [← HN3.out]; exact hin
            have hqi := hoi.cells (g := g3) rfl i (.int .i64 xs[i]) (by simp [ints, List.getElem?_eq_getElem hil])
            rw [Addr.add_lit, Nat.zero_add] at hqi
            obtain ⟨b1, b5⟩ := HX3.out _ (List.getElem_mem hil)
            obtain ⟨k, hk⟩ : ∃ k : Nat, xs[i] = (k : Int) + 1 := ⟨(xs[i] - 1).toNat, by omega⟩
            rw [hk] at hqi b5
            have hk5 : k < 5 := by omega
            obtain ⟨v, vc, vf, v0, v250⟩ := HWI.out.at_ hk5
            obtain ⟨p0', p1', p2', p3'⟩ := cells4 (HKI.out.heap HY3.out hyx.out)
            have HHW := Go.Lib.hid (fun (nq : Nat) (z : Int) (h0 : 0 ≤ z) (h1 : z ≤ 250) => W5.set (w := wr.drewN nq) ⟨HWI.out.ex⟩ (v := z) hk5 h0 h1)
            clear hoi hil hk b1
            go_upto_region 11 with fail
            by_cases hz : v = 0
            · subst hz
              go_quiet (fail)
              go_wp2_with fail
              exact ⟨⟨i + 1, by omega, by go_num, Go.Lib.hid (HHW.out _ _ (by omega) (by omega)), Go.Lib.hid ((HKI.out.drewN _).setCell (by simp) _)⟩, by simp [intOf]; omega⟩
            · have hz' : (v == 0) = false := by simpa using hz
              by_cases hlt : e2 < v
              · have hlt' : decide (e2 < v) = true := decide_eq_true hlt
                go_quiet (fail)
                go_wp2_with fail
                exact ⟨⟨i + 1, by omega, by go_num, Go.Lib.hid (HHW.out _ _ (by omega) (by omega)), Go.Lib.hid ((HKI.out.drewN _).setCell (by simp) _)⟩, by simp [intOf]; omega⟩
              · have hlt' : decide (e2 < v) = false := decide_eq_false hlt
                go_quiet (fail)
                go_wp2_with fail
                exact ⟨⟨i + 1, by omega, by go_num, Go.Lib.hid ⟨HWI.out.ex⟩, Go.Lib.hid (HKI.out.drewN _)⟩, by simp [intOf]; omega⟩
          · obtain rfl : i = n := by omega
            go_wp2_with fail
            exact ⟨⟨j + 1, by omega, by go_num, HWI, Go.Lib.hid (HKX.out.trans ((HK3.out.mono (by simp)).trans HKI.out))⟩, by simp [intOf]; omega⟩
      · have HS := Go.Lib.hid (SubV.no hv)
        clear hv
        go_wp2_with fail
        refine (HS.out _).mono ?_
        rintro e w2 ⟨rfl, hk2⟩
        obtain ⟨c0, c1, c2, c3, c4, hh, b0, b1, b2, b3, b4⟩ := ((HWX.out.keeps HK1.out (by simp)).keeps hk2 (by simp)).all
        obtain ⟨r0, r1, r2, r3, r4⟩ := cells5 hh
        obtain ⟨f0, f1, f2, f3, f4⟩ := free5 hh
        have hxw := HXW.out
        have HKW : Hid (Keeps [] w w2) := Go.Lib.hid (((HK0.out.step HKX.out (by intro z hz; rw [List.mem_singleton.1 hz]; exact .inr hxw)).trans HK1.out).trans hk2)
        clear hh hk2 HS b0 b1 b2 b3 b4 p0 p1 p2 p3
        go_wp2_with fail
        refine bodyPost_ret (v := .tuple #[.agg #[.int .i64 0, .int .i64 0, .int .i64 0, .int .i64 0, .int .i64 0], .int .i64 1]) (by simp [results, Tryz.f109, go_sem, r0, r1, r2, r3, r4]) rfl ⟨0, 0, 0, 0, 0, 1, rfl, by omega, by omega, by omega, by omega, by omega, ?_⟩
        repeat (refine Keeps.setNew ?_ (by exact hxw) _)
        exact HKW.out
    · obtain rfl : j = m := by omega
      obtain ⟨c0, c1, c2, c3, c4, hh, b0, b1, b2, b3, b4⟩ := HWX.out.all
      obtain ⟨r0, r1, r2, r3, r4⟩ := cells5 hh
      obtain ⟨f0, f1, f2, f3, f4⟩ := free5 hh
      have hxw := HXW.out
      have HKW : Hid (Keeps [] w wr) := Go.Lib.hid (HK0.out.step HKX.out (by intro z hz; rw [List.mem_singleton.1 hz]; exact .inr hxw))
      have HBB := Go.Lib.hid (And.intro b0 (And.intro b1 (And.intro b2 (And.intro b3 b4))))
      clear hh b0 b1 b2 b3 b4
      go_wp2_with fail
      refine bodyPost_ret (v := .tuple #[.agg #[.int .i64 c0, .int .i64 c1, .int .i64 c2, .int .i64 c3, .int .i64 c4], .int .i64 0]) (by simp [results, Tryz.f109, go_sem, r0, r1, r2, r3, r4]) rfl ⟨c0, c1, c2, c3, c4, 0, rfl, HBB.out.1, HBB.out.2.1, HBB.out.2.2.1, HBB.out.2.2.2.1, HBB.out.2.2.2.2, ?_⟩
      repeat (refine Keeps.setNew ?_ (by exact hxw) _)
      exact HKW.out
end Go.Proofs.YtkhalpnonijogaaGreat
