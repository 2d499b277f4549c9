/- BatchReady, by the items alone. No condition but the wait's bounds; no program. -/
import Derived.Test.YtldnnkceeeinlaaBReady
import Derived.Test.YtldnnkceeeinlaaBDropsM
namespace Go.Proofs.Ytldnnkceeeinlaa
open Go.RowKit
def it0 (wt : Int) : It := ⟨⟨5, 100, 0, 0, 0, 0⟩, uOf 100 [3] [wt]⟩
def g2 : It := ⟨⟨5, 100, 0, 0, 0, 0⟩, uOf 100 [3, 6] [60000, 60000]⟩
def g3 : It := ⟨⟨5, 100, 0, 0, 0, 0⟩, [-1, -1, -1, -1, -1, -1, 60100, -1]⟩
def rm (wt : Int) (i : Nat) : List It := it0 wt :: List.replicate i g2
theorem rm_snoc (wt : Int) (i : Nat) : rm wt (i + 1) = rm wt i ++ [g2] := by simp [rm, List.replicate_succ']
theorem it0_u (wt : Int) : (it0 wt).u = [-1, -1, -1, 100 + wt, -1, -1, -1, -1] := by simp [it0, uOf, uFill, List.replicate_succ]
theorem g2_u : g2.u = [-1, -1, -1, 60100, -1, -1, 60100, -1] := by kernel_rfl
theorem pend3 (wt : Int) (i : Nat) (h1 : 1 ≤ wt) (h2 : wt ≤ 60000) : pend 3 (rm wt i) = (i + 1, 100 + wt) := by
  induction i with
  | zero => simp [pend, rm, it0_u, pstep]; omega
  | succ i ih =>
    rw [rm_snoc, pend_snoc, ih, g2_u]
    simp [pstep]
    omega
theorem pend6 (wt : Int) (i : Nat) : pend 6 (rm wt i) = (i, if i = 0 then 0 else 60100) := by
  induction i with
  | zero => simp [pend, rm, it0_u, pstep]
  | succ i ih =>
    rw [rm_snoc, pend_snoc, ih, g2_u]
    by_cases h : i = 0 <;> simp [pstep, h]
theorem pendO (wt : Int) (i c : Nat) (h8 : c < 8) (h3 : c ≠ 3) (h6 : c ≠ 6) : pend c (rm wt i) = (0, 0) := by
  have hc : c = 0 ∨ c = 1 ∨ c = 2 ∨ c = 4 ∨ c = 5 ∨ c = 7 := by omega
  induction i with
  | zero => rcases hc with rfl | rfl | rfl | rfl | rfl | rfl <;> simp [pend, rm, it0_u, pstep]
  | succ i ih =>
    rw [rm_snoc, pend_snoc, ih, g2_u]
    rcases hc with rfl | rfl | rfl | rfl | rfl | rfl <;> simp [pstep]
theorem rdyO (now wt : Int) (i c : Nat) (h8 : c < 8) (h3 : c ≠ 3) (h6 : c ≠ 6) : rdyB now (rm wt i) zeros c = false := by
  rw [rdyB, pendO wt i c h8 h3 h6]; rfl
theorem rdy3 (now wt : Int) (i : Nat) (h1 : 1 ≤ wt) (h2 : wt ≤ 60000) : rdyB now (rm wt i) zeros 3 = (decide (8 ≤ i + 1) || decide (100 + wt ≤ now)) := by
  rw [rdyB, pend3 wt i h1 h2]
  simp [zeros]
theorem rdy6 (now wt : Int) (i : Nat) : rdyB now (rm wt i) zeros 6 = (decide (8 ≤ i) || decide (0 < i) && decide (60100 ≤ now)) := by
  rw [rdyB, pend6 wt i]
  by_cases h : i = 0 <;> simp [zeros, h]
theorem ready_rm (now wt : Int) (i : Nat) (h1 : 1 ≤ wt) (h2 : wt ≤ 60000) :
    readyTo now (rm wt i) zeros 8 = (if (decide (8 ≤ i + 1) || decide (100 + wt ≤ now)) = true then [3] else []) ++ (if (decide (8 ≤ i) || decide (0 < i) && decide (60100 ≤ now)) = true then [6] else []) := by
  have r3 := rdy3 now wt i h1 h2
  have r6 := rdy6 now wt i
  simp only [readyTo, rdyO now wt i 0 (by omega) (by omega) (by omega), rdyO now wt i 1 (by omega) (by omega) (by omega), rdyO now wt i 2 (by omega) (by omega) (by omega), rdyO now wt i 4 (by omega) (by omega) (by omega),
    rdyO now wt i 5 (by omega) (by omega) (by omega), rdyO now wt i 7 (by omega) (by omega) (by omega), r3, r6]
  generalize (decide (8 ≤ i + 1) || decide (100 + wt ≤ now)) = a
  generalize (decide (8 ≤ i) || decide (0 < i) && decide (60100 ≤ now)) = b
  cases a <;> cases b <;> rfl
theorem r_before (wt : Int) (h1 : 1 ≤ wt) (h2 : wt ≤ 60000) : readyTo (100 + wt - 1) (rm wt 0) zeros 8 = [] := by
  rw [ready_rm _ _ _ h1 h2, if_neg (by simp; omega), if_neg (by simp)]; rfl
theorem r_at (wt : Int) (h1 : 1 ≤ wt) (h2 : wt ≤ 60000) : readyTo (100 + wt) (rm wt 0) zeros 8 = [3] := by
  rw [ready_rm _ _ _ h1 h2, if_pos (by simp), if_neg (by simp)]; rfl
theorem r_few (wt : Int) (i : Nat) (h1 : 1 ≤ wt) (h2 : wt ≤ 60000) (hi : i < 7) : readyTo 100 (rm wt i) zeros 8 = [] := by
  rw [ready_rm _ _ _ h1 h2, if_neg (by simp; omega), if_neg (by simp; omega)]; rfl
theorem r_full (wt : Int) (h1 : 1 ≤ wt) (h2 : wt ≤ 60000) : readyTo 100 (rm wt 7) zeros 8 = [3] := by
  rw [ready_rm _ _ _ h1 h2, if_pos (by simp), if_neg (by simp)]; rfl
theorem r_forget (wt : Int) : sweepM ((rm wt 7).map fun x => ⟨x.e, x.u.set 3 (-1)⟩) = List.replicate 7 g3 ∧ zeros.set 3 0 = zeros := by
  refine ⟨?_, by kernel_rfl⟩
  have e0 : waitsB ⟨(it0 wt).e, (it0 wt).u.set 3 (-1)⟩ = false := by rw [it0_u]; simp [waitsB]
  have e2 : (⟨g2.e, g2.u.set 3 (-1)⟩ : It) = g3 := by kernel_rfl
  rw [rm, List.map_cons, List.map_replicate, e2, sweepM, List.filter_cons, e0, if_neg (by simp)]
  rfl
theorem r_rest : readyTo 1099511627776 (List.replicate 7 g3) zeros 8 = [6] ∧ (pend 3 (List.replicate 7 g3)).1 = 0 := ⟨by kernel_rfl, by kernel_rfl⟩
theorem rm_put (wt : Int) (i : Nat) (hi : i < 7) : putM (rm wt i) g2 = rm wt (i + 1) ∧ lostM (rm wt i) zeros = zeros := by
  have hl : (rm wt i).length < 64 := by simp [rm]; omega
  exact ⟨by rw [putM, if_pos hl, rm_snoc], by rw [lostM, if_pos hl]⟩
theorem rm_first (wt : Int) : putM [] (it0 wt) = rm wt 0 ∧ lostM [] zeros = zeros := ⟨rfl, rfl⟩

/-- Two equal rows of numbers. -/
theorem eqnums {l : List Int} {A D : Option Addr} {n m c0 c1 : Nat} {w : World} (hn : n = l.length) (hm : m = l.length) (hA : Nums w A l) (hD : Nums w D l) (h9 : l.length ≤ 100000) :
    Calls Try.prog 17 #[.slice A n c0, .slice D m c1] w fun e w' => e = .returned (.bool true) ∧ Keeps [] w w' := by
  obtain rfl : m = n := by omega
  have HA := Go.Lib.hid hA
  have HD := Go.Lib.hid hD
  have HN := Go.Lib.hid hn
  have hm9 : m ≤ 100000 := by omega
  clear hA hD hn hm
  go_enter Try.func17, Try.ntmps17
  go_upto_region 4 with fail
  go_loopw [5] (fun i wr => ∃ k : Nat, i = .int .i64 k ∧ k ≤ m ∧ Hid (Keeps [] w wr)) (fun i _ => m - (intOf i).toNat)
  case atStart => exact ⟨0, rfl, Nat.zero_le _, Keeps.refl _ _⟩
  case round =>
    obtain ⟨k, rfl, hk, HK⟩ := hrel
    by_cases hlt : k < m
    · obtain ⟨x, hx⟩ : ∃ x, l[k]? = some x := ⟨_, List.getElem?_eq_getElem (by have := HN.out; omega)⟩
      obtain ⟨a, rfl, a0⟩ := (HA.out.keeps0 HK.out) k x hx
      obtain ⟨d, rfl, b0⟩ := (HD.out.keeps0 HK.out) k x hx
      have d1 : decide (k < m) = true := decide_eq_true hlt
      have HK2 : Hid (∀ n, Keeps [] w (wr.drewN n)) := fun n => HK.out.drewN n
      clear hx
      go_wp2_with fail
      go_quiet (fail)
      go_wp2_with fail
      exact ⟨⟨k + 1, by go_num, by omega, HK2.out _⟩, by simp [intOf]; omega⟩
    · have d1 : decide (k < m) = false := decide_eq_false hlt
      go_wp2_with fail
      go_ret
      exact ⟨rfl, HK.out⟩
end Go.Proofs.Ytldnnkceeeinlaa
