/- BatchDrops, by the items alone. No condition but the numbers' bounds; no program. -/
import Derived.Test.YtldnnkceeeinlaaBAct
namespace Go.Proofs.Ytldnnkceeeinlaa
def zeros : List Int := [0, 0, 0, 0, 0, 0, 0, 0]
def fit (j : Nat) : It := ⟨⟨5, j, 0, 0, 0, 0⟩, [-1, j, -1, -1, j, -1, -1, -1]⟩
def fit' (j : Nat) : It := ⟨⟨5, j, 0, 0, 0, 0⟩, [-1, -1, -1, -1, j, -1, -1, -1]⟩
def fm (i : Nat) : List It := (List.range i).map fit
def dm (k : Nat) : List It := (List.range 64).map fun j => if j < k then fit' j else fit j
def git : It := ⟨⟨5, 99, 0, 0, 0, 0⟩, [-1, -1, -1, -1, -1, -1, 99, -1]⟩
def gm (k i : Nat) : List It := (dm k).drop i ++ List.replicate i git
def gl (k i : Nat) : List Int := [0, ((i - k : Nat) : Int), 0, 0, (i : Int), 0, 0, 0]
theorem fm_put (i : Nat) (hi : i < 64) : putM (fm i) ⟨⟨5, i, 0, 0, 0, 0⟩, uOf i [1, 4] [0, 0]⟩ = fm (i + 1) ∧ lostM (fm i) zeros = zeros := by
  have hl : (fm i).length < 64 := by simpa [fm] using hi
  refine ⟨?_, by rw [lostM, if_pos hl]⟩
  rw [putM, if_pos hl, fm, fm, List.range_succ, List.map_append]
  simp [fit, uOf, uFill, List.replicate_succ]
theorem fm_dm : fm 64 = dm 0 := by simp [fm, dm]
theorem dm_take (i : Nat) (hi : i < 5) : takeM 1 1 (dm i) = ([⟨5, i, 0, 0, 0, 0⟩], dm (i + 1)) ∧ sweepM (dm (i + 1)) = dm (i + 1) := by
  rcases (show i = 0 ∨ i = 1 ∨ i = 2 ∨ i = 3 ∨ i = 4 by omega) with rfl | rfl | rfl | rfl | rfl <;> exact ⟨by kernel_rfl, by kernel_rfl⟩
theorem dm_gm (k : Nat) : dm k = gm k 0 := by simp [gm]
theorem gl_zero (k : Nat) : zeros = gl k 0 := by simp [gl, zeros]
theorem gm_put (k i : Nat) (hk : k < 6) (hi : i < 3) : putM (gm k i) ⟨⟨5, 99, 0, 0, 0, 0⟩, uOf 99 [6] [0]⟩ = gm k (i + 1) ∧ lostM (gm k i) (gl k i) = gl k (i + 1) ∧ (gm k (i + 1)).length = 64 := by
  rcases (show k = 0 ∨ k = 1 ∨ k = 2 ∨ k = 3 ∨ k = 4 ∨ k = 5 by omega) with rfl | rfl | rfl | rfl | rfl | rfl <;>
    (rcases (show i = 0 ∨ i = 1 ∨ i = 2 by omega) with rfl | rfl | rfl <;> exact ⟨by kernel_rfl, by kernel_rfl, by kernel_rfl⟩)
theorem gl_ok (k i : Nat) (hi : i < 4) : ∀ x ∈ gl k i, 0 ≤ x ∧ x < 1152921504606846976 := by
  simp only [gl, List.mem_cons, List.not_mem_nil, or_false]
  rintro x (rfl | rfl | rfl | rfl | rfl | rfl | rfl | rfl) <;> omega
end Go.Proofs.Ytldnnkceeeinlaa
