/- The plain law of StepSteady: for every list of asks the printed law answers true. No condition but that the numbers are 64-bit ones. -/
import Derived.Test.YtibdokjghhegfaaPStepSteadyx2
import Derived.Test.YtibdokjghhegfaaRd
namespace Go.Proofs.Ytibdokjghhegfaa.StepSteadyPure
open Go.RowKit Go.Proofs.Ytibdokjghhegfaa.PStepSteady Go.Proofs.Ytibdokjghhegfaa.Rdk Go.Proofs.YtibdokjghhegfaaW.PrintWords

def ok41 (x : S41) : Prop := (-9223372036854775808 ≤ x.f1 ∧ x.f1 ≤ 9223372036854775807) ∧ (-9223372036854775808 ≤ x.f2 ∧ x.f2 ≤ 9223372036854775807)
def ok43 (x : S43) : Prop := ok41 x.f0 ∧ (-9223372036854775808 ≤ x.f1 ∧ x.f1 ≤ 9223372036854775807) ∧ (-9223372036854775808 ≤ x.f2 ∧ x.f2 ≤ 9223372036854775807)

theorem rd41 : Rd Try.prog 41 k41 ok41 :=
  rd_imp (rd_iso _ (fun a => S41.mk a.1 a.2.1 a.2.2) (fun _ => rfl)
    (rd_struct Try.underlying41 (by kernel_rfl) (rdF_cons (rd_bool Try.underlying4) rfl (by kernel_rfl) (rdF_cons (rd_int Try.underlying2) rfl (by kernel_rfl) (rdF_last (rd_int Try.underlying2) rfl (by kernel_rfl))))))
    (fun _ h => ⟨wf_i64 h.2.1, wf_i64 h.2.2⟩)

theorem rd43 : Rd Try.prog 43 k43 ok43 :=
  rd_imp (rd_iso _ (fun a => S43.mk a.1 a.2.1 a.2.2) (fun _ => rfl)
    (rd_struct Try.underlying43 (by kernel_rfl) (rdF_cons rd41 rfl (by kernel_rfl) (rdF_cons (rd_int Try.underlying2) rfl (by kernel_rfl) (rdF_last (rd_int Try.underlying2) rfl (by kernel_rfl))))))
    (fun _ h => ⟨h.1, wf_i64 h.2.1, wf_i64 h.2.2⟩)

def mayS (_a : Bool) (b c m n : Int) : Prop := (0 ≤ b ∧ b ≤ 1099511627776) ∧ (0 ≤ c ∧ c ≤ 1099511627776) ∧ (0 ≤ m ∧ m < 35184372088832) ∧ (0 ≤ n ∧ n ≤ 1099511627776) ∧ b ≤ n
instance (a : Bool) (b c m n : Int) : Decidable (mayS a b c m n) := by unfold mayS; infer_instance

def stepS (a : Bool) (b c m n : Int) : Bool × Int × Int × Bool × Int :=
  if a = false then (decide (m > 11032481), b, c, false, 0)
  else if m ≥ 9193735 then (true, b, c, false, 0)
  else if c > 0 ∧ n - b < 250 then (false, b, c, false, 0)
  else if c = 1099511627776 then (false, 0, 0, false, 4)
  else (false, n, c + 1, true, 0)

theorem take_eq (k : Nat) (a : Bool) (b c m n : Int) : step_Take.f (k + 2) a b c m n =
    some (if mayS a b c m n then ((stepS a b c m n).1, (stepS a b c m n).2.1, (stepS a b c m n).2.2.1, (stepS a b c m n).2.2.2.1, (stepS a b c m n).2.2.2.2) else (false, 0, 0, false, 1)) := by
  have hw : (0 ≤ b ∧ b ≤ 1099511627776) → (0 ≤ n ∧ n ≤ 1099511627776) → wrap64 (n - b) = n - b := by
    intro h1 h2; unfold wrap64; omega
  have hv : (0 ≤ c ∧ c ≤ 1099511627776) → wrap64 (c + 1) = c + 1 := by
    intro h1; unfold wrap64; omega
  simp only [step_Take.f, step_Take.j0, step_Take.j1, step_Time.f, fx_Good.f, step_sides_int64.f, mayS, stepS]
  cases a <;> grind

theorem take_ok (k : Nat) {a : Bool} {b c m n : Int} (h : mayS a b c m n) : step_Take.f (k + 2) a b c m n = some ((stepS a b c m n).1, (stepS a b c m n).2.1, (stepS a b c m n).2.2.1, (stepS a b c m n).2.2.2.1, (stepS a b c m n).2.2.2.2) := by
  rw [take_eq, if_pos h]

theorem wakes_eq (k : Nat) : gimballaw17_wakes.f (k + 2) = some true := by
  unfold gimballaw17_wakes.f
  rw [take_eq]
  simp [mayS, stepS, take_eq, gimballaw17_num.f]

theorem wrap_sm {i : Int} (h0 : 0 ≤ i) (h : i < 9223372036854775807) : wrap64 i = i := by
  unfold wrap64
  omega

theorem within (a n : Int) (h0 : 0 < n) (h1 : n < 4294967296) : ∃ r, gimballaw0_Within.f a n = some r ∧ 0 ≤ r ∧ r < n := by
  have hn : IntKind.u64.wrap n = n := by
    simp only [IntKind.wrap, show IntKind.u64.signed = false from rfl, show IntKind.u64.bits = 64 from rfl, Bool.false_and, Bool.false_eq_true, if_false]
    omega
  have ha : 0 ≤ IntKind.u64.wrap a := by
    simp only [IntKind.wrap, show IntKind.u64.signed = false from rfl, show IntKind.u64.bits = 64 from rfl, Bool.false_and, Bool.false_eq_true, if_false]
    omega
  unfold gimballaw0_Within.f
  rw [hn, if_neg (by omega), Int.tmod_eq_emod_of_nonneg ha]
  have h2 := Int.emod_nonneg (IntKind.u64.wrap a) (show n ≠ 0 by omega)
  have h3 := Int.emod_lt_of_pos (IntKind.u64.wrap a) h0
  exact ⟨_, rfl, by rw [wrap_sm h2 (by omega)]; exact h2, by rw [wrap_sm h2 (by omega)]; exact h3⟩

theorem loop (l : List S43) (d : Nat) : ∀ (k : Nat) (i now : Int) (up : Bool), 0 ≤ i → i ≤ 80 → 80 - i = d → 0 ≤ now → now ≤ 500 * i →
    gimballaw17_StepSteady.l0 (k + 5 + 2 * d) l now i false 0 0 up 0 0 = some true := by
  induction d with
  | zero =>
    intro k i now up h0 h1 hd _ _
    have e : i = 80 := by omega
    subst e
    obtain ⟨K, hK⟩ : ∃ K, K = k + 3 := ⟨_, rfl⟩
    rw [show k + 5 + 2 * 0 = K + 2 by omega]
    have hw : gimballaw17_wakes.f K = some true := by rw [hK, wakes_eq]
    simp only [gimballaw17_StepSteady.l0, gimballaw17_StepSteady.j1]
    split <;> simp [hw]
  | succ d ih =>
    intro k i now up h0 h1 hd hn0 hn
    have e : k + 5 + 2 * (d + 1) = (k + 5 + 2 * d) + 2 := by omega
    rw [e]
    simp only [gimballaw17_StepSteady.l0, gimballaw17_StepSteady.j1]
    by_cases hlt : i < (l.length : Int)
    · rw [if_pos hlt, if_pos (by simp; omega), if_pos h0, if_pos hlt]
      generalize rd_T43 l i = x
      obtain ⟨r1, e1, r10, r11⟩ := within x.f2 500 (by omega) (by omega)
      obtain ⟨r2, e2, r20, r21⟩ := within x.f1 11032482 (by omega) (by omega)
      rw [e1, e2]
      simp only [Option.bind_some]
      rw [wrap_sm (i := now + r1) (by omega) (by omega), wrap_sm (i := 9193735 + r2) (by omega) (by omega), wrap_sm (i := i + 1) (by omega) (by omega)]
      have IH := fun up => ih k (i + 1) (now + r1) up (by omega) (by omega) (by omega) (by omega) (by omega)
      have E : k + 5 + 2 * d = (k + 3 + 2 * d) + 2 := by omega
      have A := take_ok (k + 3 + 2 * d) (a := false) (b := 0) (c := 0) (m := r2) (n := now + r1) ⟨by omega, by omega, by omega, by omega, by omega⟩
      have B := take_ok (k + 3 + 2 * d) (a := up) (b := 0) (c := 0) (m := 9193735 + r2) (n := now + r1) ⟨by omega, by omega, by omega, by omega, by omega⟩
      rw [← E] at A B
      have q : ¬ r2 > 11032481 := by omega
      have sA : stepS false 0 0 r2 (now + r1) = (false, 0, 0, false, 0) := by simp [stepS, q]
      have sB : ∃ up', stepS up 0 0 (9193735 + r2) (now + r1) = (up', 0, 0, false, 0) := by
        cases up with
        | false => exact ⟨_, by simp [stepS]; rfl⟩
        | true => exact ⟨true, by unfold stepS; rw [if_neg (by simp), if_pos (by omega)]⟩
      obtain ⟨up', sB⟩ := sB
      rw [sA] at A
      rw [sB] at B
      rw [A, B]
      have w0 : wrap64 0 = 0 := wrap_sm (by omega) (by omega)
      simp [gimballaw17_num.f, IH, w0]
    · rw [if_neg hlt]
      have E : k + 5 + 2 * d = (k + 3 + 2 * d) + 2 := by omega
      simp only [Bool.false_eq_true, if_false]
      rw [E, wakes_eq]
      rfl

theorem law (l : List S43) (_h : ∀ v ∈ l, ok43 v) : ∃ k, gimballaw17_StepSteady.f k l = some true :=
  ⟨0 + 5 + 2 * 80, loop l 80 0 0 0 false (by omega) (by omega) (by omega) (by omega) (by omega)⟩
end Go.Proofs.Ytibdokjghhegfaa.StepSteadyPure
