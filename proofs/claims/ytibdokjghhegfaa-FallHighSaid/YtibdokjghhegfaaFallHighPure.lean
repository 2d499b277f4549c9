/- The plain law of FallHigh: for every list of asks the printed law answers true. No condition but that the numbers are 64-bit ones. -/
import Derived.Test.YtibdokjghhegfaaPFallHighx5
import Derived.Test.YtibdokjghhegfaaRd
namespace Go.Proofs.Ytibdokjghhegfaa.FallHighPure
open Go.RowKit Go.Proofs.Ytibdokjghhegfaa.PFallHigh Go.Proofs.Ytibdokjghhegfaa.Rdk Go.Proofs.YtibdokjghhegfaaW.PrintWords

def ok24 (x : S24) : Prop := -9223372036854775808 ≤ x.f2 ∧ x.f2 ≤ 9223372036854775807
def ok26 (x : S26) : Prop := ok24 x.f0 ∧ (-9223372036854775808 ≤ x.f1 ∧ x.f1 ≤ 9223372036854775807) ∧ (-9223372036854775808 ≤ x.f2 ∧ x.f2 ≤ 9223372036854775807)

theorem rd24 : Rd Try.prog 24 k24 ok24 :=
  rd_imp (rd_iso _ (fun a => S24.mk a.1 a.2.1 a.2.2) (fun _ => rfl)
    (rd_struct Try.underlying24 (by kernel_rfl) (rdF_cons (rd_bool Try.underlying4) rfl (by kernel_rfl) (rdF_cons (rd_bool Try.underlying4) rfl (by kernel_rfl) (rdF_last (rd_int Try.underlying2) rfl (by kernel_rfl))))))
    (fun _ h => wf_i64 h.2.2)

theorem rd26 : Rd Try.prog 26 k26 ok26 :=
  rd_imp (rd_iso _ (fun a => S26.mk a.1 a.2.1 a.2.2) (fun _ => rfl)
    (rd_struct Try.underlying26 (by kernel_rfl) (rdF_cons rd24 rfl (by kernel_rfl) (rdF_cons (rd_int Try.underlying2) rfl (by kernel_rfl) (rdF_last (rd_int Try.underlying2) rfl (by kernel_rfl))))))
    (fun _ h => ⟨h.1, wf_i64 h.2.1, wf_i64 h.2.2⟩)

def mayF (a b : Bool) (c m n : Int) : Prop := (0 ≤ c ∧ c ≤ 1099511627776) ∧ (a = true ∨ c = 0 ∧ b = false) ∧ (0 ≤ m ∧ m < 35184372088832) ∧ (0 ≤ n ∧ n ≤ 1099511627776) ∧ c ≤ n
instance (a b : Bool) (c m n : Int) : Decidable (mayF a b c m n) := by unfold mayF; infer_instance

def stepF (a b : Bool) (c m n : Int) : Bool × Bool × Int × Bool :=
  if m < 2451662 ∧ a = false then (true, false, n, false)
  else if m < 2451662 ∧ b = false ∧ n - c ≥ 100 then (a, true, c, true)
  else if m > 4903325 then (false, false, 0, false)
  else (a, b, c, false)

theorem take_eq (k : Nat) (a b : Bool) (c m n : Int) : fall_Take.f (k + 3) a b c m n =
    some (if mayF a b c m n then ((stepF a b c m n).1, (stepF a b c m n).2.1, (stepF a b c m n).2.2.1, (stepF a b c m n).2.2.2, 0) else (false, false, 0, false, 1)) := by
  have hw : (0 ≤ c ∧ c ≤ 1099511627776) → (0 ≤ n ∧ n ≤ 1099511627776) → wrap64 (n - c) = n - c := by
    intro h1 h2; unfold wrap64; omega
  simp only [fall_Take.f, fall_Take.j0, fall_Take.j1, fall_Take.j2, step_Time.f, fx_Good.f, fall_sides_int64.f, mayF, stepF]
  cases a <;> cases b <;> grind

theorem take_ok (k : Nat) {a b : Bool} {c m n : Int} (h : mayF a b c m n) : fall_Take.f (k + 3) a b c m n = some ((stepF a b c m n).1, (stepF a b c m n).2.1, (stepF a b c m n).2.2.1, (stepF a b c m n).2.2.2, 0) := by
  rw [take_eq, if_pos h]

theorem wakes_eq (k : Nat) : gimballaw20_wakes.f (k + 3) = some true := by
  unfold gimballaw20_wakes.f
  rw [take_eq]
  decide

theorem wrap_sm {i : Int} (h0 : 0 ≤ i) (h : i < 9223372036854775807) : wrap64 i = i := by
  unfold wrap64
  omega

theorem within (a n : Int) (h0 : 0 < n) (h1 : n < 4294967296) : ∃ r, gimballaw0_Within.f a n = some r ∧ 0 ≤ r ∧ r < n := by
  have hn : IntKind.u64.wrap n = n := by
    simp only [IntKind.wrap, show IntKind.u64.signed = false from rfl, show IntKind.u64.bits = 64 from rfl, Bool.false_and, Bool.false_eq_true, if_false]
    omega
  have ha : 0 ≤ IntKind.u64.wrap a := by
    simp only [IntKind.wrap, show IntKind.u64.signed = false from rfl, show IntKind.u64.bits = 64 from rfl, Bool.false_and, Bool.false_eq_true, if_false]
    omega
  unfold gimballaw0_Within.f
  rw [hn, if_neg (by omega), Int.tmod_eq_emod_of_nonneg ha]
  have h2 := Int.emod_nonneg (IntKind.u64.wrap a) (show n ≠ 0 by omega)
  have h3 := Int.emod_lt_of_pos (IntKind.u64.wrap a) h0
  exact ⟨_, rfl, by rw [wrap_sm h2 (by omega)]; exact h2, by rw [wrap_sm h2 (by omega)]; exact h3⟩

theorem loop (l : List S26) (d : Nat) : ∀ (k : Nat) (i now : Int), 0 ≤ i → i ≤ 80 → 80 - i = d → 0 ≤ now → now ≤ 99 * i →
    gimballaw20_FallHigh.l0 (k + 5 + 2 * d) l now i false false 0 false false 0 = some true := by
  induction d with
  | zero =>
    intro k i now h0 h1 hd _ _
    have e : i = 80 := by omega
    subst e
    obtain ⟨K, hK⟩ : ∃ K, K = k + 3 := ⟨_, rfl⟩
    rw [show k + 5 + 2 * 0 = K + 2 by omega]
    have hw : gimballaw20_wakes.f K = some true := by rw [hK, wakes_eq]
    simp only [gimballaw20_FallHigh.l0, gimballaw20_FallHigh.j1]
    split <;> simp [hw]
  | succ d ih =>
    intro k i now h0 h1 hd hn0 hn
    have e : k + 5 + 2 * (d + 1) = (k + 5 + 2 * d) + 2 := by omega
    rw [e]
    simp only [gimballaw20_FallHigh.l0, gimballaw20_FallHigh.j1]
    by_cases hlt : i < (l.length : Int)
    · rw [if_pos hlt, if_pos (by simp; omega), if_pos h0, if_pos hlt]
      generalize rd_T26 l i = x
      obtain ⟨r1, e1, r10, r11⟩ := within x.f2 99 (by omega) (by omega)
      obtain ⟨r2, e2, r20, r21⟩ := within x.f1 9806650 (by omega) (by omega)
      rw [e1, e2]
      simp only [Option.bind_some]
      rw [wrap_sm (i := now + r1) (by omega) (by omega), wrap_sm (i := 2451662 + r2) (by omega) (by omega), wrap_sm (i := i + 1) (by omega) (by omega)]
      have IH := ih k (i + 1) (now + r1) (by omega) (by omega) (by omega) (by omega) (by omega)
      have E : k + 5 + 2 * d = (k + 2 + 2 * d) + 3 := by omega
      have A := take_ok (k + 2 + 2 * d) (a := false) (b := false) (c := 0) (m := 2451662 + r2) (n := now + r1) ⟨by omega, by simp, by omega, by omega, by omega⟩
      have B := take_ok (k + 2 + 2 * d) (a := false) (b := false) (c := 0) (m := 0) (n := now + r1) ⟨by omega, by simp, by omega, by omega, by omega⟩
      have C := take_ok (k + 2 + 2 * d) (a := true) (b := false) (c := now + r1) (m := 9806650) (n := now + r1) ⟨by omega, by simp, by omega, by omega, by omega⟩
      rw [← E] at A B C
      have sA : stepF false false 0 (2451662 + r2) (now + r1) = (false, false, 0, false) := by
        unfold stepF
        rw [if_neg (by omega), if_neg (by omega)]
        split <;> rfl
      have sB : stepF false false 0 0 (now + r1) = (true, false, now + r1, false) := by simp [stepF]
      have sC : stepF true false (now + r1) 9806650 (now + r1) = (false, false, 0, false) := by simp [stepF]
      rw [sA] at A
      rw [sB] at B
      rw [sC] at C
      rw [A, B]
      simp only [Option.bind_some]
      rw [C]
      simp [gimballaw20_num.f, IH]
    · rw [if_neg hlt]
      have E : k + 5 + 2 * d = (k + 2 + 2 * d) + 3 := by omega
      simp only [Bool.false_eq_true, if_false]
      rw [E, wakes_eq]
      rfl

theorem law (l : List S26) (_h : ∀ v ∈ l, ok26 v) : ∃ k, gimballaw20_FallHigh.f k l = some true :=
  ⟨0 + 5 + 2 * 80, loop l 80 0 0 0 (by omega) (by omega) (by omega) (by omega) (by omega)⟩
end Go.Proofs.Ytibdokjghhegfaa.FallHighPure
