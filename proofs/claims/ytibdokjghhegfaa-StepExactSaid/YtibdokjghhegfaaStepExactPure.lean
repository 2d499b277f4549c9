/- The plain law of StepExact: for every list of asks the printed law answers true. No condition but that the numbers are 64-bit ones. -/
import Derived.Test.YtibdokjghhegfaaPStepExactx4
import Derived.Test.YtibdokjghhegfaaRd
namespace Go.Proofs.Ytibdokjghhegfaa.StepExactPure
open Go.RowKit Go.Proofs.Ytibdokjghhegfaa.PStepExact Go.Proofs.Ytibdokjghhegfaa.Rdk Go.Proofs.YtibdokjghhegfaaW.PrintWords

def ok41 (x : S41) : Prop := (-9223372036854775808 ≤ x.f1 ∧ x.f1 ≤ 9223372036854775807) ∧ (-9223372036854775808 ≤ x.f2 ∧ x.f2 ≤ 9223372036854775807)
def ok43 (x : S43) : Prop := ok41 x.f0 ∧ (-9223372036854775808 ≤ x.f1 ∧ x.f1 ≤ 9223372036854775807) ∧ (-9223372036854775808 ≤ x.f2 ∧ x.f2 ≤ 9223372036854775807)

theorem rd41 : Rd Try.prog 41 k41 ok41 :=
  rd_imp (rd_iso _ (fun a => S41.mk a.1 a.2.1 a.2.2) (fun _ => rfl)
    (rd_struct Try.underlying41 (by kernel_rfl) (rdF_cons (rd_bool Try.underlying4) rfl (by kernel_rfl) (rdF_cons (rd_int Try.underlying2) rfl (by kernel_rfl) (rdF_last (rd_int Try.underlying2) rfl (by kernel_rfl))))))
    (fun _ h => ⟨wf_i64 h.2.1, wf_i64 h.2.2⟩)

theorem rd43 : Rd Try.prog 43 k43 ok43 :=
  rd_imp (rd_iso _ (fun a => S43.mk a.1 a.2.1 a.2.2) (fun _ => rfl)
    (rd_struct Try.underlying43 (by kernel_rfl) (rdF_cons rd41 rfl (by kernel_rfl) (rdF_cons (rd_int Try.underlying2) rfl (by kernel_rfl) (rdF_last (rd_int Try.underlying2) rfl (by kernel_rfl))))))
    (fun _ h => ⟨h.1, wf_i64 h.2.1, wf_i64 h.2.2⟩)

def mayS (_a : Bool) (b c m n : Int) : Prop := (0 ≤ b ∧ b ≤ 1099511627776) ∧ (0 ≤ c ∧ c ≤ 1099511627776) ∧ (0 ≤ m ∧ m < 35184372088832) ∧ (0 ≤ n ∧ n ≤ 1099511627776) ∧ b ≤ n
instance (a : Bool) (b c m n : Int) : Decidable (mayS a b c m n) := by unfold mayS; infer_instance

def stepS (a : Bool) (b c m n : Int) : Bool × Int × Int × Bool × Int :=
  if a = false then (decide (m > 11032481), b, c, false, 0)
  else if m ≥ 9193735 then (true, b, c, false, 0)
  else if c > 0 ∧ n - b < 250 then (false, b, c, false, 0)
  else if c = 1099511627776 then (false, 0, 0, false, 4)
  else (false, n, c + 1, true, 0)

theorem take_eq (k : Nat) (a : Bool) (b c m n : Int) : step_Take.f (k + 2) a b c m n =
    some (if mayS a b c m n then ((stepS a b c m n).1, (stepS a b c m n).2.1, (stepS a b c m n).2.2.1, (stepS a b c m n).2.2.2.1, (stepS a b c m n).2.2.2.2) else (false, 0, 0, false, 1)) := by
  have hw : (0 ≤ b ∧ b ≤ 1099511627776) → (0 ≤ n ∧ n ≤ 1099511627776) → wrap64 (n - b) = n - b := by
    intro h1 h2; unfold wrap64; omega
  have hv : (0 ≤ c ∧ c ≤ 1099511627776) → wrap64 (c + 1) = c + 1 := by
    intro h1; unfold wrap64; omega
  simp only [step_Take.f, step_Take.j0, step_Take.j1, step_Time.f, fx_Good.f, step_sides_int64.f, mayS, stepS]
  cases a <;> grind

theorem take_ok (k : Nat) {a : Bool} {b c m n : Int} (h : mayS a b c m n) : step_Take.f (k + 2) a b c m n = some ((stepS a b c m n).1, (stepS a b c m n).2.1, (stepS a b c m n).2.2.1, (stepS a b c m n).2.2.2.1, (stepS a b c m n).2.2.2.2) := by
  rw [take_eq, if_pos h]

theorem wakes_eq (k : Nat) : gimballaw17_wakes.f (k + 2) = some true := by
  unfold gimballaw17_wakes.f
  rw [take_eq]
  simp [mayS, stepS, take_eq, gimballaw17_num.f]

theorem wrap_sm {i : Int} (h0 : 0 ≤ i) (h : i < 9223372036854775807) : wrap64 i = i := by
  unfold wrap64
  omega

theorem ref_eq (k : Nat) (a : Bool) (b c m n : Int) (h1 : 0 ≤ b ∧ b ≤ 1099511627776) (h2 : 0 ≤ n ∧ n ≤ 1099511627776) (h3 : 0 ≤ c ∧ c ≤ 1099511627776) : gimbalref15_Step.f (k + 1) a b c m n = some (stepS a b c m n) := by
  have hw : wrap64 (n - b) = n - b := by
    unfold wrap64; omega
  have hv : wrap64 (c + 1) = c + 1 := by
    unfold wrap64; omega
  simp only [gimbalref15_Step.f, gimbalref15_Step.j0, stepS, hw, hv]
  cases a <;> grind

theorem loop (l : List S43) (d : Nat) : ∀ (k : Nat) (i : Int), 0 ≤ i → i ≤ 80 → 80 - i = d → gimballaw17_StepExact.l0 (k + 5 + 4 * d) l i = some true := by
  induction d with
  | zero =>
    intro k i h0 h1 hd
    have e : i = 80 := by omega
    subst e
    obtain ⟨K, hK⟩ : ∃ K, K = k + 3 := ⟨_, rfl⟩
    rw [show k + 5 + 4 * 0 = K + 2 by omega]
    have hw : gimballaw17_wakes.f K = some true := by rw [hK, wakes_eq]
    simp only [gimballaw17_StepExact.l0, gimballaw17_StepExact.j1]
    split <;> simp [hw]
  | succ d ih =>
    intro k i h0 h1 hd
    have e : k + 5 + 4 * (d + 1) = (k + 5 + 4 * d) + 4 := by omega
    rw [e]
    have hw : wrap64 (i + 1) = i + 1 := wrap_sm (by omega) (by omega)
    simp only [gimballaw17_StepExact.l0, gimballaw17_StepExact.j1]
    by_cases hlt : i < (l.length : Int)
    · rw [if_pos hlt, if_pos (by simp; omega), if_pos h0, if_pos hlt]
      generalize rd_T43 l i = x
      obtain ⟨⟨a, b, c⟩, m, n⟩ := x
      have E : k + 5 + 4 * d = (k + 4 * d + 3) + 2 := by omega
      have E2 : k + 5 + 4 * d + 1 = (k + 4 * d + 5) + 1 := by omega
      have IH := ih k (i + 1) (by omega) (by omega) (by omega)
      have J3 : ∀ (bad : Int) (so A : Bool) (B C : Int), (if mayS a b c m n then (A, B, C, so, bad) = stepS a b c m n else (A, B, C, so, bad) = (false, 0, 0, false, 1)) →
          gimballaw17_StepExact.j3 (k + 5 + 4 * d + 1) l i bad so a b c m n A B C = some true := by
        intro bad so A B C h
        simp only [gimballaw17_StepExact.j3, gimballaw17_num.f]
        rw [hw, IH, E, take_eq]
        by_cases hm : mayS a b c m n
        · rw [if_pos hm] at h
          rw [← h]
          simp [if_pos hm]
        · rw [if_neg hm] at h
          simp only [Prod.mk.injEq] at h
          obtain ⟨rfl, rfl, rfl, rfl, rfl⟩ := h
          simp [if_neg hm]
      have NO : ¬ mayS a b c m n → gimballaw17_StepExact.j2 (k + 5 + 4 * d + 2) l i 1 false false a b c m n false 0 0 = some true := by
        intro hm
        simp only [gimballaw17_StepExact.j2]
        exact J3 _ _ _ _ _ (by rw [if_neg hm])
      have YES : ∀ q : Bool, (q = true ↔ mayS a b c m n) → gimballaw17_StepExact.j2 (k + 5 + 4 * d + 2) l i 1 false q a b c m n false 0 0 = some true := by
        intro q hq
        by_cases hm : mayS a b c m n
        · obtain rfl : q = true := hq.2 hm
          simp only [gimballaw17_StepExact.j2]
          rw [E2, ref_eq _ _ _ _ _ _ hm.1 hm.2.2.2.1 hm.2.1]
          simp only [Option.bind_some, if_true]
          rw [← E2]
          exact J3 _ _ _ _ _ (by rw [if_pos hm])
        · have : q = false := by
            cases q
            · rfl
            · exact absurd (hq.1 rfl) hm
          subst this
          exact NO hm
      have Y := YES (decide (n ≥ b))
      clear YES J3 IH ih
      simp only [gimbalref15_MayStep.f, gimbalref0_Time.f, gimbalref15_Mag.f, gimbalref1_May.f]
      generalize gimballaw17_StepExact.j2 (k + 5 + 4 * d + 2) l i 1 false false a b c m n false 0 0 = u at NO ⊢
      generalize gimballaw17_StepExact.j2 (k + 5 + 4 * d + 2) l i 1 false (decide (n ≥ b)) a b c m n false 0 0 = v at Y ⊢
      clear hw E E2 hlt hd h0 h1
      by_cases c1 : b ≥ 0
      · by_cases c2 : b ≤ 1099511627776
        · by_cases c3 : c ≥ 0
          · by_cases c3' : c ≤ 1099511627776
            · rw [if_pos c1, if_pos c3]
              simp only [Option.bind_some, c2, c3', decide_true, if_true]
              by_cases c4 : m ≥ 0
              · by_cases c5 : m < 35184372088832
                · by_cases c6 : n ≥ 0
                  · by_cases c7 : n ≤ 1099511627776
                    · have hv := Y (by rw [decide_eq_true_iff]; unfold mayS; constructor <;> intro h <;> first | exact ⟨⟨c1, c2⟩, ⟨c3, c3'⟩, ⟨c4, c5⟩, ⟨c6, c7⟩, h⟩ | exact h.2.2.2.2)
                      rw [if_pos c4, if_pos (by omega), if_pos c6]
                      simp only [Option.bind_some, c5, c7, decide_true, if_true, hv]
                    · have hu := NO (fun h => c7 h.2.2.2.1.2)
                      rw [if_pos c4, if_pos (by omega), if_pos c6]
                      simp [c5, c7, hu]
                  · have hu := NO (fun h => c6 h.2.2.2.1.1)
                    rw [if_pos c4, if_pos (by omega), if_neg c6]
                    simp [c5, hu]
                · have hu := NO (fun h => c5 h.2.2.1.2)
                  rw [if_pos c4, if_pos (by omega)]
                  simp [c5, hu]
              · have hu := NO (fun h => c4 h.2.2.1.1)
                rw [if_neg c4]
                simp [hu]
            · have hu := NO (fun h => c3' h.2.1.2)
              rw [if_pos c1, if_pos c3]
              simp [c2, c3', hu]
          · have hu := NO (fun h => c3 h.2.1.1)
            rw [if_pos c1, if_neg c3]
            simp [c2, hu]
        · have hu := NO (fun h => c2 h.1.2)
          rw [if_pos c1]
          simp [c2, hu]
      · have hu := NO (fun h => c1 h.1.1)
        rw [if_neg c1]
        simp [hu]
    · rw [if_neg hlt]
      have E : k + 5 + 4 * d + 2 = (k + 5 + 4 * d) + 2 := by omega
      simp only [Bool.false_eq_true, if_false]
      rw [E, wakes_eq]
      rfl

theorem law (l : List S43) (_h : ∀ v ∈ l, ok43 v) : ∃ k, gimballaw17_StepExact.f k l = some true :=
  ⟨0 + 5 + 4 * 80, loop l 80 0 0 (by omega) (by omega) (by omega)⟩
end Go.Proofs.Ytibdokjghhegfaa.StepExactPure
