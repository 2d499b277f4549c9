/- The plain law of StepApart: for every list of asks the printed law answers true. No condition but that the numbers are 64-bit ones. -/
import Derived.Test.YtibdokjghhegfaaPStepApartx2
import Derived.Test.YtibdokjghhegfaaRd
namespace Go.Proofs.Ytibdokjghhegfaa.StepApartPure
open Go.RowKit Go.Proofs.Ytibdokjghhegfaa.PStepApart Go.Proofs.Ytibdokjghhegfaa.Rdk Go.Proofs.YtibdokjghhegfaaW.PrintWords

def ok41 (x : S41) : Prop := (-9223372036854775808 ≤ x.f1 ∧ x.f1 ≤ 9223372036854775807) ∧ (-9223372036854775808 ≤ x.f2 ∧ x.f2 ≤ 9223372036854775807)
def ok43 (x : S43) : Prop := ok41 x.f0 ∧ (-9223372036854775808 ≤ x.f1 ∧ x.f1 ≤ 9223372036854775807) ∧ (-9223372036854775808 ≤ x.f2 ∧ x.f2 ≤ 9223372036854775807)

theorem rd41 : Rd Try.prog 41 k41 ok41 :=
  rd_imp (rd_iso _ (fun a => S41.mk a.1 a.2.1 a.2.2) (fun _ => rfl)
    (rd_struct Try.underlying41 (by kernel_rfl) (rdF_cons (rd_bool Try.underlying4) rfl (by kernel_rfl) (rdF_cons (rd_int Try.underlying2) rfl (by kernel_rfl) (rdF_last (rd_int Try.underlying2) rfl (by kernel_rfl))))))
    (fun _ h => ⟨wf_i64 h.2.1, wf_i64 h.2.2⟩)

theorem rd43 : Rd Try.prog 43 k43 ok43 :=
  rd_imp (rd_iso _ (fun a => S43.mk a.1 a.2.1 a.2.2) (fun _ => rfl)
    (rd_struct Try.underlying43 (by kernel_rfl) (rdF_cons rd41 rfl (by kernel_rfl) (rdF_cons (rd_int Try.underlying2) rfl (by kernel_rfl) (rdF_last (rd_int Try.underlying2) rfl (by kernel_rfl))))))
    (fun _ h => ⟨h.1, wf_i64 h.2.1, wf_i64 h.2.2⟩)

def mayS (_a : Bool) (b c m n : Int) : Prop := (0 ≤ b ∧ b ≤ 1099511627776) ∧ (0 ≤ c ∧ c ≤ 1099511627776) ∧ (0 ≤ m ∧ m < 35184372088832) ∧ (0 ≤ n ∧ n ≤ 1099511627776) ∧ b ≤ n
instance (a : Bool) (b c m n : Int) : Decidable (mayS a b c m n) := by unfold mayS; infer_instance

def stepS (a : Bool) (b c m n : Int) : Bool × Int × Int × Bool × Int :=
  if a = false then (decide (m > 11032481), b, c, false, 0)
  else if m ≥ 9193735 then (true, b, c, false, 0)
  else if c > 0 ∧ n - b < 250 then (false, b, c, false, 0)
  else if c = 1099511627776 then (false, 0, 0, false, 4)
  else (false, n, c + 1, true, 0)

theorem take_eq (k : Nat) (a : Bool) (b c m n : Int) : step_Take.f (k + 2) a b c m n =
    some (if mayS a b c m n then ((stepS a b c m n).1, (stepS a b c m n).2.1, (stepS a b c m n).2.2.1, (stepS a b c m n).2.2.2.1, (stepS a b c m n).2.2.2.2) else (false, 0, 0, false, 1)) := by
  have hw : (0 ≤ b ∧ b ≤ 1099511627776) → (0 ≤ n ∧ n ≤ 1099511627776) → wrap64 (n - b) = n - b := by
    intro h1 h2; unfold wrap64; omega
  have hv : (0 ≤ c ∧ c ≤ 1099511627776) → wrap64 (c + 1) = c + 1 := by
    intro h1; unfold wrap64; omega
  simp only [step_Take.f, step_Take.j0, step_Take.j1, step_Time.f, fx_Good.f, step_sides_int64.f, mayS, stepS]
  cases a <;> grind

theorem take_ok (k : Nat) {a : Bool} {b c m n : Int} (h : mayS a b c m n) : step_Take.f (k + 2) a b c m n = some ((stepS a b c m n).1, (stepS a b c m n).2.1, (stepS a b c m n).2.2.1, (stepS a b c m n).2.2.2.1, (stepS a b c m n).2.2.2.2) := by
  rw [take_eq, if_pos h]

theorem wakes_eq (k : Nat) : gimballaw17_wakes.f (k + 2) = some true := by
  unfold gimballaw17_wakes.f
  rw [take_eq]
  simp [mayS, stepS, take_eq, gimballaw17_num.f]

theorem wrap_sm {i : Int} (h0 : 0 ≤ i) (h : i < 9223372036854775807) : wrap64 i = i := by
  unfold wrap64
  omega

theorem within (a n : Int) (h0 : 0 < n) (h1 : n < 4294967296) : ∃ r, gimballaw0_Within.f a n = some r ∧ 0 ≤ r ∧ r < n := by
  have hn : IntKind.u64.wrap n = n := by
    simp only [IntKind.wrap, show IntKind.u64.signed = false from rfl, show IntKind.u64.bits = 64 from rfl, Bool.false_and, Bool.false_eq_true, if_false]
    omega
  have ha : 0 ≤ IntKind.u64.wrap a := by
    simp only [IntKind.wrap, show IntKind.u64.signed = false from rfl, show IntKind.u64.bits = 64 from rfl, Bool.false_and, Bool.false_eq_true, if_false]
    omega
  unfold gimballaw0_Within.f
  rw [hn, if_neg (by omega), Int.tmod_eq_emod_of_nonneg ha]
  have h2 := Int.emod_nonneg (IntKind.u64.wrap a) (show n ≠ 0 by omega)
  have h3 := Int.emod_lt_of_pos (IntKind.u64.wrap a) h0
  exact ⟨_, rfl, by rw [wrap_sm h2 (by omega)]; exact h2, by rw [wrap_sm h2 (by omega)]; exact h3⟩

/-- What the page keeps beside, against the state: the last step's time (-1: none), a rise since, the steps. -/
def Inv (i now last : Int) (rose : Bool) (n : Int) (a : Bool) (b c : Int) : Prop :=
  0 ≤ now ∧ now ≤ 200 * i ∧ c = n ∧ 0 ≤ n ∧ n ≤ i ∧ 0 ≤ b ∧ b ≤ now ∧ (a = true → rose = true) ∧ ((n = 0 ∧ last = -1) ∨ (n > 0 ∧ last = b))

theorem loop (l : List S43) (d : Nat) : ∀ (k : Nat) (i now last n b c : Int) (rose a : Bool), 0 ≤ i → i ≤ 80 → 80 - i = d → Inv i now last rose n a b c →
    gimballaw17_StepApart.l0 (k + 5 + 4 * d) l now last rose n i a b c = some true := by
  induction d with
  | zero =>
    intro k i now last n b c rose a h0 h1 hd _
    have e : i = 80 := by omega
    subst e
    obtain ⟨K, hK⟩ : ∃ K, K = k + 3 := ⟨_, rfl⟩
    rw [show k + 5 + 4 * 0 = K + 2 by omega]
    have hw : gimballaw17_wakes.f K = some true := by rw [hK, wakes_eq]
    simp only [gimballaw17_StepApart.l0, gimballaw17_StepApart.j1]
    split <;> simp [hw]
  | succ d ih =>
    intro k i now last n b c rose a h0 h1 hd hI
    have e : k + 5 + 4 * (d + 1) = (k + 5 + 4 * d) + 4 := by omega
    rw [e]
    simp only [gimballaw17_StepApart.l0, gimballaw17_StepApart.j1]
    by_cases hlt : i < (l.length : Int)
    · rw [if_pos hlt, if_pos (by simp; omega), if_pos h0, if_pos hlt]
      generalize rd_T43 l i = x
      obtain ⟨m, e1, r10, r11⟩ := within x.f1 29419950 (by omega) (by omega)
      obtain ⟨r2, e2, r20, r21⟩ := within x.f2 200 (by omega) (by omega)
      rw [e1, e2]
      simp only [Option.bind_some]
      obtain ⟨i1, i2, rfl, i4, i5, i6, i7, i8, i9⟩ := hI
      rw [wrap_sm (i := now + r2) (by omega) (by omega)]
      have J2 : ∀ rose' : Bool, (rose = true → rose' = true) → (m > 9806650 → rose' = true) → gimballaw17_StepApart.j2 (k + 5 + 4 * d + 2) l (now + r2) last rose' c i m a b c = some true := by
        intro rose' q1 q2
        have IH : ∀ last rose n a b c, Inv (i + 1) (now + r2) last rose n a b c → gimballaw17_StepApart.l0 (k + 5 + 4 * d) l (now + r2) last rose n (i + 1) a b c = some true :=
          fun last rose n a b c => ih k (i + 1) (now + r2) last n b c rose a (by omega) (by omega) (by omega)
        have E : k + 5 + 4 * d + 1 = (k + 4 + 4 * d) + 2 := by omega
        have E0 : k + 5 + 4 * d = (k + 3 + 4 * d) + 2 := by omega
        have EI : wrap64 (i + 1) = i + 1 := wrap_sm (by omega) (by omega)
        have EC : wrap64 (c + 1) = c + 1 := wrap_sm (by omega) (by omega)
        have J3 : ∀ last' rose'' a' b' c', stepS a' b' c' m (now + r2) = (a', b', c', false, 0) → Inv (i + 1) (now + r2) last' rose'' c' a' b' c' →
            gimballaw17_StepApart.j3 (k + 5 + 4 * d + 1) l (now + r2) last' rose'' c' i m a' b' c' = some true := by
          intro last' rose'' a' b' c' hs hI
          have hmay : mayS a' b' c' m (now + r2) := by
            obtain ⟨j1, j2, -, j4, j5, j6, j7, -, -⟩ := hI
            exact ⟨by omega, by omega, by omega, by omega, by omega⟩
          simp only [gimballaw17_StepApart.j3]
          rw [E0, take_ok _ hmay, hs, ← E0, EI]
          simp only [Option.bind_some, gimballaw17_num.f, if_true, Bool.false_eq_true, if_false]
          exact IH _ _ _ _ _ _ hI
        have hmay : mayS a b c m (now + r2) := ⟨by omega, by omega, by omega, by omega, by omega⟩
        simp only [gimballaw17_StepApart.j2]
        rw [E, take_ok _ hmay, ← E]
        simp only [Option.bind_some, gimballaw17_num.f]
        cases a with
        | false =>
          have s1 : stepS false b c m (now + r2) = (decide (m > 11032481), b, c, false, 0) := by simp [stepS]
          rw [s1]
          simp only [if_true, Bool.false_eq_true, if_false]
          refine J3 _ _ _ _ _ ?_ ⟨by omega, by omega, rfl, by omega, by omega, by omega, by omega, ?_, i9⟩
          · by_cases q : m > 11032481
            · have q' : m ≥ 9193735 := by omega
              simp [stepS, q, q']
            · simp [stepS, q]
          · intro q
            have : m > 11032481 := by simpa using q
            exact q2 (by omega)
        | true =>
          have hr := q1 (i8 rfl)
          by_cases c1 : m ≥ 9193735
          · have s1 : stepS true b c m (now + r2) = (true, b, c, false, 0) := by simp [stepS, c1]
            rw [s1]
            simp only [if_true, Bool.false_eq_true, if_false]
            exact J3 _ _ _ _ _ s1 ⟨by omega, by omega, rfl, by omega, by omega, by omega, by omega, fun _ => hr, i9⟩
          · have c3 : ¬ m > 11032481 := by omega
            have s2 : ∀ b c, stepS false b c m (now + r2) = (false, b, c, false, 0) := by
              intro b c
              simp [stepS, c3]
            by_cases c2 : c > 0 ∧ now + r2 - b < 250
            · have s1 : stepS true b c m (now + r2) = (false, b, c, false, 0) := by
                unfold stepS
                rw [if_neg (by simp), if_neg c1, if_pos c2]
              rw [s1]
              simp only [if_true, Bool.false_eq_true, if_false]
              exact J3 _ _ _ _ _ (s2 _ _) ⟨by omega, by omega, rfl, by omega, by omega, by omega, by omega, fun q => by simp at q, i9⟩
            · have s1 : stepS true b c m (now + r2) = (false, now + r2, c + 1, true, 0) := by
                unfold stepS
                rw [if_neg (by simp), if_neg c1, if_neg c2, if_neg (by omega)]
              have fin := J3 (now + r2) false false (now + r2) (c + 1) (s2 _ _) ⟨by omega, by omega, rfl, by omega, by omega, by omega, by omega, fun q => by simp at q, .inr ⟨by omega, rfl⟩⟩
              rw [s1]
              simp only [if_true]
              rw [if_pos hr, if_neg (by omega), EC]
              rcases i9 with ⟨_, rfl⟩ | ⟨g, rfl⟩
              · rw [if_neg (by omega)]
                exact fin
              · rw [if_pos (by omega), wrap_sm (by omega) (by omega), if_neg (by omega)]
                exact fin
      split
      · exact J2 true (fun _ => rfl) (fun _ => rfl)
      · rename_i hr
        exact J2 _ (fun q => absurd q hr) (fun q => by simpa using q)
    · rw [if_neg hlt]
      have E : k + 5 + 4 * d + 2 = (k + 5 + 4 * d) + 2 := by omega
      simp only [Bool.false_eq_true, if_false]
      rw [E, wakes_eq]
      rfl

theorem law (l : List S43) (_h : ∀ v ∈ l, ok43 v) : ∃ k, gimballaw17_StepApart.f k l = some true :=
  ⟨0 + 5 + 4 * 80, loop l 80 0 0 0 (-1) 0 0 0 false false (by omega) (by omega) (by omega) ⟨by omega, by omega, rfl, by omega, by omega, by omega, by omega, fun q => by simp at q, .inl ⟨rfl, rfl⟩⟩⟩
end Go.Proofs.Ytibdokjghhegfaa.StepApartPure
