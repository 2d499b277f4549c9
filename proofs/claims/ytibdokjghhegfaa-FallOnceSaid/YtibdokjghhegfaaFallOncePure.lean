/- The plain law of FallOnce: for every list of asks the printed law answers true. No condition but that the numbers are 64-bit ones. -/
import Derived.Test.YtibdokjghhegfaaPFallOncex4
import Derived.Test.YtibdokjghhegfaaRd
namespace Go.Proofs.Ytibdokjghhegfaa.FallOncePure
open Go.RowKit Go.Proofs.Ytibdokjghhegfaa.PFallOnce Go.Proofs.Ytibdokjghhegfaa.Rdk Go.Proofs.YtibdokjghhegfaaW.PrintWords

def ok24 (x : S24) : Prop := -9223372036854775808 ≤ x.f2 ∧ x.f2 ≤ 9223372036854775807
def ok26 (x : S26) : Prop := ok24 x.f0 ∧ (-9223372036854775808 ≤ x.f1 ∧ x.f1 ≤ 9223372036854775807) ∧ (-9223372036854775808 ≤ x.f2 ∧ x.f2 ≤ 9223372036854775807)

theorem rd24 : Rd Try.prog 24 k24 ok24 :=
  rd_imp (rd_iso _ (fun a => S24.mk a.1 a.2.1 a.2.2) (fun _ => rfl)
    (rd_struct Try.underlying24 (by kernel_rfl) (rdF_cons (rd_bool Try.underlying4) rfl (by kernel_rfl) (rdF_cons (rd_bool Try.underlying4) rfl (by kernel_rfl) (rdF_last (rd_int Try.underlying2) rfl (by kernel_rfl))))))
    (fun _ h => wf_i64 h.2.2)

theorem rd26 : Rd Try.prog 26 k26 ok26 :=
  rd_imp (rd_iso _ (fun a => S26.mk a.1 a.2.1 a.2.2) (fun _ => rfl)
    (rd_struct Try.underlying26 (by kernel_rfl) (rdF_cons rd24 rfl (by kernel_rfl) (rdF_cons (rd_int Try.underlying2) rfl (by kernel_rfl) (rdF_last (rd_int Try.underlying2) rfl (by kernel_rfl))))))
    (fun _ h => ⟨h.1, wf_i64 h.2.1, wf_i64 h.2.2⟩)

def mayF (a b : Bool) (c m n : Int) : Prop := (0 ≤ c ∧ c ≤ 1099511627776) ∧ (a = true ∨ c = 0 ∧ b = false) ∧ (0 ≤ m ∧ m < 35184372088832) ∧ (0 ≤ n ∧ n ≤ 1099511627776) ∧ c ≤ n
instance (a b : Bool) (c m n : Int) : Decidable (mayF a b c m n) := by unfold mayF; infer_instance

def stepF (a b : Bool) (c m n : Int) : Bool × Bool × Int × Bool :=
  if m < 2451662 ∧ a = false then (true, false, n, false)
  else if m < 2451662 ∧ b = false ∧ n - c ≥ 100 then (a, true, c, true)
  else if m > 4903325 then (false, false, 0, false)
  else (a, b, c, false)

theorem take_eq (k : Nat) (a b : Bool) (c m n : Int) : fall_Take.f (k + 3) a b c m n =
    some (if mayF a b c m n then ((stepF a b c m n).1, (stepF a b c m n).2.1, (stepF a b c m n).2.2.1, (stepF a b c m n).2.2.2, 0) else (false, false, 0, false, 1)) := by
  have hw : (0 ≤ c ∧ c ≤ 1099511627776) → (0 ≤ n ∧ n ≤ 1099511627776) → wrap64 (n - c) = n - c := by
    intro h1 h2; unfold wrap64; omega
  simp only [fall_Take.f, fall_Take.j0, fall_Take.j1, fall_Take.j2, step_Time.f, fx_Good.f, fall_sides_int64.f, mayF, stepF]
  cases a <;> cases b <;> grind

theorem take_ok (k : Nat) {a b : Bool} {c m n : Int} (h : mayF a b c m n) : fall_Take.f (k + 3) a b c m n = some ((stepF a b c m n).1, (stepF a b c m n).2.1, (stepF a b c m n).2.2.1, (stepF a b c m n).2.2.2, 0) := by
  rw [take_eq, if_pos h]

theorem wakes_eq (k : Nat) : gimballaw20_wakes.f (k + 3) = some true := by
  unfold gimballaw20_wakes.f
  rw [take_eq]
  decide

theorem wrap_sm {i : Int} (h0 : 0 ≤ i) (h : i < 9223372036854775807) : wrap64 i = i := by
  unfold wrap64
  omega

theorem within (a n : Int) (h0 : 0 < n) (h1 : n < 4294967296) : ∃ r, gimballaw0_Within.f a n = some r ∧ 0 ≤ r ∧ r < n := by
  have hn : IntKind.u64.wrap n = n := by
    simp only [IntKind.wrap, show IntKind.u64.signed = false from rfl, show IntKind.u64.bits = 64 from rfl, Bool.false_and, Bool.false_eq_true, if_false]
    omega
  have ha : 0 ≤ IntKind.u64.wrap a := by
    simp only [IntKind.wrap, show IntKind.u64.signed = false from rfl, show IntKind.u64.bits = 64 from rfl, Bool.false_and, Bool.false_eq_true, if_false]
    omega
  unfold gimballaw0_Within.f
  rw [hn, if_neg (by omega), Int.tmod_eq_emod_of_nonneg ha]
  have h2 := Int.emod_nonneg (IntKind.u64.wrap a) (show n ≠ 0 by omega)
  have h3 := Int.emod_lt_of_pos (IntKind.u64.wrap a) h0
  exact ⟨_, rfl, by rw [wrap_sm h2 (by omega)]; exact h2, by rw [wrap_sm h2 (by omega)]; exact h3⟩

/-- What the page keeps beside: since when (-1: not), told, against the state. -/
def Inv (now since : Int) (told : Bool) (a b : Bool) (c : Int) : Prop :=
  0 ≤ now ∧ ((since = -1 ∧ told = false ∧ a = false ∧ b = false ∧ c = 0) ∨ (0 ≤ since ∧ since ≤ now ∧ a = true ∧ b = told ∧ c = since))

theorem loop (l : List S26) (d : Nat) : ∀ (k : Nat) (i now since c : Int) (told a b : Bool), 0 ≤ i → i ≤ 80 → 80 - i = d → now ≤ 60 * i → Inv now since told a b c →
    gimballaw20_FallOnce.l0 (k + 5 + 4 * d) l now since told i a b c = some true := by
  induction d with
  | zero =>
    intro k i now since c told a b h0 h1 hd _ _
    have e : i = 80 := by omega
    subst e
    simp only [gimballaw20_FallOnce.l0, gimballaw20_FallOnce.j1]
    split <;> simp [wakes_eq]
  | succ d ih =>
    intro k i now since c told a b h0 h1 hd hn hI
    have e : k + 5 + 4 * (d + 1) = (k + 5 + 4 * d) + 4 := by omega
    rw [e]
    simp only [gimballaw20_FallOnce.l0, gimballaw20_FallOnce.j1]
    by_cases hlt : i < (l.length : Int)
    · rw [if_pos hlt, if_pos (by simp; omega), if_pos h0, if_pos hlt]
      generalize rd_T26 l i = x
      obtain ⟨r1, e1, r10, r11⟩ := within x.f2 60 (by omega) (by omega)
      obtain ⟨r2, e2, r20, r21⟩ := within x.f1 3 (by omega) (by omega)
      obtain ⟨r3, e3, r30, r31⟩ := within x.f1 7 (by omega) (by omega)
      rw [e1, e2, e3]
      simp only [Option.bind_some]
      rw [if_pos r20, if_pos (by simp; omega), wrap_sm (i := now + r1) (by have := hI.1; omega) (by omega)]
      have J2 : ∀ m : Int, m = 0 ∨ m = 3268883 ∨ m = 9806650 → gimballaw20_FallOnce.j2 (k + 5 + 4 * d + 2) l (now + r1) since told i m a b c = some true := by
        intro m hm
        have hmay : mayF a b c m (now + r1) := by
          obtain ⟨hn0, h | h⟩ := hI
          · obtain ⟨rfl, rfl, rfl, rfl, rfl⟩ := h
            exact ⟨by omega, by simp, by omega, by omega, by omega⟩
          · obtain ⟨g1, g2, rfl, rfl, rfl⟩ := h
            exact ⟨by omega, by simp, by omega, by omega, by omega⟩
        have IH : ∀ since c told a b, Inv (now + r1) since told a b c → gimballaw20_FallOnce.l0 (k + 5 + 4 * d) l (now + r1) since told (i + 1) a b c = some true :=
          fun since c told a b => ih k (i + 1) (now + r1) since c told a b (by omega) (by omega) (by omega) (by omega)
        have E : k + 5 + 4 * d + 1 = (k + 3 + 4 * d) + 3 := by omega
        have EI : wrap64 (i + 1) = i + 1 := wrap_sm (by omega) (by omega)
        simp only [gimballaw20_FallOnce.j2]
        rw [E, take_ok _ hmay]
        simp only [Option.bind_some, gimballaw20_num.f, if_true]
        rw [← E]
        simp only [gimballaw20_FallOnce.j3, EI]
        obtain ⟨hn0, h | h⟩ := hI
        · obtain ⟨rfl, rfl, rfl, rfl, rfl⟩ := h
          rcases hm with rfl | rfl | rfl
          · have := IH (now + r1) (now + r1) false true false ⟨by omega, .inr ⟨by omega, by omega, rfl, rfl, rfl⟩⟩
            simp [stepF, this]
          · have := IH (-1) 0 false false false ⟨by omega, .inl ⟨rfl, rfl, rfl, rfl, rfl⟩⟩
            simp [stepF, this]
          · have := IH (-1) 0 false false false ⟨by omega, .inl ⟨rfl, rfl, rfl, rfl, rfl⟩⟩
            simp [stepF, this]
        · obtain ⟨g1, g2, rfl, rfl, rfl⟩ := h
          have W : wrap64 (now + r1 - c) = now + r1 - c := wrap_sm (by omega) (by omega)
          have g3 : ¬ c < 0 := by omega
          rw [W]
          rcases hm with rfl | rfl | rfl
          · cases b with
            | true =>
              have := IH c c true true true ⟨by omega, .inr ⟨by omega, by omega, rfl, rfl, rfl⟩⟩
              simp [stepF, this, g3, g1]
            | false =>
              by_cases q : now + r1 - c ≥ 100
              · have := IH c c true true true ⟨by omega, .inr ⟨by omega, by omega, rfl, rfl, rfl⟩⟩
                simp [stepF, this, g3, g1, q]
              · have := IH c c false true false ⟨by omega, .inr ⟨by omega, by omega, rfl, rfl, rfl⟩⟩
                simp [stepF, this, g3, g1, q]
          · have := IH c c b true b ⟨by omega, .inr ⟨by omega, by omega, rfl, rfl, rfl⟩⟩
            cases b <;> simp [stepF, this]
          · have := IH (-1) 0 false false false ⟨by omega, .inl ⟨rfl, rfl, rfl, rfl, rfl⟩⟩
            cases b <;> simp [stepF, this]
      split
      · exact J2 0 (.inl rfl)
      · have h3 : r2 = 0 ∨ r2 = 1 ∨ r2 = 2 := by omega
        rcases h3 with rfl | rfl | rfl
        · exact J2 0 (.inl rfl)
        · exact J2 3268883 (.inr (.inl rfl))
        · exact J2 9806650 (.inr (.inr rfl))
    · rw [if_neg hlt]
      have E : k + 5 + 4 * d + 2 = (k + 4 + 4 * d) + 3 := by omega
      simp only [Bool.false_eq_true, if_false]
      rw [E, wakes_eq]
      rfl

theorem law (l : List S26) (_h : ∀ v ∈ l, ok26 v) : ∃ k, gimballaw20_FallOnce.f k l = some true :=
  ⟨0 + 5 + 4 * 80, loop l 80 0 0 0 (-1) 0 false false false (by omega) (by omega) (by omega) (by omega) ⟨by omega, .inl ⟨rfl, rfl, rfl, rfl, rfl⟩⟩⟩
end Go.Proofs.Ytibdokjghhegfaa.FallOncePure
