/- The plain law of FallExact: for every list of asks the printed law answers true. No condition but that the numbers are 64-bit ones. -/
import Derived.Test.YtibdokjghhegfaaPFallExactx4
import Derived.Test.YtibdokjghhegfaaRd
namespace Go.Proofs.Ytibdokjghhegfaa.FallExactPure
open Go.RowKit Go.Proofs.Ytibdokjghhegfaa.PFallExact Go.Proofs.Ytibdokjghhegfaa.Rdk Go.Proofs.YtibdokjghhegfaaW.PrintWords

def ok24 (x : S24) : Prop := -9223372036854775808 ≤ x.f2 ∧ x.f2 ≤ 9223372036854775807
def ok26 (x : S26) : Prop := ok24 x.f0 ∧ (-9223372036854775808 ≤ x.f1 ∧ x.f1 ≤ 9223372036854775807) ∧ (-9223372036854775808 ≤ x.f2 ∧ x.f2 ≤ 9223372036854775807)

theorem rd24 : Rd Try.prog 24 k24 ok24 :=
  rd_imp (rd_iso _ (fun a => S24.mk a.1 a.2.1 a.2.2) (fun _ => rfl)
    (rd_struct Try.underlying24 (by kernel_rfl) (rdF_cons (rd_bool Try.underlying4) rfl (by kernel_rfl) (rdF_cons (rd_bool Try.underlying4) rfl (by kernel_rfl) (rdF_last (rd_int Try.underlying2) rfl (by kernel_rfl))))))
    (fun _ h => wf_i64 h.2.2)

theorem rd26 : Rd Try.prog 26 k26 ok26 :=
  rd_imp (rd_iso _ (fun a => S26.mk a.1 a.2.1 a.2.2) (fun _ => rfl)
    (rd_struct Try.underlying26 (by kernel_rfl) (rdF_cons rd24 rfl (by kernel_rfl) (rdF_cons (rd_int Try.underlying2) rfl (by kernel_rfl) (rdF_last (rd_int Try.underlying2) rfl (by kernel_rfl))))))
    (fun _ h => ⟨h.1, wf_i64 h.2.1, wf_i64 h.2.2⟩)

def mayF (a b : Bool) (c m n : Int) : Prop := (0 ≤ c ∧ c ≤ 1099511627776) ∧ (a = true ∨ c = 0 ∧ b = false) ∧ (0 ≤ m ∧ m < 35184372088832) ∧ (0 ≤ n ∧ n ≤ 1099511627776) ∧ c ≤ n
instance (a b : Bool) (c m n : Int) : Decidable (mayF a b c m n) := by unfold mayF; infer_instance

def stepF (a b : Bool) (c m n : Int) : Bool × Bool × Int × Bool :=
  if m < 2451662 ∧ a = false then (true, false, n, false)
  else if m < 2451662 ∧ b = false ∧ n - c ≥ 100 then (a, true, c, true)
  else if m > 4903325 then (false, false, 0, false)
  else (a, b, c, false)

theorem take_eq (k : Nat) (a b : Bool) (c m n : Int) : fall_Take.f (k + 3) a b c m n =
    some (if mayF a b c m n then ((stepF a b c m n).1, (stepF a b c m n).2.1, (stepF a b c m n).2.2.1, (stepF a b c m n).2.2.2, 0) else (false, false, 0, false, 1)) := by
  have hw : (0 ≤ c ∧ c ≤ 1099511627776) → (0 ≤ n ∧ n ≤ 1099511627776) → wrap64 (n - c) = n - c := by
    intro h1 h2; unfold wrap64; omega
  simp only [fall_Take.f, fall_Take.j0, fall_Take.j1, fall_Take.j2, step_Time.f, fx_Good.f, fall_sides_int64.f, mayF, stepF]
  cases a <;> cases b <;> grind

theorem fall_eq (k : Nat) (a b : Bool) (c m n : Int) (h1 : 0 ≤ c ∧ c ≤ 1099511627776) (h2 : 0 ≤ n ∧ n ≤ 1099511627776) : gimbalref15_Fall.f (k + 2) a b c m n = some (stepF a b c m n) := by
  have hw : wrap64 (n - c) = n - c := by
    unfold wrap64; omega
  simp only [gimbalref15_Fall.f, gimbalref15_Fall.j0, gimbalref15_Fall.j1, stepF, hw]
  cases a <;> cases b <;> grind

theorem wakes_eq (k : Nat) : gimballaw20_wakes.f (k + 3) = some true := by
  unfold gimballaw20_wakes.f
  rw [take_eq]
  decide

theorem wrap_succ {i : Int} (h0 : 0 ≤ i) (h : i < 100) : wrap64 (i + 1) = i + 1 := by
  unfold wrap64
  omega

theorem loop (l : List S26) (d : Nat) : ∀ (k : Nat) (i : Int), 0 ≤ i → i ≤ 80 → 80 - i = d → gimballaw20_FallExact.l0 (k + 5 + 4 * d) l i = some true := by
  induction d with
  | zero =>
    intro k i h0 h1 hd
    have e : i = 80 := by omega
    subst e
    simp only [gimballaw20_FallExact.l0, gimballaw20_FallExact.j1]
    split <;> simp [wakes_eq]
  | succ d ih =>
    intro k i h0 h1 hd
    have e : k + 5 + 4 * (d + 1) = (k + 5 + 4 * d) + 4 := by omega
    rw [e]
    have hw := wrap_succ h0 (by omega)
    simp only [gimballaw20_FallExact.l0, gimballaw20_FallExact.j1]
    by_cases hlt : i < (l.length : Int)
    · rw [if_pos hlt, if_pos (by simp; omega), if_pos h0, if_pos hlt]
      generalize rd_T26 l i = x
      obtain ⟨⟨a, b, c⟩, m, n⟩ := x
      have E : k + 5 + 4 * d = (k + 4 * d + 2) + 3 := by omega
      have E2 : k + 5 + 4 * d + 1 = (k + 4 * d + 4) + 2 := by omega
      have IH := ih k (i + 1) (by omega) (by omega) (by omega)
      have J3 : ∀ (bad : Int) (so A B : Bool) (C : Int), (if mayF a b c m n then (A, B, C, so, bad) = ((stepF a b c m n).1, (stepF a b c m n).2.1, (stepF a b c m n).2.2.1, (stepF a b c m n).2.2.2, 0) else (A, B, C, so, bad) = (false, false, 0, false, 1)) →
          gimballaw20_FallExact.j3 (k + 5 + 4 * d + 1) l i bad so a b c m n A B C = some true := by
        intro bad so A B C h
        simp only [gimballaw20_FallExact.j3, gimballaw20_num.f]
        rw [hw, IH, E, take_eq]
        by_cases hm : mayF a b c m n
        · rw [if_pos hm] at h
          simp only [Prod.mk.injEq] at h
          obtain ⟨rfl, rfl, rfl, rfl, rfl⟩ := h
          simp [if_pos hm]
        · rw [if_neg hm] at h
          simp only [Prod.mk.injEq] at h
          obtain ⟨rfl, rfl, rfl, rfl, rfl⟩ := h
          simp [if_neg hm]
      have NO : ¬ mayF a b c m n → gimballaw20_FallExact.j2 (k + 5 + 4 * d + 2) l i 1 false false a b c m n false false 0 = some true := by
        intro hm
        simp only [gimballaw20_FallExact.j2]
        exact J3 _ _ _ _ _ (by rw [if_neg hm])
      have YES : ∀ q : Bool, (q = true ↔ mayF a b c m n) → gimballaw20_FallExact.j2 (k + 5 + 4 * d + 2) l i 1 false q a b c m n false false 0 = some true := by
        intro q hq
        by_cases hm : mayF a b c m n
        · obtain rfl : q = true := hq.2 hm
          simp only [gimballaw20_FallExact.j2]
          rw [E2, fall_eq _ _ _ _ _ _ hm.1 hm.2.2.2.1]
          simp only [Option.bind_some, if_true]
          rw [← E2]
          exact J3 _ _ _ _ _ (by rw [if_pos hm])
        · have : q = false := by
            cases q
            · rfl
            · exact absurd (hq.1 rfl) hm
          subst this
          exact NO hm
      have Y := YES (decide (n ≥ c))
      clear YES J3 IH ih
      simp only [gimbalref15_MayFall.f, gimbalref0_Time.f, gimbalref15_Mag.f, gimbalref1_May.f]
      generalize gimballaw20_FallExact.j2 (k + 5 + 4 * d + 2) l i 1 false false a b c m n false false 0 = u at NO ⊢
      generalize gimballaw20_FallExact.j2 (k + 5 + 4 * d + 2) l i 1 false (decide (n ≥ c)) a b c m n false false 0 = v at Y ⊢
      clear hw E E2 hlt hd h0 h1
      by_cases c1 : c ≥ 0
      · by_cases c2 : c ≤ 1099511627776
        · by_cases c3 : a = true ∨ c = 0 ∧ b = false
          · have e3 : (if a = true then (some true) else (if c = 0 then (some (!b)) else (some false))) = some true := by
              rcases c3 with rfl | ⟨rfl, rfl⟩ <;> simp
            rw [if_pos c1]
            simp only [Option.bind_some, c2, decide_true, if_true, e3]
            by_cases c4 : m ≥ 0
            · by_cases c5 : m < 35184372088832
              · by_cases c6 : n ≥ 0
                · by_cases c7 : n ≤ 1099511627776
                  · have hv := Y (by rw [decide_eq_true_iff]; unfold mayF; constructor <;> intro h <;> first | exact ⟨⟨c1, c2⟩, c3, ⟨c4, c5⟩, ⟨c6, c7⟩, h⟩ | exact h.2.2.2.2)
                    rw [if_pos c4, if_pos (by omega), if_pos c6]
                    simp only [Option.bind_some, c5, c7, decide_true, if_true, hv]
                  · have hu := NO (fun h => c7 h.2.2.2.1.2)
                    rw [if_pos c4, if_pos (by omega), if_pos c6]
                    simp [c5, c7, hu]
                · have hu := NO (fun h => c6 h.2.2.2.1.1)
                  rw [if_pos c4, if_pos (by omega), if_neg c6]
                  simp [c5, hu]
              · have hu := NO (fun h => c5 h.2.2.1.2)
                rw [if_pos c4, if_pos (by omega)]
                simp [c5, hu]
            · have hu := NO (fun h => c4 h.2.2.1.1)
              rw [if_neg c4]
              simp [hu]
          · have hu := NO (fun h => c3 h.2.1)
            have e3 : (if a = true then (some true) else (if c = 0 then (some (!b)) else (some false))) = some false := by
              cases a <;> cases b <;> simp_all
            rw [if_pos c1]
            simp only [Option.bind_some, c2, decide_true, if_true, e3, Bool.false_eq_true, if_false, hu]
        · have hu := NO (fun h => c2 h.1.2)
          rw [if_pos c1]
          simp [c2, hu]
      · have hu := NO (fun h => c1 h.1.1)
        rw [if_neg c1]
        simp [hu]
    · rw [if_neg hlt]
      have E : k + 5 + 4 * d + 2 = (k + 4 + 4 * d) + 3 := by omega
      simp only [Bool.false_eq_true, if_false]
      rw [E, wakes_eq]
      rfl

theorem law (l : List S26) (_h : ∀ v ∈ l, ok26 v) : ∃ k, gimballaw20_FallExact.f k l = some true :=
  ⟨0 + 5 + 4 * 80, loop l 80 0 0 (by omega) (by omega) (by omega)⟩
end Go.Proofs.Ytibdokjghhegfaa.FallExactPure
