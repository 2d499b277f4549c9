/- What is no form of a call: 'Take', 'Forget', 'Ready', 'Pending', 'Losses' say so. No condition. -/
import Derived.Test.YtldnnkceeeinlaaBNo
namespace Go.Proofs.Ytldnnkceeeinlaa
open Go.RowKit

theorem take_bad {w : World} {c n : Int} (q : Nat) (hn : 1 ≤ n) (h : ¬ (0 ≤ c ∧ c < 8) ∨ 5 < n) (hn7 : n ≤ 7) :
    Calls Try.prog 13 #[.pointer (some ⟨q, 0, none⟩), .int .i64 c, .int .i64 n] w fun e w' => e = .returned (.tuple #[.agg #[.int .i64 0, .int .i64 0, .slice none 0 0], .int .i64 1]) ∧ Keeps [] w w' := by
  go_enter Try.func13, Try.ntmps13
  by_cases hc : 0 ≤ c ∧ c < 8
  · obtain ⟨cn, rfl⟩ : ∃ cn : Nat, c = cn := ⟨c.toNat, by omega⟩
    have hc8 : cn < 8 := by omega
    have h5 : 5 < n := by omega
    have d1 : decide (n < 1) = false := decide_eq_false (by omega)
    have d2 : decide (5 < n) = true := decide_eq_true h5
    clear hc h
    go_wp2_with fail
    refine (client_yes hc8 _).mono ?_
    rintro e w' ⟨rfl, rfl⟩
    go_wp2_with fail
    refine bodyPost_ret (v := .tuple #[.agg #[.int .i64 0, .int .i64 0, .slice none 0 0], .int .i64 1]) (by simp [results, Try.f13, go_sem]) rfl ?_
    exact ⟨rfl, (((Keeps.refl _ _).alloc _).alloc _).alloc _⟩
  · clear h
    go_wp2_with fail
    refine (client_no (c := c) (by omega) _).mono ?_
    rintro e w' ⟨rfl, rfl⟩
    go_wp2_with fail
    refine bodyPost_ret (v := .tuple #[.agg #[.int .i64 0, .int .i64 0, .slice none 0 0], .int .i64 1]) (by simp [results, Try.f13, go_sem]) rfl ?_
    exact ⟨rfl, (((Keeps.refl _ _).alloc _).alloc _).alloc _⟩
theorem forget_bad {w : World} {c : Int} (q : Nat) (h : ¬ (0 ≤ c ∧ c < 8)) :
    Calls Try.prog 18 #[.pointer (some ⟨q, 0, none⟩), .int .i64 c] w fun e w' => e = .returned (.int .i64 1) ∧ Keeps [] w w' := by
  go_enter Try.func18, Try.ntmps18
  go_wp2_with fail
  refine (client_no (c := c) (by omega) _).mono ?_
  rintro e w' ⟨rfl, rfl⟩
  go_wp2
  go_ret
  exact ⟨rfl, (Keeps.refl _ _).alloc _⟩
theorem pending_bad {w : World} {c : Int} (q : Nat) (h : ¬ (0 ≤ c ∧ c < 8)) :
    Calls Try.prog 15 #[.pointer (some ⟨q, 0, none⟩), .int .i64 c] w fun e w' => e = .returned (.tuple #[.int .i64 0, .int .i64 1]) ∧ w = w' := by
  go_enter Try.func15, Try.ntmps15
  go_wp2_with fail
  refine (client_no (c := c) (by omega) _).mono ?_
  rintro e w' ⟨rfl, rfl⟩
  go_wp2
  go_ret2
  exact ⟨rfl, rfl⟩
theorem losses_bad {w : World} {c : Int} (q : Nat) (h : ¬ (0 ≤ c ∧ c < 8)) :
    Calls Try.prog 10 #[.pointer (some ⟨q, 0, none⟩), .int .i64 c] w fun e w' => e = .returned (.tuple #[.int .i64 0, .int .i64 1]) ∧ w = w' := by
  go_enter Try.func10, Try.ntmps10
  go_wp2_with fail
  refine (client_no (c := c) (by omega) _).mono ?_
  rintro e w' ⟨rfl, rfl⟩
  go_wp2
  go_ret2
  exact ⟨rfl, rfl⟩
theorem ready_bad {w : World} {t : Int} (q : Nat) (h : t < 0 ∨ 1099511627776 < t) :
    Calls Try.prog 16 #[.pointer (some ⟨q, 0, none⟩), .int .i64 t] w fun e w' => e = .returned (.tuple #[.slice none 0 0, .int .i64 1]) ∧ w = w' := by
  have HT := Go.Lib.hid (time_no h w)
  clear h
  go_enter Try.func16, Try.ntmps16
  go_wp2_with fail
  refine HT.out.mono ?_
  rintro e w' ⟨rfl, rfl⟩
  go_wp2
  go_ret2
  exact ⟨rfl, rfl⟩
end Go.Proofs.Ytldnnkceeeinlaa
