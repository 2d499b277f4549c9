/- Small contracts of the laws over rings: a number brought within bounds, an error's number, and that a full ring drops ('wakes'). No condition. -/
import Derived.Test.YtoncobhjdplamaaRIntNew
import Derived.Test.YtoncobhjdplamaaRStrNew
namespace Go.Proofs.Ytoncobhjdplamaa
open Go.RowKit

theorem ret_int {k : IntKind} {a b : Int} (h : a = b) : Ending.returned (.int k a) = .returned (.int k b) := by rw [h]
def wthn (a n : Int) : Int := (a % 18446744073709551616) % n
theorem wthn_range (a : Int) {n : Int} (h0 : 0 < n) : 0 ≤ wthn a n ∧ wthn a n < n := ⟨Int.emod_nonneg _ (by omega), Int.emod_lt_of_pos _ h0⟩
theorem wthn_val (a n : Int) (h0 : 0 < n) (h1 : n < 4294967296) : wrap64 ((IntKind.u64.wrap a).tmod n) = wthn a n := by
  have ha : IntKind.u64.wrap a = a % 18446744073709551616 := by
    simp only [IntKind.wrap, show IntKind.u64.signed = false from rfl, show IntKind.u64.bits = 64 from rfl, Bool.false_and, Bool.false_eq_true, if_false]
    rfl
  have h2 : 0 ≤ a % 18446744073709551616 := Int.emod_nonneg _ (by omega)
  have h3 := wthn_range a h0
  rw [ha, Int.tmod_eq_emod_of_nonneg h2]
  unfold wthn at *
  unfold wrap64
  omega

theorem within (a n : Int) (h0 : 0 < n) (h1 : n < 4294967296) (w : World) :
    Calls Try.prog 6 #[.int .i64 a, .int .i64 n] w fun e w' => e = .returned (.int .i64 (wthn a n)) ∧ w = w' := by
  go_enter Try.func6, Try.ntmps6
  go_wp2
  go_ret
  exact ⟨ret_int (wthn_val a n h0 h1), rfl⟩

theorem num (a : Int) (w : World) :
    Calls Try.prog 9 #[.int .i64 a] w fun e w' => e = .returned (.int .i64 a) ∧ w = w' := by
  go_enter Try.func9, Try.ntmps9
  go_wp2
  go_ret
  exact ⟨rfl, rfl⟩

set_option maxHeartbeats 800000 in
theorem wakes (w : World) : Calls Try.prog 16 #[] w fun e w' => e = .returned (.bool true) ∧ Keeps [] w w' := by
  go_enter Try.func16, Try.ntmps16
  go_wp2_with fail
  refine (RInt.new_ok (n := 1) (by omega) (by omega) _).mono ?_
  rintro e w1 ⟨g, h, c, rfl, hr, hg, hh, hc, hk⟩
  go_wp2_with fail
  refine (num _ _).mono ?_
  rintro e w' ⟨rfl, rfl⟩
  go_wp2_with fail
  refine (RInt.push_room (x := 1) hr (by simp)).mono ?_
  rintro e w2 ⟨rfl, hr2, hk2⟩
  go_wp2_with fail
  refine (RInt.push_full (x := 2) (y := 1) (l := []) hr2 rfl).mono ?_
  rintro e w3 ⟨rfl, hr3, hk3⟩
  go_wp2_with fail
  refine (RInt.len hr3).mono ?_
  rintro e w' ⟨rfl, rfl⟩
  go_wp2
  go_ret
  refine ⟨rfl, (hk.step hk2 ?_).step hk3 ?_⟩
  · simp; omega
  · simp; omega
end Go.Proofs.Ytoncobhjdplamaa
