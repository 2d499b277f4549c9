/- The queue's short calls: New, Losses, Len, and what they lean on. No condition but the queue's own. -/
import Derived.Test.YtldnnkceeeinlaaBData
import Derived.Test.YtldnnkceeeinlaaRPtrAll
import Derived.Deep.CutBlock
import Derived.Deep.CutRange
namespace Go.Proofs.Ytldnnkceeeinlaa
open Go.RowKit

theorem client_yes {c : Nat} (hc : c < 8) (w : World) : Calls Try.prog 35 #[.int .i64 c] w fun e w' => e = .returned (.bool true) ∧ w = w' := by
  have d1 : decide (c < 8) = true := decide_eq_true hc
  have d2 : decide ((c : Int) < 8) = true := decide_eq_true (by omega)
  go_enter Try.func35, Try.ntmps35
  go_wp2
  go_ret
  exact ⟨rfl, rfl⟩
theorem client_no {c : Int} (hc : c < 0 ∨ 8 ≤ c) (w : World) : Calls Try.prog 35 #[.int .i64 c] w fun e w' => e = .returned (.bool false) ∧ w = w' := by
  by_cases h0 : 0 ≤ c
  · have d1 : decide (0 ≤ c) = true := decide_eq_true h0
    have d2 : decide (c < 8) = false := decide_eq_false (by omega)
    go_enter Try.func35, Try.ntmps35
    go_wp2
    go_ret
    exact ⟨rfl, rfl⟩
  · have d1 : decide (0 ≤ c) = false := decide_eq_false h0
    go_enter Try.func35, Try.ntmps35
    go_wp2
    go_ret
    exact ⟨rfl, rfl⟩
theorem time_yes {t : Int} (h0 : 0 ≤ t) (h1 : t ≤ 1099511627776) (w : World) : Calls Try.prog 33 #[.int .i64 t] w fun e w' => e = .returned (.bool true) ∧ w = w' := by
  have d1 : decide (0 ≤ t) = true := decide_eq_true h0
  have d2 : decide (t ≤ 1099511627776) = true := decide_eq_true h1
  go_enter Try.func33, Try.ntmps33
  go_wp2
  go_ret
  exact ⟨rfl, rfl⟩
theorem time_no {t : Int} (h : t < 0 ∨ 1099511627776 < t) (w : World) : Calls Try.prog 33 #[.int .i64 t] w fun e w' => e = .returned (.bool false) ∧ w = w' := by
  by_cases h0 : 0 ≤ t
  · have d1 : decide (0 ≤ t) = true := decide_eq_true h0
    have d2 : decide (t ≤ 1099511627776) = false := decide_eq_false (by omega)
    go_enter Try.func33, Try.ntmps33
    go_wp2
    go_ret
    exact ⟨rfl, rfl⟩
  · have d1 : decide (0 ≤ t) = false := decide_eq_false h0
    go_enter Try.func33, Try.ntmps33
    go_wp2
    go_ret
    exact ⟨rfl, rfl⟩

theorem empty (w : World) : Calls Try.prog 31 #[] w fun e w' => ∃ g h c, e = .returned (.pointer (some ⟨g, 0, none⟩)) ∧ RPtr.Is w' g h c 64 [] ∧ w.heap.size ≤ g ∧ w.heap.size ≤ h ∧ w.heap.size ≤ c ∧ Keeps [] w w' := by
  go_enter Try.func31, Try.ntmps31
  go_wp2_with fail
  refine (RPtr.new_ok (n := 64) (by omega) (by omega) _).mono ?_
  rintro e w1 ⟨g, h, c, rfl, hr, hg, hh, hc, hk⟩
  go_wp2
  go_ret
  exact ⟨g, h, c, rfl, hr, hg, hh, hc, hk⟩

theorem new (w : World) : Calls Try.prog 7 #[] w fun e w' => ∃ q, e = .returned (.pointer (some ⟨q, 0, none⟩)) ∧ QIs w.heap.size w' q [] [0, 0, 0, 0, 0, 0, 0, 0] ∧ Keeps [] w w' := by
  go_enter Try.func7, Try.ntmps7
  go_wp2_with fail
  refine (empty _).mono ?_
  rintro e w1 ⟨g, h, c, rfl, hr, hg, hh, hc, hk⟩
  have HR := Go.Lib.hid hr
  have HK := Go.Lib.hid hk
  clear hr hk
  go_wp2
  go_ret
  have hk2 := (Keeps.refl [] w1).alloc (.cells (qA g [0, 0, 0, 0, 0, 0, 0, 0]) 70)
  exact ⟨_, rfl, ⟨g, h, c, heap_alloc_new w1 _, HR.out.keeps hk2 (by simp) (by simp) (by simp), by simp, by simp, by simp, rfl, HK.out.size, hg, hh, hc, by simp⟩, HK.out.trans hk2⟩

theorem losses {B q : Nat} {w : World} {l : List (Nat × It)} {lost : List Int} (hq : QIs B w q l lost) {c : Nat} {x : Int} (hx : lost[c]? = some x) :
    Calls Try.prog 10 #[.pointer (some ⟨q, 0, none⟩), .int .i64 c] w fun e w' => e = .returned (.tuple #[.int .i64 x, .int .i64 0]) ∧ w = w' := by
  obtain ⟨g, h, k, hq⟩ := hq
  have hc : c < 8 := by rw [← hq.lost8]; exact (List.getElem?_eq_some_iff.1 hx).1
  obtain ⟨c0, _⟩ := cell_at hq.own (qA_get (g := g) hx)
  have hc' : (c : Int) < 8 := by omega
  clear hq hx
  go_enter Try.func10, Try.ntmps10
  go_wp2_with fail
  refine (client_yes hc _).mono ?_
  rintro e w' ⟨rfl, rfl⟩
  go_wp2
  go_ret2
  exact ⟨rfl, rfl⟩

theorem qlen {B q : Nat} {w : World} {l : List (Nat × It)} {lost : List Int} (hq : QIs B w q l lost) :
    Calls Try.prog 11 #[.pointer (some ⟨q, 0, none⟩)] w fun e w' => e = .returned (.int .i64 l.length) ∧ w = w' := by
  obtain ⟨g, h, k, hq⟩ := hq
  obtain ⟨c0, _⟩ := cell_at hq.own (qA_zero g lost)
  have hl := Go.Lib.hid (RPtr.len hq.ring)
  clear hq
  go_enter Try.func11, Try.ntmps11
  go_wp2_with fail
  refine hl.out.mono ?_
  rintro e w' ⟨rfl, rfl⟩
  go_wp2
  go_ret
  exact ⟨by simp, rfl⟩
end Go.Proofs.Ytldnnkceeeinlaa
