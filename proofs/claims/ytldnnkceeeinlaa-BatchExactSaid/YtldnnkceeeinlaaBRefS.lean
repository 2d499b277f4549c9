/- The reference's short calls: Len, Losses, Pending, Forget, clean. No condition but the queue's own. -/
import Derived.Test.YtldnnkceeeinlaaBRefD
namespace Go.Proofs.Ytldnnkceeeinlaa
open Go.RowKit

theorem rA_zero (v : Value) (lost : List Int) : (rA v lost)[0]? = some v := rfl
theorem r_len {B r : Nat} {W : World} {m : List It} {lost : List Int} (h : RL B W r m lost) : Calls Try.prog 30 #[.pointer (some ⟨r, 0, none⟩)] W fun e w' => e = .returned (.int .i64 m.length) ∧ W = w' := by
  obtain ⟨v, h⟩ := h
  obtain ⟨ad, cp, rfl⟩ := h.row.form
  obtain ⟨c0, _⟩ := cell_at h.own (rA_zero _ lost)
  clear h
  go_enter Try.func30, Try.ntmps30
  go_wp2
  go_ret
  exact ⟨rfl, rfl⟩
theorem r_losses {B r : Nat} {W : World} {m : List It} {lost : List Int} (h : RL B W r m lost) {c : Nat} {x : Int} (hx : lost[c]? = some x) :
    Calls Try.prog 26 #[.pointer (some ⟨r, 0, none⟩), .int .i64 c] W fun e w' => e = .returned (.int .i64 x) ∧ W = w' := by
  obtain ⟨v, h⟩ := h
  have hc : c < 8 := by rw [← h.lost8]; exact (List.getElem?_eq_some_iff.1 hx).1
  have hc' : (c : Int) < 8 := by omega
  obtain ⟨c0, _⟩ := cell_at h.own (rA_get (v := v) hx)
  clear h hx
  go_enter Try.func26, Try.ntmps26
  go_wp2
  go_ret
  exact ⟨rfl, rfl⟩

set_option maxHeartbeats 1600000 in
theorem r_pending {B r : Nat} {W : World} {m : List It} {lost : List Int} (h : RL B W r m lost) {c : Nat} (hc8 : c < 8) :
    Calls Try.prog 25 #[.pointer (some ⟨r, 0, none⟩), .int .i64 c] W fun e w' => e = .returned (.int .i64 (pend c m).1) ∧ W = w' := by
  obtain ⟨v, h⟩ := h
  obtain ⟨ad, cp, rfl⟩ := h.row.form
  obtain ⟨c0, _⟩ := cell_at h.own (rA_zero _ lost)
  have hc' : (c : Int) < 8 := by omega
  have h64 := h.few
  have HQ := Go.Lib.hid h
  clear h
  go_enter Try.func25, Try.ntmps25
  go_upto_region 3 with fail
  go_loopw [5, 6] (fun sn si wr => ∃ i : Nat, sn = .int .i64 (pend c (m.take i)).1 ∧ si = .int .i64 i ∧ i ≤ m.length ∧ wr = W) (fun _ si _ => m.length - (intOf si).toNat)
  case atStart => exact ⟨0, rfl, rfl, by omega, rfl⟩
  case round =>
    obtain ⟨i, rfl, rfl, hi, rfl⟩ := hrel
    by_cases hlt : i < m.length
    · have d1 : decide (i < m.length) = true := decide_eq_true hlt
      obtain ⟨x, hx⟩ : ∃ x, m[i]? = some x := ⟨_, List.getElem?_eq_getElem hlt⟩
      obtain ⟨t, ht⟩ : ∃ t, x.u[c]? = some t := ⟨_, List.getElem?_eq_getElem (by rw [HQ.out.wide x (List.mem_of_getElem? hx)]; exact hc8)⟩
      obtain ⟨g, o, rfl, _, _, hrow⟩ := HQ.out.row.at (by omega)
      obtain ⟨y0, _⟩ := hrow.line hx ht
      have hs : (pend c (m.take (i + 1))).1 = if 0 ≤ t then (pend c (m.take i)).1 + 1 else (pend c (m.take i)).1 := by
        rw [List.take_add_one, hx, Option.toList_some, pend_snoc, pstep, List.getD_eq_getElem?_getD, ht]
        simp only [Option.getD_some]
        split <;> rfl
      have hp : (pend c (m.take i)).1 ≤ 64 := by have := pend_le c (m.take i); rw [List.length_take] at this; omega
      obtain ⟨p, hpp⟩ : ∃ p, p = (pend c (m.take i)).1 := ⟨_, rfl⟩
      rw [← hpp] at hp hs ⊢
      have HS := Go.Lib.hid hs
      clear hrow hx ht hs hpp
      by_cases h0 : 0 ≤ t
      · have e1 : decide (0 ≤ t) = true := decide_eq_true h0
        have HS2 : Hid ((pend c (m.take (i + 1))).1 = p + 1) := Go.Lib.hid (by rw [HS.out, if_pos h0])
        clear HS
        go_wp2_with fail
        exact ⟨⟨i + 1, by rw [HS2.out]; go_num, by go_num, by omega, trivial⟩, by simp [intOf]; omega⟩
      · have e1 : decide (0 ≤ t) = false := decide_eq_false h0
        have HS2 : Hid ((pend c (m.take (i + 1))).1 = p) := Go.Lib.hid (by rw [HS.out, if_neg h0])
        clear HS
        go_wp2_with fail
        exact ⟨⟨i + 1, by rw [HS2.out], by go_num, by omega, trivial⟩, by simp [intOf]; omega⟩
    · have d1 : decide (i < m.length) = false := decide_eq_false hlt
      have e : m.take i = m := List.take_of_length_le (by omega)
      rw [e]
      go_wp2
      go_ret
      exact ⟨rfl, rfl⟩
end Go.Proofs.Ytldnnkceeeinlaa
