/- More of the ring's methods at elements of one cell (Int): Cap, At, Clear, List. No condition but the ring's own. -/
import Derived.Test.YtoncobhjdplamaaRIntNew
import Derived.LoopTactic
import Derived.Deep.LoopGhost
import Derived.OwnWalk
import Derived.Maps.AppendAt
namespace Go.Proofs.Ytoncobhjdplamaa
namespace RInt
open Go.RowKit

set_option maxHeartbeats 400000 in
theorem at_out {g h c n : Nat} {l : List Int} {w : World} (hr : Is w g h c n l) (i : Int) (hi : i < 0 ∨ (l.length : Int) ≤ i) :
    Calls Try.prog 26 #[.pointer (some ⟨g, 0, none⟩), .int .i64 i] w fun e w' => e = .returned (.tuple #[.int .i64 0, .bool false]) ∧ w = w' := by
  have hl := Go.Lib.hid (len hr)
  clear hr
  by_cases h0 : i < 0
  · have d0 : decide (i < 0) = true := decide_eq_true h0
    go_enter Try.func26, Try.ntmps26
    go_wp2
    go_ret2
    exact ⟨rfl, rfl⟩
  · have d0 : decide (i < 0) = false := decide_eq_false h0
    have d1 : decide ((l.length : Int) ≤ i) = true := decide_eq_true (by omega)
    go_enter Try.func26, Try.ntmps26
    go_wp2_with fail
    refine hl.out.mono ?_
    rintro e w' ⟨rfl, rfl⟩
    go_wp2
    go_ret2
    exact ⟨rfl, rfl⟩

set_option maxHeartbeats 400000 in
theorem at_in {g h c n : Nat} {l : List Int} {w : World} (hr : Is w g h c n l) (i : Nat) (x : Int) (hx : l[i]? = some x) :
    Calls Try.prog 26 #[.pointer (some ⟨g, 0, none⟩), .int .i64 i] w fun e w' => e = .returned (.tuple #[.int .i64 x, .bool true]) ∧ ∃ k, w' = w.drewN k := by
  have hl := Go.Lib.hid (len hr)
  have hil : i < l.length := (List.getElem?_eq_some_iff.1 hx).1
  obtain ⟨⟨f, arr, buf, s, r, hg, hh, hc, hb, hd⟩, hgh, hcap⟩ := hr
  obtain ⟨h0, h1, h2, _⟩ := cells3 hg
  have hf : f < n := hd.from_lt
  have hln : l.length ≤ n := hd.len_le
  have hp : (f + i) % n < n := Nat.mod_lt _ (by omega)
  obtain ⟨hv', hz'⟩ := cell_at hh (holds_at hd hx)
  have hpc := fun k => place (h := h) (c := c) (n := n) (f := f) (i := i) (w := w.drewN k) hg (by omega) (by omega) (by omega) (by omega) (by omega) (by omega)
  have e1 : (((f : Int) + i) % n) = ((f + i) % n : Nat) := by push_cast; rfl
  rw [e1] at hpc
  have HPC := Go.Lib.hid hpc
  have d0 : decide ((i : Int) < 0) = false := decide_eq_false (by omega)
  have d1 : decide (l.length ≤ i) = false := decide_eq_false (by omega)
  have d2 : decide ((l.length : Int) ≤ (i : Int)) = false := decide_eq_false (by omega)
  clear e1 hpc hb hd hh hc hg hx
  generalize hq : (f + i) % n = q at *
  have HQ := Go.Lib.hid hq
  clear hq
  go_enter Try.func26, Try.ntmps26
  go_wp2_with fail
  refine hl.out.mono ?_
  rintro e w' ⟨rfl, rfl⟩
  go_wp2_with fail
  go_quiet ((refine Calls.quiet_of (HPC.out _)))
  go_wp2
  go_ret2
  exact ⟨rfl, _, rfl⟩

set_option maxHeartbeats 400000 in
theorem cap {g h c n : Nat} {l : List Int} {w : World} (hr : Is w g h c n l) :
    Calls Try.prog 28 #[.pointer (some ⟨g, 0, none⟩)] w fun e w' => e = .returned (.int .i64 n) ∧ w = w' := by
  obtain ⟨⟨f, arr, buf, s, r, hg, hh, hc, hb, hd⟩, hgh, hcap⟩ := hr
  obtain ⟨h0, h1, h2, _⟩ := cells3 hg
  clear hb hd hg hh hc
  go_enter Try.func28, Try.ntmps28
  go_wp2
  go_ret
  exact ⟨rfl, rfl⟩

structure Clr (g h c n : Nat) (w : World) (k : Nat) (b : Bool) (l' : List Int) (wr : World) : Prop where
  more : b = true → l'.length < k
  over : b = false → l' = []
  ring : Is wr g h c n l'
  keeps : Keeps [g, h, c] w wr

set_option maxHeartbeats 800000 in
theorem clear_all {g h c n : Nat} {l : List Int} {w : World} (hr : Is w g h c n l) :
    Calls Try.prog 27 #[.pointer (some ⟨g, 0, none⟩)] w fun e w' => e = .returned (.tuple #[]) ∧ Is w' g h c n [] ∧ Keeps [g, h, c] w w' := by
  have HR := Go.Lib.hid hr
  clear hr
  go_enter Try.func27, Try.ntmps27
  go_wp2_with fail
  cases l with
  | nil =>
    refine (pop_none HR.out).mono ?_
    rintro e w' ⟨rfl, rfl⟩
    go_wp2_with fail
    go_loopg [3] 0 (fun _ t wr => t = .bool false ∧ wr = w)
    case atStart => exact ⟨rfl, rfl⟩
    case round =>
      obtain ⟨rfl, rfl⟩ := hrel
      go_wp2
      go_end0
      exact ⟨rfl, HR.out, Keeps.refl _ _⟩
  | cons x l =>
    refine (pop_some HR.out).mono ?_
    rintro e w1 ⟨rfl, hr1, hk1⟩
    have HR1 := Go.Lib.hid hr1
    have HK1 := Go.Lib.hid hk1
    clear hr1 hk1 HR
    go_wp2_with fail
    go_loopg [3] (l.length + 1) (fun k t wr => ∃ l' b, t = .bool b ∧ Hid (Clr g h c n w k b l' wr))
    case atStart => exact ⟨l, true, rfl, fun _ => Nat.lt_succ_self _, fun h => (by cases h), HR1.out, HK1.out⟩
    case round =>
      clear HR1 HK1
      obtain ⟨l', b, rfl, H⟩ := hrel
      cases b with
      | true =>
        cases l' with
        | nil =>
          go_wp2_with fail
          refine (pop_none H.out.ring).mono ?_
          rintro e w' ⟨rfl, rfl⟩
          go_wp2_with fail
          have h1 := H.out.more rfl
          go_roundg 0
          case measure => simpa using h1
          case rel => exact ⟨[], false, rfl, fun h => (by cases h), fun _ => rfl, H.out.ring, H.out.keeps⟩
        | cons x l' =>
          go_wp2_with fail
          refine (pop_some H.out.ring).mono ?_
          rintro e w2 ⟨rfl, hr2, hk2⟩
          have HR2 := Go.Lib.hid hr2
          have HK2 := Go.Lib.hid hk2
          clear hr2 hk2
          go_wp2_with fail
          have h1 := H.out.more rfl
          simp only [List.length_cons] at h1
          go_roundg (l'.length + 1)
          case measure => exact h1
          case rel => exact ⟨l', true, rfl, fun _ => Nat.lt_succ_self _, fun h => (by cases h), HR2.out, H.out.keeps.trans HK2.out⟩
      | false =>
        go_wp2
        go_end0
        have h1 := H.out.over rfl
        subst h1
        exact ⟨rfl, H.out.ring, H.out.keeps⟩
end RInt
end Go.Proofs.Ytoncobhjdplamaa
