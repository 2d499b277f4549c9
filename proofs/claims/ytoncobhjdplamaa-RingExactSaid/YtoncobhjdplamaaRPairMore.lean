/- More of the ring's methods at elements of two cells (Pair): Cap, At, Clear. No condition but the ring's own. -/
import Derived.Test.YtoncobhjdplamaaRPairNew
import Derived.LoopTactic
import Derived.Deep.LoopGhost
import Derived.OwnWalk
import Derived.Maps.AppendAt
namespace Go.Proofs.Ytoncobhjdplamaa
namespace RPair
open Go.RowKit

set_option maxHeartbeats 400000 in
theorem cap {g h c n : Nat} {l : List Pr} {w : World} (hr : Is w g h c n l) :
    Calls Try.prog 24 #[.pointer (some ⟨g, 0, none⟩)] w fun e w' => e = .returned (.int .i64 n) ∧ w = w' := by
  obtain ⟨⟨f, arr, buf, s, r, hg, hh, hc, hb, hd⟩, hgh, hcap⟩ := hr
  obtain ⟨h0, h1, h2, _⟩ := cells3 hg
  clear hb hd hg hh hc
  go_enter Try.func24, Try.ntmps24
  go_wp2
  go_ret
  exact ⟨rfl, rfl⟩

set_option maxHeartbeats 800000 in
theorem at_out {g h c n : Nat} {l : List Pr} {w : World} (hr : Is w g h c n l) (i : Int) (hi : i < 0 ∨ (l.length : Int) ≤ i) :
    Calls Try.prog 19 #[.pointer (some ⟨g, 0, none⟩), .int .i64 i] w fun e w' => e = .returned (.tuple #[zero, .bool false]) ∧ Keeps [] w w' := by
  go_enter Try.func19, Try.ntmps19
  go_upto_region 1 with fail
  obtain ⟨b4, hb4⟩ : ∃ b4, b4 = w.heap.size := ⟨_, rfl⟩
  obtain ⟨w0, hw0⟩ : ∃ w0, w0 = w.alloc (.cells #[.int .i64 0, .string ⟨#[]⟩] 49) := ⟨_, rfl⟩
  rw [← hw0, ← hb4]
  have hk0 : Keeps [] w w0 := by rw [hw0]; exact (Keeps.refl _ _).alloc _
  have hx4 : w0.heap[b4]? = some (.cells #[.int .i64 0, .string ⟨#[]⟩] 49 (0, 0)) := by rw [hw0, hb4]; exact heap_alloc_new _ _
  have hr0 : Is w0 g h c n l := hr.keeps hk0 (by simp) (by simp) (by simp)
  have hl := Go.Lib.hid (len hr0)
  have HK0 := Go.Lib.hid hk0
  have HX4 := Go.Lib.hid hx4
  have hw4 : w.heap.size ≤ b4 := by omega
  obtain ⟨q0, q1, q2, q3⟩ := cells2 hx4
  clear hw0 hb4 hk0 hr hr0 hx4
  by_cases h0 : i < 0
  · have d0 : decide (i < 0) = true := decide_eq_true h0
    go_wp2
    obtain ⟨z0, z1, _⟩ := cells2 (box2 (u := .int .i64 0) (v := .string ⟨#[]⟩) HX4.out)
    exact bodyPost_ret (v := .tuple #[zero, .bool false]) (by simp [results, Try.f19, go_sem, z0, z1, zero]) rfl ⟨rfl, ((show Keeps [] w w0 from HK0.out).setNew hw4 _).setNew hw4 _⟩
  · have d0 : decide (i < 0) = false := decide_eq_false h0
    have d1 : decide ((l.length : Int) ≤ i) = true := decide_eq_true (by omega)
    go_wp2_with fail
    refine hl.out.mono ?_
    rintro e w' ⟨rfl, rfl⟩
    go_wp2
    obtain ⟨z0, z1, _⟩ := cells2 (box2 (u := .int .i64 0) (v := .string ⟨#[]⟩) HX4.out)
    exact bodyPost_ret (v := .tuple #[zero, .bool false]) (by simp [results, Try.f19, go_sem, z0, z1, zero]) rfl ⟨rfl, ((show Keeps [] w w0 from HK0.out).setNew hw4 _).setNew hw4 _⟩

set_option maxHeartbeats 800000 in
theorem at_in {g h c n : Nat} {l : List Pr} {w : World} (hr : Is w g h c n l) (i : Nat) (x : Pr) (hx : l[i]? = some x) :
    Calls Try.prog 19 #[.pointer (some ⟨g, 0, none⟩), .int .i64 i] w fun e w' => e = .returned (.tuple #[agg x, .bool true]) ∧ Keeps [] w w' := by
  go_enter Try.func19, Try.ntmps19
  go_upto_region 1 with fail
  obtain ⟨b4, hb4⟩ : ∃ b4, b4 = w.heap.size := ⟨_, rfl⟩
  obtain ⟨w0, hw0⟩ : ∃ w0, w0 = w.alloc (.cells #[.int .i64 0, .string ⟨#[]⟩] 49) := ⟨_, rfl⟩
  rw [← hw0, ← hb4]
  have hk0 : Keeps [] w w0 := by rw [hw0]; exact (Keeps.refl _ _).alloc _
  have hx4 : w0.heap[b4]? = some (.cells #[.int .i64 0, .string ⟨#[]⟩] 49 (0, 0)) := by rw [hw0, hb4]; exact heap_alloc_new _ _
  have hr0 : Is w0 g h c n l := hr.keeps hk0 (by simp) (by simp) (by simp)
  have hlt := hr.lts
  have hl := Go.Lib.hid (len hr0)
  have HK0 := Go.Lib.hid hk0
  have HX4 := Go.Lib.hid hx4
  have hw4 : w.heap.size ≤ b4 := by omega
  have hne : b4 ≠ g ∧ b4 ≠ h ∧ b4 ≠ c := by omega
  obtain ⟨hb4g, hb4h, hb4c⟩ := hne
  obtain ⟨q0, q1, q2, q3⟩ := cells2 hx4
  clear hw0 hb4 hk0 hr hx4 hlt
  have hil : i < l.length := (List.getElem?_eq_some_iff.1 hx).1
  obtain ⟨⟨f, arr, buf, s, r, hg, hh, hc, hb, hd⟩, hgh, hcap⟩ := hr0
  obtain ⟨h0, h1, h2, _⟩ := cells3 hg
  have hf : f < n := hd.from_lt
  have hln : l.length ≤ n := hd.len_le
  have hp : (f + i) % n < n := Nat.mod_lt _ (by omega)
  have hsz := hd.size
  obtain ⟨hv0', hz0'⟩ := cell_at hh (holds_at hd hx).1
  obtain ⟨hv1', hz1'⟩ := cell_at hh (holds_at hd hx).2
  have hpc := fun k => place (h := h) (c := c) (n := n) (f := f) (i := i) (w := w0.drewN k) hg (by omega) (by omega) (by omega) (by omega) (by omega) (by omega)
  have e1 : (((f : Int) + i) % n) = ((f + i) % n : Nat) := by push_cast; rfl
  rw [e1] at hpc
  have HPC := Go.Lib.hid hpc
  have d0 : decide ((i : Int) < 0) = false := decide_eq_false (by omega)
  have d1 : decide (l.length ≤ i) = false := decide_eq_false (by omega)
  have d2 : decide ((l.length : Int) ≤ (i : Int)) = false := decide_eq_false (by omega)
  clear e1 hpc hb hd hh hc hg hx hsz
  generalize hq : (f + i) % n = q at *
  have HQ := Go.Lib.hid hq
  clear hq
  go_wp2_with fail
  refine hl.out.mono ?_
  rintro e w' ⟨rfl, rfl⟩
  go_wp2_with fail
  refine QTail.wp_region_dtail 9 (by kernel_rfl) (by kernel_rfl) ?_
  simp only [List.take_succ_cons, List.take_zero, List.drop_succ_cons, List.drop_zero]
  repeat (go_big_quiet_step ((refine Calls.quiet_of (HPC.out _))))
  refine wpQuiet_nil ?_
  rintro _ ⟨n1, rfl⟩
  go_wp2
  refine bodyPost_ret (v := .tuple #[agg x, .bool true]) (by
    obtain ⟨z0, z1, _⟩ := cells2 (box2 (w := w0.drewN n1) (b := b4) (u := .int .i64 x.n) (v := .string x.s) HX4.out)
    simp [results, Try.f19, go_sem, z0, z1, agg]) rfl ⟨rfl, (((show Keeps [] w w0 from HK0.out).drewN _).setNew hw4 _).setNew hw4 _⟩

structure Clr (g h c n : Nat) (w : World) (k : Nat) (b : Bool) (l' : List Pr) (bx : Nat) (y : Pr) (wr : World) : Prop where
  more : b = true → l'.length < k
  over : b = false → l' = []
  ring : Is wr g h c n l'
  keeps : Keeps [g, h, c] w wr
  new : w.heap.size ≤ bx
  box : wr.heap[bx]? = some (.cells #[.int .i64 y.n, .string y.s] 49 (0, 0))

set_option maxHeartbeats 1600000 in
theorem clear_all {g h c n : Nat} {l : List Pr} {w : World} (hr : Is w g h c n l) :
    Calls Try.prog 20 #[.pointer (some ⟨g, 0, none⟩)] w fun e w' => e = .returned (.tuple #[]) ∧ Is w' g h c n [] ∧ Keeps [g, h, c] w w' := by
  have HR := Go.Lib.hid hr
  clear hr
  go_enter Try.func20, Try.ntmps20
  go_wp2_with fail
  cases l with
  | nil =>
    refine (pop_none HR.out).mono ?_
    rintro e w1 ⟨rfl, hk⟩
    have HR1 := Go.Lib.hid (show Is w1 g h c n [] from HR.out.keeps hk (by simp) (by simp) (by simp))
    have HK1 := Go.Lib.hid hk
    clear hk
    unfold zero
    go_upto_region 1 with fail
    have hbx := heap_alloc_new w1 (.cells #[.int .i64 0, .string ⟨#[]⟩] 49)
    have HB := Go.Lib.hid (show Clr g h c n w 0 false [] w1.heap.size ⟨0, ⟨#[]⟩⟩ (w1.alloc (.cells #[.int .i64 0, .string ⟨#[]⟩] 49)) from
      ⟨fun h => (by cases h), fun _ => rfl, HR1.out.keeps ((Keeps.refl [] w1).alloc _) (by simp) (by simp) (by simp), ((show Keeps [] w w1 from HK1.out).mono (by simp)).alloc _, (show Keeps [] w w1 from HK1.out).size, hbx⟩)
    clear hbx HR1 HK1
    go_loopg [2, 3] 0 (fun _ t2 t wr => ∃ bx, t2 = .pointer (some ⟨bx, 0, none⟩) ∧ t = .bool false ∧ Hid (Clr g h c n w 0 false [] bx ⟨0, ⟨#[]⟩⟩ wr))
    case atStart => exact ⟨_, rfl, rfl, HB⟩
    case round =>
      clear HB
      obtain ⟨bx, rfl, rfl, H⟩ := hrel
      go_wp2
      go_end0
      exact ⟨rfl, H.out.ring, H.out.keeps⟩
  | cons x l =>
    refine (pop_some HR.out).mono ?_
    rintro e w1 ⟨rfl, hr1, hk1⟩
    have HR1 := Go.Lib.hid hr1
    have HK1 := Go.Lib.hid hk1
    clear hr1 hk1 HR
    unfold agg
    go_upto_region 1 with fail
    have hbx := heap_alloc_new w1 (.cells #[.int .i64 x.n, .string x.s] 49)
    have HB := Go.Lib.hid (show Clr g h c n w (l.length + 1) true l w1.heap.size x (w1.alloc (.cells #[.int .i64 x.n, .string x.s] 49)) from
      ⟨fun _ => Nat.lt_succ_self _, fun h => (by cases h), HR1.out.keeps ((Keeps.refl [] w1).alloc _) (by simp) (by simp) (by simp), (show Keeps [g, h, c] w w1 from HK1.out).alloc _, (show Keeps [g, h, c] w w1 from HK1.out).size, hbx⟩)
    clear hbx HR1 HK1
    go_loopg [2, 3] (l.length + 1) (fun k t2 t wr => ∃ bx y l' b, t2 = .pointer (some ⟨bx, 0, none⟩) ∧ t = .bool b ∧ Hid (Clr g h c n w k b l' bx y wr))
    case atStart => exact ⟨_, _, _, _, rfl, rfl, HB⟩
    case round =>
      clear HB
      obtain ⟨bx, y, l', b, rfl, rfl, H⟩ := hrel
      cases b with
      | true =>
        obtain ⟨q0, q1, q2, q3⟩ := cells2 H.out.box
        obtain ⟨b2, hb2⟩ : ∃ b2, b2 = wr.heap.size := ⟨_, rfl⟩
        obtain ⟨w2, hw2⟩ : ∃ w2, w2 = wr.alloc (.cells #[.int .i64 y.n, .string y.s] 49) := ⟨_, rfl⟩
        have hk2 : Keeps [] wr w2 := by rw [hw2]; exact (Keeps.refl _ _).alloc _
        have hbx : w2.heap[b2]? = some (.cells #[.int .i64 y.n, .string y.s] 49 (0, 0)) := by rw [hw2, hb2]; exact heap_alloc_new _ _
        have hr2 : Is w2 g h c n l' := H.out.ring.keeps hk2 (by simp) (by simp) (by simp)
        have hkk : Keeps [g, h, c] w w2 := (show Keeps [g, h, c] w wr from H.out.keeps).step hk2 (by simp)
        have hnew : w.heap.size ≤ b2 := by rw [hb2]; exact (show Keeps [g, h, c] w wr from H.out.keeps).size
        have hlt := H.out.ring.lts
        have hne : b2 ≠ g ∧ b2 ≠ h ∧ b2 ≠ c := by omega
        have HR2 := Go.Lib.hid hr2
        have HKK := Go.Lib.hid hkk
        have HBX := Go.Lib.hid hbx
        clear hr2 hkk hbx hk2 hlt
        cases l' with
        | nil =>
          go_upto_region 2 with fail
          rw [← hw2, ← hb2]
          clear hw2 hb2
          go_wp2_with fail
          refine (pop_none HR2.out).mono ?_
          rintro e w' ⟨rfl, hk⟩
          have HK := Go.Lib.hid hk
          clear hk
          go_wp2_with fail
          have h1 := H.out.more rfl
          go_roundg 0
          case measure => simpa using h1
          case rel => exact ⟨b2, y, [], false, rfl, rfl, fun h => (by cases h), fun _ => rfl, HR2.out.keeps HK.out (by simp) (by simp) (by simp), (show Keeps [g, h, c] w w2 from HKK.out).step (show Keeps [] w2 w' from HK.out) (by simp), hnew, (show Keeps [] w2 w' from HK.out).heap HBX.out (by simp)⟩
        | cons z l' =>
          go_upto_region 2 with fail
          rw [← hw2, ← hb2]
          clear hw2 hb2
          go_wp2_with fail
          refine (pop_some HR2.out).mono ?_
          rintro e w' ⟨rfl, hr, hk⟩
          have HR := Go.Lib.hid hr
          have HK := Go.Lib.hid hk
          clear hr hk
          go_wp2_with fail
          have h1 := H.out.more rfl
          simp only [List.length_cons] at h1
          go_roundg (l'.length + 1)
          case measure => exact h1
          case rel => exact ⟨b2, y, l', true, rfl, rfl, fun _ => Nat.lt_succ_self _, fun h => (by cases h), HR.out, (show Keeps [g, h, c] w w2 from HKK.out).trans (show Keeps [g, h, c] w2 w' from HK.out), hnew, (show Keeps [g, h, c] w2 w' from HK.out).heap HBX.out (by simp; omega)⟩
      | false =>
        go_wp2
        go_end0
        have h1 := H.out.over rfl
        subst h1
        exact ⟨rfl, H.out.ring, H.out.keeps⟩
end RPair
end Go.Proofs.Ytoncobhjdplamaa
