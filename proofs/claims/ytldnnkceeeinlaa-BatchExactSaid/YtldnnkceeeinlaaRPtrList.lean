/- The ring's List at elements of one cell (Ptr): a new row that holds the things in order. No condition but the ring's own. -/
import Derived.Test.YtldnnkceeeinlaaRPtrNew
import Derived.LoopTactic
import Derived.OwnWalk
import Derived.Maps.AppendAt
namespace Go.Proofs.Ytldnnkceeeinlaa
namespace RPtr
open Go.RowKit

theorem cells_snoc (l : List Nat) (k : Nat) (x : Nat) (hx : l[k]? = some x) : (l.take k).flatMap enc ++ [.pointer (some ⟨x,0,none⟩)] = (l.take (k + 1)).flatMap enc := by
  have hk : k < l.length := (List.getElem?_eq_some_iff.1 hx).1
  have : l[k] = x := by simpa [List.getElem?_eq_getElem hk] using hx
  rw [List.take_succ_eq_append_getElem hk, this, List.flatMap_append]
  rfl

/-- What List's loop holds behind k rounds: a row of the call's own. -/
structure Lst (w : World) (g h c n : Nat) (l : List Nat) (k : Nat) (v : Value) (wr : World) : Prop where
  kle : k ≤ l.length
  row : wr.ownsRow w.heap.size 71 1 v k ((l.take k).flatMap enc)
  keeps : Keeps [] w wr

set_option maxHeartbeats 1600000 in
theorem list {g h c n : Nat} {l : List Nat} {w : World} (hr : Is w g h c n l) :
    Calls Try.prog 47 #[.pointer (some ⟨g, 0, none⟩)] w fun e w' => ∃ v, e = .returned v ∧ w'.ownsRow w.heap.size 71 1 v l.length (l.flatMap enc) ∧ Keeps [] w w' := by
  have HR := Go.Lib.hid hr
  have hlen := len hr
  have hln := hr.len
  have hcp := hr.cap
  have hl9 : l.length ≤ 256 := by omega
  have hm : (Try.prog.info? 71).map (fun i => (i.zero, i.size, i.bytes)) = some (some (.pointer none), 1, 8) := by kernel_rfl
  obtain ⟨i0, hi, hz0, hz1, hz2⟩ := info_parts hm
  have HI := Go.Lib.hid hi
  have HZ0 := Go.Lib.hid hz0
  have HZ1 := Go.Lib.hid hz1
  have HZ2 := Go.Lib.hid hz2
  clear hr hm hi hz0 hz1 hz2
  go_enter Try.func47, Try.ntmps47
  go_wp2_with fail
  refine hlen.mono ?_
  rintro e w' ⟨rfl, rfl⟩
  clear hlen
  go_wp2_with fail
  go_loopw [2, 3, 6] (fun v _ i wr => ∃ k : Nat, i = .int .i64 k ∧ Hid (Lst w g h c n l k v wr)) (fun _ _ i _ => l.length - (intOf i).toNat)
  case atStart => exact ⟨0, rfl, Nat.zero_le _, World.ownsRow_nil _ _ _ _, Keeps.refl _ _⟩
  case round =>
    obtain ⟨k, rfl, HL⟩ := hrel
    have hk := HL.out.kle
    by_cases hlt : k < l.length
    · obtain ⟨x, hx⟩ : ∃ x, l[k]? = some x := ⟨_, List.getElem?_eq_getElem hlt⟩
      have hr' := HR.out.keeps HL.out.keeps (by simp) (by simp) (by simp)
      have hrow := HL.out.row
      have hsz := HL.out.keeps.size
      obtain ⟨⟨f, arr, buf, s, r, hg, hh, hc, hb, hd⟩, hgh, hcap⟩ := hr'
      obtain ⟨h0, h1, h2, _⟩ := cells3 hg
      have hf : f < n := hd.from_lt
      have hp : (f + k) % n < n := Nat.mod_lt _ (by omega)
      obtain ⟨hv', hz'⟩ := cell_at hh (holds_at hd hx)
      have hpc := fun j => place (h := h) (c := c) (n := n) (f := f) (i := k) (w := wr.drewN j) hg (by omega) (by omega) (by omega) (by omega) (by omega) (by omega)
      have e1 : (((f : Int) + k) % n) = ((f + k) % n : Nat) := by push_cast; rfl
      rw [e1] at hpc
      have HPC := Go.Lib.hid hpc
      have HX := Go.Lib.hid hx
      have HROW := Go.Lib.hid hrow
      clear e1 hpc hb hd hh hc hg hx hrow
      generalize hq : (f + k) % n = q at *
      have HQ := Go.Lib.hid hq
      clear hq
      have d1 : decide (k < l.length) = true := decide_eq_true hlt
      go_wp2_with fail
      refine QTail.wp_region_pdtail 10 [0] [1, 2, 3, 4, 5, 6, 7, 8, 9] (by kernel_rfl) (by kernel_rfl) (fun _ _ d _ _ h => by cases d <;> exact h) ?_
      simp only [QTail.pick, List.map_cons, List.map_nil, List.getElem?_cons_zero, List.getElem?_cons_succ, Option.getD_some, List.drop_succ_cons, List.drop_zero]
      refine QTail.wpPure_step _ rfl (fun w => by go_simp; rfl) ?_
      refine QTail.wpPure_nil ?_
      simp only [Act.put, List.setIfInBounds_toArray, List.set_cons_zero, List.set_cons_succ]
      repeat (go_big_quiet_step ((refine Calls.quiet_of (HPC.out _))))
      refine wpQuiet_nil ?_
      rintro _ ⟨n1, rfl⟩
      have HW : Hid ((wr.drewN n1).ownsRow w.heap.size 71 1 u2 k ((l.take k).flatMap enc)) := HROW.out
      go_wp2_with (at_builtin; refine wpList_append_own _ rfl _ _ 90 rfl w.heap.size 71 i0 (.pointer none) 1 8 Try.underlying90 HI.out HZ0.out HZ1.out HZ2.out rfl (by decide) _ k _ rfl (HW.out.alloc _) ⟨wr.heap.size, 0, none⟩ 1 1 [.pointer (some ⟨x,0,none⟩)] rfl rfl ?c1 ?c2 ?c3 ?c4 ?c5 ?_)
      case c1 => exact cell_one_new _ _ _
      case c2 => simp [Value.oneCell']
      case c3 => unfold maxLen; omega
      case c4 => omega
      case c5 => simp; omega
      intro v' w1 hown hgrow _
      have HN : Hid (Lst w g h c n l (k + 1) v' w1) := by
        refine ⟨by omega, ?_, ?_⟩
        · rw [← cells_snoc l k x HX.out]; exact hown
        · have hb : ∀ b, u2.ownBlock = some b → w.heap.size ≤ b := fun b e => (HROW.out.lt b e).1
          have h1 : Keeps [] w ((wr.drewN n1).alloc (.cells #[.pointer (some ⟨x,0,none⟩)] 71)) := (HL.out.keeps.drewN _).alloc _
          exact ⟨hgrow.os.trans h1.os, hgrow.tape.trans h1.tape, hgrow.output.trans h1.output, Nat.le_trans h1.size hgrow.size, fun j hj _ => (hgrow.block j (Nat.lt_of_lt_of_le hj h1.size) (fun e => by have := hb j e.symm; omega)).trans (h1.block j hj (by simp))⟩
      clear hown hgrow
      go_wp2_with fail
      exact ⟨⟨k + 1, by go_num, HN⟩, by simp [intOf]; omega⟩
    · obtain rfl : k = l.length := by omega
      have d1 : decide (l.length < l.length) = false := decide_eq_false (by omega)
      go_wp2
      go_ret
      refine ⟨_, rfl, ?_, HL.out.keeps⟩
      have := HL.out.row
      rw [List.take_length] at this
      exact this
end RPtr
end Go.Proofs.Ytldnnkceeeinlaa
