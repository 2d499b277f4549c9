/- A select of one case with a default, in one goroutine, as a law of the lone walk ('Code.wp'): a region whose first operation is the select. Ready: the case is taken; not ready: the default. No condition on the frame. -/
import Derived.Conc.LoneSelectN
import Derived.Conc.LoneSelect
import Derived.WalkKit
namespace Go.Proofs.Ytldnnkceeeinlaa
namespace Sel
open Go Go.Conc Go.RowKit

section
variable {P : Program} {b : Frame} {a : Act} {k : List Item} {cs : List Frame} {w w' : World} {ops : Array Oper} {i : Nat} {rest : List Nat} {o : Oper} {cases : Array CommCase} {blocking : Bool} {shape : CommShape}

theorem stepG_comm_any (ho : ops[i]? = some o) (hw : Region.wanted o (yielded ops a.tmps) = true) (hr : (execOp a.eval o).run P w = .ok (.comm cases blocking shape) w') :
    ∃ es, stepG P true (G (b.at a (.inRegion ops (i :: rest) :: k)) cs) w = .comm (G (b.at a (.inRegion ops (i :: rest) :: k)) cs) cases blocking shape w' es := by
  have h := stepG_op (P := P) (b := b) (k := k) (cs := cs) (w := w) (rest := rest) ho hw
  have h' : stepG P true (G (b.at a (.inRegion ops (i :: rest) :: k)) cs) w = stepG.apply P true (b.at a (.inRegion ops (i :: rest) :: k)) cs none (execOp a.eval o) w := h
  rw [h']
  simp [stepG.apply, hr, G, Frame.at, GStep.after]

/-- One step of the machine at the region's first operation, and the rest of the region: the region's law. -/
theorem wp_region_first {id : Nat} {Q : Exit → Act → World → Prop} {v : Value} {l : List Oper} (hops : ops.toList = o :: l)
    (hs : ∀ (b : Frame) (rest : List Nat) (k : List Item) (cs : List Frame), step P (lone (b.at a (.inRegion ops (0 :: rest) :: k)) cs w) = .next (lone ((b.at a (.inRegion ops (0 :: rest) :: k)).finish v) cs w'))
    (h : wpList P ops Q l (a.put o.dst v) w') : (Code.region id ops false).wp P Q a w := by
  intro b k cs
  have hsz : ops.size = l.length + 1 := by rw [← Array.length_toList, hops]; rfl
  have ho : ops[0]? = some o := by
    have : ops.toList[0]? = some o := by rw [hops]; rfl
    simpa using this
  have hl : wpOps P ops Q (List.range' 1 l.length) (a.put o.dst v) w' := by
    rw [wpOps_eq_wpList l 1 (fun j => by
      have : ops.toList[1 + j]? = l[j]? := by rw [hops, Nat.add_comm, List.getElem?_cons_succ]
      simpa using this.symm)]
    exact h
  obtain ⟨e, a', w'', hq, harr⟩ := wp_ops _ _ _ hl b k cs
  refine ⟨e, a', w'', hq, .of_steps (.head step_region (.one ?_)) harr⟩
  rw [show List.range ops.size = 0 :: List.range' 1 l.length by rw [hsz, List.range_eq_range', List.range'_succ]]
  rw [hs b _ k cs, Frame.finish_at, ho]
  rfl
end

section
variable {P : Program} {a : Act} {w : World} {ops : Array Oper} {id : Nat} {Q : Exit → Act → World → Prop} {o : Oper} {l : List Oper} {c cap s r : Nat} {buf : Array Value} {closed tm : Bool} {z v : Value}

theorem wanted_of {o : Oper} {ts : Nat → Option Bool} (h : o.guard = none) : Region.wanted o ts = true := by simp [Region.wanted, h]

/-- 'case <-c' with a default, the buffer not empty: index 0, ok, the eldest. -/
theorem wp_recv_ready (hops : ops.toList = o :: l) (hg : o.guard = none) (hr : (execOp a.eval o).run P w = .ok (.comm #[rcase c z] false .select) w)
    (hc : w.heap[c]? = some (.chan cap buf closed s r tm)) (hsome : 0 < buf.size)
    (h : wpList P ops Q l (a.put o.dst (.tuple #[.int .i64 0, .bool true, buf.getD 0 undef])) (w.setChan c cap (buf.extract 1 buf.size) closed s (r + 1) tm)) : (Code.region id ops false).wp P Q a w := by
  refine wp_region_first hops (fun b rest k cs => ?_) h
  have ho : ops[0]? = some o := by
    have : ops.toList[0]? = some o := by rw [hops]; rfl
    simpa using this
  obtain ⟨es, hes⟩ := stepG_comm_any (P := P) (b := b) (a := a) (k := k) (cs := cs) (w := w) (w' := w) (ops := ops) (i := 0) (rest := rest) ho (wanted_of hg) hr
  exact step_lone_select_recv_buf hes hc hsome

/-- 'case <-c' with a default, open and empty: the default. -/
theorem wp_recv_default (hops : ops.toList = o :: l) (hg : o.guard = none) (hr : (execOp a.eval o).run P w = .ok (.comm #[rcase c z] false .select) w)
    (hc : w.heap[c]? = some (.chan cap #[] false s r tm))
    (h : wpList P ops Q l (a.put o.dst (.tuple #[.int .i64 (-1), .bool false, z])) w) : (Code.region id ops false).wp P Q a w := by
  refine wp_region_first hops (fun b rest k cs => ?_) h
  have ho : ops[0]? = some o := by
    have : ops.toList[0]? = some o := by rw [hops]; rfl
    simpa using this
  obtain ⟨es, hes⟩ := stepG_comm_any (P := P) (b := b) (a := a) (k := k) (cs := cs) (w := w) (w' := w) (ops := ops) (i := 0) (rest := rest) ho (wanted_of hg) hr
  exact step_lone_select_default hes hc

/-- 'case c <- v' with a default, room: index 0. -/
theorem wp_send_room (hops : ops.toList = o :: l) (hg : o.guard = none) (hr : (execOp a.eval o).run P w = .ok (.comm #[scase c v z] false .select) w)
    (hc : w.heap[c]? = some (.chan cap buf false s r tm)) (hroom : buf.size < cap)
    (h : wpList P ops Q l (a.put o.dst (.tuple #[.int .i64 0, .bool false])) (w.setChan c cap (buf.push v) false (s + 1) r tm)) : (Code.region id ops false).wp P Q a w := by
  refine wp_region_first hops (fun b rest k cs => ?_) h
  have ho : ops[0]? = some o := by
    have : ops.toList[0]? = some o := by rw [hops]; rfl
    simpa using this
  obtain ⟨es, hes⟩ := stepG_comm_any (P := P) (b := b) (a := a) (k := k) (cs := cs) (w := w) (w' := w) (ops := ops) (i := 0) (rest := rest) ho (wanted_of hg) hr
  exact step_lone_select_send_room hes hc hroom

/-- 'case c <- v' with a default, full: the default. -/
theorem wp_send_full (hops : ops.toList = o :: l) (hg : o.guard = none) (hr : (execOp a.eval o).run P w = .ok (.comm #[scase c v z] false .select) w)
    (hc : w.heap[c]? = some (.chan cap buf false s r tm)) (hfull : cap ≤ buf.size)
    (h : wpList P ops Q l (a.put o.dst (.tuple #[.int .i64 (-1), .bool false])) w) : (Code.region id ops false).wp P Q a w := by
  refine wp_region_first hops (fun b rest k cs => ?_) h
  have ho : ops[0]? = some o := by
    have : ops.toList[0]? = some o := by rw [hops]; rfl
    simpa using this
  obtain ⟨es, hes⟩ := stepG_comm_any (P := P) (b := b) (a := a) (k := k) (cs := cs) (w := w) (w' := w) (ops := ops) (i := 0) (rest := rest) ho (wanted_of hg) hr
  exact step_lone_select_send_full hes hc hfull
end
end Sel
end Go.Proofs.Ytldnnkceeeinlaa
