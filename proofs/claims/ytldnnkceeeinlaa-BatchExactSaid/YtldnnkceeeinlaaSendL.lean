/- A send to a channel with room, in one goroutine, as a law of the lone walk: a region of two plain operations and the send. No condition on the frame. -/
import Derived.Test.YtldnnkceeeinlaaSel
namespace Go.Proofs.Ytldnnkceeeinlaa
namespace Sel
open Go Go.Conc Go.RowKit

section
variable {P : Program} {b : Frame} {a : Act} {k : List Item} {cs : List Frame} {w w' : World} {ops : Array Oper}
theorem step_value {i : Nat} {rest : List Nat} {o : Oper} {v : Value} (ho : ops[i]? = some o) (hg : o.guard = none) (hr : (execOp a.eval o).run P w = .ok (.value v) w') :
    step P (lone (b.at a (.inRegion ops (i :: rest) :: k)) cs w) = .next (lone (b.at (a.put o.dst v) (.inRegion ops rest :: k)) cs w') := by
  have hgo := stepG_op (P := P) (b := b) (a := a) (k := k) (cs := cs) (w := w) (rest := rest) ho (wanted_of hg)
  have hfin : (b.at a (.inRegion ops (i :: rest) :: k)).finish v = b.at (a.put o.dst v) (.inRegion ops rest :: k) := by
    rw [Frame.finish_at, ho]; rfl
  refine step_lone_go ?_
  rw [hgo, ← hfin]
  simp [stepG.apply, hr]

theorem wp_send3 {id : Nat} {Q : Exit → Act → World → Prop} {o0 o1 o2 : Oper} {v0 v1 v z : Value} {c cap s r : Nat} {buf : Array Value} {tm : Bool} (hops : ops.toList = [o0, o1, o2]) (g0 : o0.guard = none) (g1 : o1.guard = none) (g2 : o2.guard = none)
    (h0 : (execOp a.eval o0).run P w = .ok (.value v0) w) (h1 : (execOp (a.put o0.dst v0).eval o1).run P w = .ok (.value v1) w)
    (h2 : (execOp ((a.put o0.dst v0).put o1.dst v1).eval o2).run P w = .ok (.comm #[scase c v z] true .send) w)
    (hc : w.heap[c]? = some (.chan cap buf false s r tm)) (hroom : buf.size < cap)
    (h : Q .normal (((a.put o0.dst v0).put o1.dst v1).put o2.dst undef) (w.setChan c cap (buf.push v) false (s + 1) r tm)) : (Code.region id ops false).wp P Q a w := by
  intro b k cs
  have hsz : ops.size = 3 := by rw [← Array.length_toList, hops]; rfl
  have ho : ∀ (i : Nat) (o : Oper), [o0, o1, o2][i]? = some o → ops[i]? = some o := fun i o h => by
    rw [← hops] at h
    simpa using h
  refine ⟨.normal, _, _, h, ?_⟩
  have s1 := step_value (P := P) (b := b) (k := k) (cs := cs) (w := w) (rest := [1, 2]) (ho 0 o0 rfl) g0 h0
  have s2 := step_value (P := P) (b := b) (k := k) (cs := cs) (w := w) (rest := [2]) (ho 1 o1 rfl) g1 h1
  obtain ⟨es, hes⟩ := stepG_comm_any (P := P) (b := b) (a := (a.put o0.dst v0).put o1.dst v1) (k := k) (cs := cs) (w := w) (w' := w) (ops := ops) (i := 2) (rest := []) (ho 2 o2 rfl) (wanted_of g2) h2
  have s3 := step_lone_send_room hes hc hroom
  have hfin : (b.at ((a.put o0.dst v0).put o1.dst v1) (.inRegion ops [2] :: k)).finish undef = b.at (((a.put o0.dst v0).put o1.dst v1).put o2.dst undef) (.inRegion ops [] :: k) := by
    rw [Frame.finish_at, ho 2 o2 rfl]; rfl
  rw [hfin] at s3
  have s0 := step_region (P := P) (b := b) (a := a) (k := k) (cs := cs) (w := w) (ops := ops) (id := id)
  rw [hsz, show List.range 3 = [0, 1, 2] from rfl] at s0
  exact .of_steps (.head s0 (.head s1 (.head s2 (.one s3)))) (.one step_region_end)
end
end Sel
end Go.Proofs.Ytldnnkceeeinlaa
