/-
  No cell of these rows narrows 'for every input' (looked for: loops, veiled, ifaces, maps, wideKeys, modest, calm, conditions, laid).
  DERIVED. THE GIVEN ROWS OF THIS SEAT. 6 by the template 'for every input the law returns true; each argument reads behind the call as it read before'; 0 by the template 'total and deterministic' (their statements: YtibdokjghhegfaaTotals.lean).
  GIVEN WITH THE SEED: the statements are not yours to turn. If you find one false, say at which input.
  Laid BY PROGRAM, IN A SANDBOX (cutbox-rows.mjs): the forced cells as the released guide's own fill.sh prints them over the translation d64676d995163ed8… (all of the seat's roots in one cut). By AI agents, Wed Nov 11 2026. No macro, syntax, notation, axiom, sorry.
-/
import Derived.Test.YtibdokjghhegfaaChecked
import GoSem.Claim
import GoSem.ClaimJoined
import GoSem.ClaimMapViews
import Derived.JoinedTies
import Derived.KernelRfl
namespace Go.Proofs.Ytibdokjghhegfaa
/- THE CELL 'sum', in the pinned program and in every row, IS THE sha256 OF THE DUMP (.gsa) THAT YtibdokjghhegfaaProg.lean LOADS. Nothing in Lean hashes anything: it is a label: what it is worth is what the hold of that sum in a sandbox is worth. -/
noncomputable def Try.pinned : Pinned := { name := "ytibdokjghhegfaa", sum := "d64676d995163ed86f955d642d571c1427eed04ea29a368389873df97c47139a", checked := Try.checked }
namespace Rows
def none {H : Type} : Left H := { results := [], args := [] }

/-- 'gimballaw20.FallExact': WHATEVER THE INPUT: true; the input reads as it did. -/
def fallExactSpec : ChangeSpec := { name := "fallExact", fn := fun _ => fun
  | [d] => { results := [.lit (.bool true)], args := [d] }
  | _ => none }
def fallExactRow : OpenClaim := { program := "ytibdokjghhegfaa", sum := "d64676d995163ed86f955d642d571c1427eed04ea29a368389873df97c47139a", func := "gimbal/gimballaw20.FallExact", spec := "fallExact", apart := false }
def FallExactSaid : Prop := fallExactRow.holds Try.pinned (OpenSpec.ofChange fallExactSpec)

/-- ITS FALSE NEIGHBOUR: 'it returns false'. Refute it at one input. -/
def fallExactWrong : ChangeSpec := { name := "fallExact", fn := fun _ => fun
  | [d] => { results := [.lit (.bool false)], args := [d] }
  | _ => none }
def FallExactWrongFalsely : Prop := fallExactRow.holds Try.pinned (OpenSpec.ofChange fallExactWrong)

/-- 'gimballaw20.FallOnce': WHATEVER THE INPUT: true; the input reads as it did. -/
def fallOnceSpec : ChangeSpec := { name := "fallOnce", fn := fun _ => fun
  | [d] => { results := [.lit (.bool true)], args := [d] }
  | _ => none }
def fallOnceRow : OpenClaim := { program := "ytibdokjghhegfaa", sum := "d64676d995163ed86f955d642d571c1427eed04ea29a368389873df97c47139a", func := "gimbal/gimballaw20.FallOnce", spec := "fallOnce", apart := false }
def FallOnceSaid : Prop := fallOnceRow.holds Try.pinned (OpenSpec.ofChange fallOnceSpec)

/-- ITS FALSE NEIGHBOUR: 'it returns false'. Refute it at one input. -/
def fallOnceWrong : ChangeSpec := { name := "fallOnce", fn := fun _ => fun
  | [d] => { results := [.lit (.bool false)], args := [d] }
  | _ => none }
def FallOnceWrongFalsely : Prop := fallOnceRow.holds Try.pinned (OpenSpec.ofChange fallOnceWrong)

/-- 'gimballaw20.FallHigh': WHATEVER THE INPUT: true; the input reads as it did. -/
def fallHighSpec : ChangeSpec := { name := "fallHigh", fn := fun _ => fun
  | [d] => { results := [.lit (.bool true)], args := [d] }
  | _ => none }
def fallHighRow : OpenClaim := { program := "ytibdokjghhegfaa", sum := "d64676d995163ed86f955d642d571c1427eed04ea29a368389873df97c47139a", func := "gimbal/gimballaw20.FallHigh", spec := "fallHigh", apart := false }
def FallHighSaid : Prop := fallHighRow.holds Try.pinned (OpenSpec.ofChange fallHighSpec)

/-- ITS FALSE NEIGHBOUR: 'it returns false'. Refute it at one input. -/
def fallHighWrong : ChangeSpec := { name := "fallHigh", fn := fun _ => fun
  | [d] => { results := [.lit (.bool false)], args := [d] }
  | _ => none }
def FallHighWrongFalsely : Prop := fallHighRow.holds Try.pinned (OpenSpec.ofChange fallHighWrong)

/-- 'gimballaw17.StepExact': WHATEVER THE INPUT: true; the input reads as it did. -/
def stepExactSpec : ChangeSpec := { name := "stepExact", fn := fun _ => fun
  | [d] => { results := [.lit (.bool true)], args := [d] }
  | _ => none }
def stepExactRow : OpenClaim := { program := "ytibdokjghhegfaa", sum := "d64676d995163ed86f955d642d571c1427eed04ea29a368389873df97c47139a", func := "gimbal/gimballaw17.StepExact", spec := "stepExact", apart := false }
def StepExactSaid : Prop := stepExactRow.holds Try.pinned (OpenSpec.ofChange stepExactSpec)

/-- ITS FALSE NEIGHBOUR: 'it returns false'. Refute it at one input. -/
def stepExactWrong : ChangeSpec := { name := "stepExact", fn := fun _ => fun
  | [d] => { results := [.lit (.bool false)], args := [d] }
  | _ => none }
def StepExactWrongFalsely : Prop := stepExactRow.holds Try.pinned (OpenSpec.ofChange stepExactWrong)

/-- 'gimballaw17.StepApart': WHATEVER THE INPUT: true; the input reads as it did. -/
def stepApartSpec : ChangeSpec := { name := "stepApart", fn := fun _ => fun
  | [d] => { results := [.lit (.bool true)], args := [d] }
  | _ => none }
def stepApartRow : OpenClaim := { program := "ytibdokjghhegfaa", sum := "d64676d995163ed86f955d642d571c1427eed04ea29a368389873df97c47139a", func := "gimbal/gimballaw17.StepApart", spec := "stepApart", apart := false }
def StepApartSaid : Prop := stepApartRow.holds Try.pinned (OpenSpec.ofChange stepApartSpec)

/-- ITS FALSE NEIGHBOUR: 'it returns false'. Refute it at one input. -/
def stepApartWrong : ChangeSpec := { name := "stepApart", fn := fun _ => fun
  | [d] => { results := [.lit (.bool false)], args := [d] }
  | _ => none }
def StepApartWrongFalsely : Prop := stepApartRow.holds Try.pinned (OpenSpec.ofChange stepApartWrong)

/-- 'gimballaw17.StepSteady': WHATEVER THE INPUT: true; the input reads as it did. -/
def stepSteadySpec : ChangeSpec := { name := "stepSteady", fn := fun _ => fun
  | [d] => { results := [.lit (.bool true)], args := [d] }
  | _ => none }
def stepSteadyRow : OpenClaim := { program := "ytibdokjghhegfaa", sum := "d64676d995163ed86f955d642d571c1427eed04ea29a368389873df97c47139a", func := "gimbal/gimballaw17.StepSteady", spec := "stepSteady", apart := false }
def StepSteadySaid : Prop := stepSteadyRow.holds Try.pinned (OpenSpec.ofChange stepSteadySpec)

/-- ITS FALSE NEIGHBOUR: 'it returns false'. Refute it at one input. -/
def stepSteadyWrong : ChangeSpec := { name := "stepSteady", fn := fun _ => fun
  | [d] => { results := [.lit (.bool false)], args := [d] }
  | _ => none }
def StepSteadyWrongFalsely : Prop := stepSteadyRow.holds Try.pinned (OpenSpec.ofChange stepSteadyWrong)

/- THE SECOND FORM. 'bulk': how many values and letters a reading holds, each counted each time it is reached (what is shared counts as often as it is met; a slice's spare places count too). A statement '..UptoSaid' is the law's where the arguments, and the package variables that the reading takes, are together of bulk at most 1048576: NARROWER than '..Said'. Prove '..Said' where nothing that the law and all that it calls make is longer than what came in: it says more and counts as full. Else prove '..UptoSaid'. A law counts once. -/
mutual
def uptoBulk {H : Type} : DataW H → Nat
  | .lit (.string bytes) => bytes.length + 1
  | .lit _ => 1
  | .nil => 1
  | .ptr d => uptoBulk d + 1
  | .slice elems spare => uptoBulkAll elems + uptoBulkAll spare + 1
  | .agg parts => uptoBulkAll parts + 1
  | .iface _ d => uptoBulk d + 1
  | .map entries => uptoBulkEntries entries + 1
  | .held _ => 1
def uptoBulkAll {H : Type} : List (DataW H) → Nat
  | [] => 0
  | d :: r => uptoBulk d + uptoBulkAll r
def uptoBulkEntries {H : Type} : List (Lit × DataW H) → Nat
  | [] => 0
  | x :: r => uptoBulkEntry x + uptoBulkEntries r
def uptoBulkEntry {H : Type} : Lit × DataW H → Nat
  | (.string bytes, d) => bytes.length + uptoBulk d + 1
  | (_, d) => uptoBulk d + 1
 end
def uptoSmall : (H : Type) → List (DataW H) → Bool := fun _ ds => decide (uptoBulkAll ds ≤ 1048576)
def OpenSpec.upto (s : _root_.Go.ChangeSpec) : _root_.Go.OpenSpec := { _root_.Go.OpenSpec.ofChange s with cond := some uptoSmall }

/-- 'gimballaw20.FallExact', WHERE WHAT IT READS IS OF BULK AT MOST 1048576: true; the input reads as it did. -/
def fallExactUptoRow : OpenClaim := { program := "ytibdokjghhegfaa", sum := "d64676d995163ed86f955d642d571c1427eed04ea29a368389873df97c47139a", func := "gimbal/gimballaw20.FallExact", spec := "fallExact", apart := false, narrowed := true }
def FallExactUptoSaid : Prop := fallExactUptoRow.holds Try.pinned (OpenSpec.upto fallExactSpec)

/-- 'gimballaw20.FallOnce', WHERE WHAT IT READS IS OF BULK AT MOST 1048576: true; the input reads as it did. -/
def fallOnceUptoRow : OpenClaim := { program := "ytibdokjghhegfaa", sum := "d64676d995163ed86f955d642d571c1427eed04ea29a368389873df97c47139a", func := "gimbal/gimballaw20.FallOnce", spec := "fallOnce", apart := false, narrowed := true }
def FallOnceUptoSaid : Prop := fallOnceUptoRow.holds Try.pinned (OpenSpec.upto fallOnceSpec)

/-- 'gimballaw20.FallHigh', WHERE WHAT IT READS IS OF BULK AT MOST 1048576: true; the input reads as it did. -/
def fallHighUptoRow : OpenClaim := { program := "ytibdokjghhegfaa", sum := "d64676d995163ed86f955d642d571c1427eed04ea29a368389873df97c47139a", func := "gimbal/gimballaw20.FallHigh", spec := "fallHigh", apart := false, narrowed := true }
def FallHighUptoSaid : Prop := fallHighUptoRow.holds Try.pinned (OpenSpec.upto fallHighSpec)

/-- 'gimballaw17.StepExact', WHERE WHAT IT READS IS OF BULK AT MOST 1048576: true; the input reads as it did. -/
def stepExactUptoRow : OpenClaim := { program := "ytibdokjghhegfaa", sum := "d64676d995163ed86f955d642d571c1427eed04ea29a368389873df97c47139a", func := "gimbal/gimballaw17.StepExact", spec := "stepExact", apart := false, narrowed := true }
def StepExactUptoSaid : Prop := stepExactUptoRow.holds Try.pinned (OpenSpec.upto stepExactSpec)

/-- 'gimballaw17.StepApart', WHERE WHAT IT READS IS OF BULK AT MOST 1048576: true; the input reads as it did. -/
def stepApartUptoRow : OpenClaim := { program := "ytibdokjghhegfaa", sum := "d64676d995163ed86f955d642d571c1427eed04ea29a368389873df97c47139a", func := "gimbal/gimballaw17.StepApart", spec := "stepApart", apart := false, narrowed := true }
def StepApartUptoSaid : Prop := stepApartUptoRow.holds Try.pinned (OpenSpec.upto stepApartSpec)

/-- 'gimballaw17.StepSteady', WHERE WHAT IT READS IS OF BULK AT MOST 1048576: true; the input reads as it did. -/
def stepSteadyUptoRow : OpenClaim := { program := "ytibdokjghhegfaa", sum := "d64676d995163ed86f955d642d571c1427eed04ea29a368389873df97c47139a", func := "gimbal/gimballaw17.StepSteady", spec := "stepSteady", apart := false, narrowed := true }
def StepSteadyUptoSaid : Prop := stepSteadyUptoRow.holds Try.pinned (OpenSpec.upto stepSteadySpec)

end Rows
end Go.Proofs.Ytibdokjghhegfaa
