/-
  No cell of these rows narrows 'for every input' (looked for: loops, veiled, ifaces, maps, wideKeys, modest, calm, conditions, laid).
  DERIVED. THE GIVEN ROWS OF THIS SEAT. 4 by the template 'for every input the law returns true; each argument reads behind the call as it read before'; 0 by the template 'total and deterministic' (their statements: YtldnnkceeeinlaaTotals.lean).
  GIVEN WITH THE SEED: the statements are not yours to turn. If you find one false, say at which input.
  Laid BY PROGRAM, IN A SANDBOX (cutbox-rows.mjs): the forced cells as the released guide's own fill.sh prints them over the translation 74acc5c9fb991c9e… (all of the seat's roots in one cut). By AI agents, Wed Nov 11 2026. No macro, syntax, notation, axiom, sorry.
-/
import Derived.Test.YtldnnkceeeinlaaChecked
import GoSem.Claim
import GoSem.ClaimJoined
import GoSem.ClaimMapViews
import Derived.JoinedTies
import Derived.KernelRfl
namespace Go.Proofs.Ytldnnkceeeinlaa
/- THE CELL 'sum', in the pinned program and in every row, IS THE sha256 OF THE DUMP (.gsa) THAT YtldnnkceeeinlaaProg.lean LOADS. Nothing in Lean hashes anything: it is a label: what it is worth is what the hold of that sum in a sandbox is worth. -/
noncomputable def Try.pinned : Pinned := { name := "ytldnnkceeeinlaa", sum := "74acc5c9fb991c9e6ca85a57b7c5f5b4a891149e3551b5bc26ef3e6a370f92f0", checked := Try.checked }
namespace Rows
def none {H : Type} : Left H := { results := [], args := [] }

/-- 'gimballaw28.BatchDrops': WHATEVER THE INPUT: true; the input reads as it did. -/
def batchDropsSpec : ChangeSpec := { name := "batchDrops", fn := fun _ => fun
  | [d] => { results := [.lit (.bool true)], args := [d] }
  | _ => none }
def batchDropsRow : OpenClaim := { program := "ytldnnkceeeinlaa", sum := "74acc5c9fb991c9e6ca85a57b7c5f5b4a891149e3551b5bc26ef3e6a370f92f0", func := "gimbal/gimballaw28.BatchDrops", spec := "batchDrops", unfollowed := true, recurses := true, apart := false }
def BatchDropsSaid : Prop := batchDropsRow.holds Try.pinned (OpenSpec.ofChange batchDropsSpec)

/-- ITS FALSE NEIGHBOUR: 'it returns false'. Refute it at one input. -/
def batchDropsWrong : ChangeSpec := { name := "batchDrops", fn := fun _ => fun
  | [d] => { results := [.lit (.bool false)], args := [d] }
  | _ => none }
def BatchDropsWrongFalsely : Prop := batchDropsRow.holds Try.pinned (OpenSpec.ofChange batchDropsWrong)

/-- 'gimballaw28.BatchAccounts': WHATEVER THE INPUT: true; the input reads as it did. -/
def batchAccountsSpec : ChangeSpec := { name := "batchAccounts", fn := fun _ => fun
  | [d] => { results := [.lit (.bool true)], args := [d] }
  | _ => none }
def batchAccountsRow : OpenClaim := { program := "ytldnnkceeeinlaa", sum := "74acc5c9fb991c9e6ca85a57b7c5f5b4a891149e3551b5bc26ef3e6a370f92f0", func := "gimbal/gimballaw28.BatchAccounts", spec := "batchAccounts", unfollowed := true, recurses := true, apart := false }
def BatchAccountsSaid : Prop := batchAccountsRow.holds Try.pinned (OpenSpec.ofChange batchAccountsSpec)

/-- ITS FALSE NEIGHBOUR: 'it returns false'. Refute it at one input. -/
def batchAccountsWrong : ChangeSpec := { name := "batchAccounts", fn := fun _ => fun
  | [d] => { results := [.lit (.bool false)], args := [d] }
  | _ => none }
def BatchAccountsWrongFalsely : Prop := batchAccountsRow.holds Try.pinned (OpenSpec.ofChange batchAccountsWrong)

/-- 'gimballaw28.BatchReady': WHATEVER THE INPUT: true; the input reads as it did. -/
def batchReadySpec : ChangeSpec := { name := "batchReady", fn := fun _ => fun
  | [d] => { results := [.lit (.bool true)], args := [d] }
  | _ => none }
def batchReadyRow : OpenClaim := { program := "ytldnnkceeeinlaa", sum := "74acc5c9fb991c9e6ca85a57b7c5f5b4a891149e3551b5bc26ef3e6a370f92f0", func := "gimbal/gimballaw28.BatchReady", spec := "batchReady", unfollowed := true, recurses := true, apart := false }
def BatchReadySaid : Prop := batchReadyRow.holds Try.pinned (OpenSpec.ofChange batchReadySpec)

/-- ITS FALSE NEIGHBOUR: 'it returns false'. Refute it at one input. -/
def batchReadyWrong : ChangeSpec := { name := "batchReady", fn := fun _ => fun
  | [d] => { results := [.lit (.bool false)], args := [d] }
  | _ => none }
def BatchReadyWrongFalsely : Prop := batchReadyRow.holds Try.pinned (OpenSpec.ofChange batchReadyWrong)

/-- 'gimballaw28.BatchExact': WHATEVER THE INPUT: true; the input reads as it did. -/
def batchExactSpec : ChangeSpec := { name := "batchExact", fn := fun _ => fun
  | [d] => { results := [.lit (.bool true)], args := [d] }
  | _ => none }
def batchExactRow : OpenClaim := { program := "ytldnnkceeeinlaa", sum := "74acc5c9fb991c9e6ca85a57b7c5f5b4a891149e3551b5bc26ef3e6a370f92f0", func := "gimbal/gimballaw28.BatchExact", spec := "batchExact", unfollowed := true, recurses := true, apart := false }
def BatchExactSaid : Prop := batchExactRow.holds Try.pinned (OpenSpec.ofChange batchExactSpec)

/-- ITS FALSE NEIGHBOUR: 'it returns false'. Refute it at one input. -/
def batchExactWrong : ChangeSpec := { name := "batchExact", fn := fun _ => fun
  | [d] => { results := [.lit (.bool false)], args := [d] }
  | _ => none }
def BatchExactWrongFalsely : Prop := batchExactRow.holds Try.pinned (OpenSpec.ofChange batchExactWrong)

/- THE SECOND FORM. 'bulk': how many values and letters a reading holds, each counted each time it is reached (what is shared counts as often as it is met; a slice's spare places count too). A statement '..UptoSaid' is the law's where the arguments, and the package variables that the reading takes, are together of bulk at most 1048576: NARROWER than '..Said'. Prove '..Said' where nothing that the law and all that it calls make is longer than what came in: it says more and counts as full. Else prove '..UptoSaid'. A law counts once. -/
mutual
def uptoBulk {H : Type} : DataW H → Nat
  | .lit (.string bytes) => bytes.length + 1
  | .lit _ => 1
  | .nil => 1
  | .ptr d => uptoBulk d + 1
  | .slice elems spare => uptoBulkAll elems + uptoBulkAll spare + 1
  | .agg parts => uptoBulkAll parts + 1
  | .iface _ d => uptoBulk d + 1
  | .map entries => uptoBulkEntries entries + 1
  | .held _ => 1
def uptoBulkAll {H : Type} : List (DataW H) → Nat
  | [] => 0
  | d :: r => uptoBulk d + uptoBulkAll r
def uptoBulkEntries {H : Type} : List (Lit × DataW H) → Nat
  | [] => 0
  | x :: r => uptoBulkEntry x + uptoBulkEntries r
def uptoBulkEntry {H : Type} : Lit × DataW H → Nat
  | (.string bytes, d) => bytes.length + uptoBulk d + 1
  | (_, d) => uptoBulk d + 1
 end
def uptoSmall : (H : Type) → List (DataW H) → Bool := fun _ ds => decide (uptoBulkAll ds ≤ 1048576)
def OpenSpec.upto (s : _root_.Go.ChangeSpec) : _root_.Go.OpenSpec := { _root_.Go.OpenSpec.ofChange s with cond := some uptoSmall }

/-- 'gimballaw28.BatchDrops', WHERE WHAT IT READS IS OF BULK AT MOST 1048576: true; the input reads as it did. -/
def batchDropsUptoRow : OpenClaim := { program := "ytldnnkceeeinlaa", sum := "74acc5c9fb991c9e6ca85a57b7c5f5b4a891149e3551b5bc26ef3e6a370f92f0", func := "gimbal/gimballaw28.BatchDrops", spec := "batchDrops", unfollowed := true, recurses := true, apart := false, narrowed := true }
def BatchDropsUptoSaid : Prop := batchDropsUptoRow.holds Try.pinned (OpenSpec.upto batchDropsSpec)

/-- 'gimballaw28.BatchAccounts', WHERE WHAT IT READS IS OF BULK AT MOST 1048576: true; the input reads as it did. -/
def batchAccountsUptoRow : OpenClaim := { program := "ytldnnkceeeinlaa", sum := "74acc5c9fb991c9e6ca85a57b7c5f5b4a891149e3551b5bc26ef3e6a370f92f0", func := "gimbal/gimballaw28.BatchAccounts", spec := "batchAccounts", unfollowed := true, recurses := true, apart := false, narrowed := true }
def BatchAccountsUptoSaid : Prop := batchAccountsUptoRow.holds Try.pinned (OpenSpec.upto batchAccountsSpec)

/-- 'gimballaw28.BatchReady', WHERE WHAT IT READS IS OF BULK AT MOST 1048576: true; the input reads as it did. -/
def batchReadyUptoRow : OpenClaim := { program := "ytldnnkceeeinlaa", sum := "74acc5c9fb991c9e6ca85a57b7c5f5b4a891149e3551b5bc26ef3e6a370f92f0", func := "gimbal/gimballaw28.BatchReady", spec := "batchReady", unfollowed := true, recurses := true, apart := false, narrowed := true }
def BatchReadyUptoSaid : Prop := batchReadyUptoRow.holds Try.pinned (OpenSpec.upto batchReadySpec)

/-- 'gimballaw28.BatchExact', WHERE WHAT IT READS IS OF BULK AT MOST 1048576: true; the input reads as it did. -/
def batchExactUptoRow : OpenClaim := { program := "ytldnnkceeeinlaa", sum := "74acc5c9fb991c9e6ca85a57b7c5f5b4a891149e3551b5bc26ef3e6a370f92f0", func := "gimbal/gimballaw28.BatchExact", spec := "batchExact", unfollowed := true, recurses := true, apart := false, narrowed := true }
def BatchExactUptoSaid : Prop := batchExactUptoRow.holds Try.pinned (OpenSpec.upto batchExactSpec)

end Rows
end Go.Proofs.Ytldnnkceeeinlaa
