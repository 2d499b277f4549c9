/-
  No cell of these rows narrows 'for every input' (looked for: loops, veiled, ifaces, maps, wideKeys, modest, calm, conditions, laid).
  DERIVED. THE GIVEN ROWS OF THIS SEAT. 4 by the template 'for every input the law returns true; each argument reads behind the call as it read before'; 0 by the template 'total and deterministic' (their statements: YtkhalpnonijogaaGreatTotals.lean).
  GIVEN WITH THE SEED: the statements are not yours to turn. If you find one false, say at which input.
  Laid BY PROGRAM, IN A SANDBOX (cutbox-rows.mjs): the forced cells as the released guide's own fill.sh prints them over the translation 583796d8bf97e98a… (all of the seat's roots in one cut). By AI agents, Wed Nov 11 2026. No macro, syntax, notation, axiom, sorry.
-/
import Derived.Test.YtkhalpnonijogaaGreatChecked
import GoSem.Claim
import GoSem.ClaimJoined
import GoSem.ClaimMapViews
import Derived.JoinedTies
import Derived.KernelRfl
namespace Go.Proofs.YtkhalpnonijogaaGreat
/- THE CELL 'sum', in the pinned program and in every row, IS THE sha256 OF THE DUMP (.gsa) THAT YtkhalpnonijogaaGreatProg.lean LOADS. Nothing in Lean hashes anything: it is a label: what it is worth is what the hold of that sum in a sandbox is worth. -/
noncomputable def Tryz.pinned : Pinned := { name := "ytkhalpnonijogaagreat", sum := "583796d8bf97e98a820ae5a3da10b6afd2a69f54aa20ee9bea2039ec1e2931ad", checked := Tryz.checked }
namespace Rows
def none {H : Type} : Left H := { results := [], args := [] }

/-- 'gimbaltop.TopRates': WHATEVER THE INPUT: true; the input reads as it did. -/
def topRatesSpec : ChangeSpec := { name := "topRates", fn := fun _ => fun
  | [d] => { results := [.lit (.bool true)], args := [d] }
  | _ => none }
def topRatesRow : OpenClaim := { program := "ytkhalpnonijogaagreat", sum := "583796d8bf97e98a820ae5a3da10b6afd2a69f54aa20ee9bea2039ec1e2931ad", func := "gimbal/gimbaltop.TopRates", spec := "topRates", inPlace := ["slices.overlaps[gimbal/api.Entry]", "math/bits.Add64", "math/bits.Sub64", "slices.overlaps[gimbal/rate.entry[gimbal/rate.key, gimbal/rate.sub]]"], unfollowed := true, recurses := true, named := ["math/bits.divideError", "math/bits.overflowError"], apart := false }
def TopRatesSaid : Prop := topRatesRow.holds Tryz.pinned (OpenSpec.ofChange topRatesSpec)

/-- ITS FALSE NEIGHBOUR: 'it returns false'. Refute it at one input. -/
def topRatesWrong : ChangeSpec := { name := "topRates", fn := fun _ => fun
  | [d] => { results := [.lit (.bool false)], args := [d] }
  | _ => none }
def TopRatesWrongFalsely : Prop := topRatesRow.holds Tryz.pinned (OpenSpec.ofChange topRatesWrong)

/-- 'gimbaltop.TopSamples': WHATEVER THE INPUT: true; the input reads as it did. -/
def topSamplesSpec : ChangeSpec := { name := "topSamples", fn := fun _ => fun
  | [d] => { results := [.lit (.bool true)], args := [d] }
  | _ => none }
def topSamplesRow : OpenClaim := { program := "ytkhalpnonijogaagreat", sum := "583796d8bf97e98a820ae5a3da10b6afd2a69f54aa20ee9bea2039ec1e2931ad", func := "gimbal/gimbaltop.TopSamples", spec := "topSamples", inPlace := ["slices.overlaps[gimbal/api.Entry]", "math/bits.Add64", "math/bits.Sub64", "slices.overlaps[gimbal/rate.entry[gimbal/rate.key, gimbal/rate.sub]]"], unfollowed := true, recurses := true, named := ["math/bits.divideError", "math/bits.overflowError"], apart := false }
def TopSamplesSaid : Prop := topSamplesRow.holds Tryz.pinned (OpenSpec.ofChange topSamplesSpec)

/-- ITS FALSE NEIGHBOUR: 'it returns false'. Refute it at one input. -/
def topSamplesWrong : ChangeSpec := { name := "topSamples", fn := fun _ => fun
  | [d] => { results := [.lit (.bool false)], args := [d] }
  | _ => none }
def TopSamplesWrongFalsely : Prop := topSamplesRow.holds Tryz.pinned (OpenSpec.ofChange topSamplesWrong)

/-- 'gimbaltop.TopFlush': WHATEVER THE INPUT: true; the input reads as it did. -/
def topFlushSpec : ChangeSpec := { name := "topFlush", fn := fun _ => fun
  | [d] => { results := [.lit (.bool true)], args := [d] }
  | _ => none }
def topFlushRow : OpenClaim := { program := "ytkhalpnonijogaagreat", sum := "583796d8bf97e98a820ae5a3da10b6afd2a69f54aa20ee9bea2039ec1e2931ad", func := "gimbal/gimbaltop.TopFlush", spec := "topFlush", inPlace := ["slices.overlaps[gimbal/api.Entry]", "math/bits.Add64", "math/bits.Sub64", "slices.overlaps[gimbal/rate.entry[gimbal/rate.key, gimbal/rate.sub]]"], unfollowed := true, recurses := true, named := ["math/bits.divideError", "math/bits.overflowError"], apart := false }
def TopFlushSaid : Prop := topFlushRow.holds Tryz.pinned (OpenSpec.ofChange topFlushSpec)

/-- ITS FALSE NEIGHBOUR: 'it returns false'. Refute it at one input. -/
def topFlushWrong : ChangeSpec := { name := "topFlush", fn := fun _ => fun
  | [d] => { results := [.lit (.bool false)], args := [d] }
  | _ => none }
def TopFlushWrongFalsely : Prop := topFlushRow.holds Tryz.pinned (OpenSpec.ofChange topFlushWrong)

/-- 'gimbaltop.TopNoise': WHATEVER THE INPUT: true; the input reads as it did. -/
def topNoiseSpec : ChangeSpec := { name := "topNoise", fn := fun _ => fun
  | [d] => { results := [.lit (.bool true)], args := [d] }
  | _ => none }
def topNoiseRow : OpenClaim := { program := "ytkhalpnonijogaagreat", sum := "583796d8bf97e98a820ae5a3da10b6afd2a69f54aa20ee9bea2039ec1e2931ad", func := "gimbal/gimbaltop.TopNoise", spec := "topNoise", inPlace := ["slices.overlaps[gimbal/api.Entry]", "math/bits.Add64", "math/bits.Sub64", "slices.overlaps[gimbal/rate.entry[gimbal/rate.key, gimbal/rate.sub]]"], unfollowed := true, recurses := true, named := ["math/bits.divideError", "math/bits.overflowError"], apart := false }
def TopNoiseSaid : Prop := topNoiseRow.holds Tryz.pinned (OpenSpec.ofChange topNoiseSpec)

/-- ITS FALSE NEIGHBOUR: 'it returns false'. Refute it at one input. -/
def topNoiseWrong : ChangeSpec := { name := "topNoise", fn := fun _ => fun
  | [d] => { results := [.lit (.bool false)], args := [d] }
  | _ => none }
def TopNoiseWrongFalsely : Prop := topNoiseRow.holds Tryz.pinned (OpenSpec.ofChange topNoiseWrong)

/- THE SECOND FORM. 'bulk': how many values and letters a reading holds, each counted each time it is reached (what is shared counts as often as it is met; a slice's spare places count too). A statement '..UptoSaid' is the law's where the arguments, and the package variables that the reading takes, are together of bulk at most 1048576: NARROWER than '..Said'. Prove '..Said' where nothing that the law and all that it calls make is longer than what came in: it says more and counts as full. Else prove '..UptoSaid'. A law counts once. -/
mutual
def uptoBulk {H : Type} : DataW H → Nat
  | .lit (.string bytes) => bytes.length + 1
  | .lit _ => 1
  | .nil => 1
  | .ptr d => uptoBulk d + 1
  | .slice elems spare => uptoBulkAll elems + uptoBulkAll spare + 1
  | .agg parts => uptoBulkAll parts + 1
  | .iface _ d => uptoBulk d + 1
  | .map entries => uptoBulkEntries entries + 1
  | .held _ => 1
def uptoBulkAll {H : Type} : List (DataW H) → Nat
  | [] => 0
  | d :: r => uptoBulk d + uptoBulkAll r
def uptoBulkEntries {H : Type} : List (Lit × DataW H) → Nat
  | [] => 0
  | x :: r => uptoBulkEntry x + uptoBulkEntries r
def uptoBulkEntry {H : Type} : Lit × DataW H → Nat
  | (.string bytes, d) => bytes.length + uptoBulk d + 1
  | (_, d) => uptoBulk d + 1
 end
def uptoSmall : (H : Type) → List (DataW H) → Bool := fun _ ds => decide (uptoBulkAll ds ≤ 1048576)
def OpenSpec.upto (s : _root_.Go.ChangeSpec) : _root_.Go.OpenSpec := { _root_.Go.OpenSpec.ofChange s with cond := some uptoSmall }

/-- 'gimbaltop.TopRates', WHERE WHAT IT READS IS OF BULK AT MOST 1048576: true; the input reads as it did. -/
def topRatesUptoRow : OpenClaim := { program := "ytkhalpnonijogaagreat", sum := "583796d8bf97e98a820ae5a3da10b6afd2a69f54aa20ee9bea2039ec1e2931ad", func := "gimbal/gimbaltop.TopRates", spec := "topRates", inPlace := ["slices.overlaps[gimbal/api.Entry]", "math/bits.Add64", "math/bits.Sub64", "slices.overlaps[gimbal/rate.entry[gimbal/rate.key, gimbal/rate.sub]]"], unfollowed := true, recurses := true, named := ["math/bits.divideError", "math/bits.overflowError"], apart := false, narrowed := true }
def TopRatesUptoSaid : Prop := topRatesUptoRow.holds Tryz.pinned (OpenSpec.upto topRatesSpec)

/-- 'gimbaltop.TopSamples', WHERE WHAT IT READS IS OF BULK AT MOST 1048576: true; the input reads as it did. -/
def topSamplesUptoRow : OpenClaim := { program := "ytkhalpnonijogaagreat", sum := "583796d8bf97e98a820ae5a3da10b6afd2a69f54aa20ee9bea2039ec1e2931ad", func := "gimbal/gimbaltop.TopSamples", spec := "topSamples", inPlace := ["slices.overlaps[gimbal/api.Entry]", "math/bits.Add64", "math/bits.Sub64", "slices.overlaps[gimbal/rate.entry[gimbal/rate.key, gimbal/rate.sub]]"], unfollowed := true, recurses := true, named := ["math/bits.divideError", "math/bits.overflowError"], apart := false, narrowed := true }
def TopSamplesUptoSaid : Prop := topSamplesUptoRow.holds Tryz.pinned (OpenSpec.upto topSamplesSpec)

/-- 'gimbaltop.TopFlush', WHERE WHAT IT READS IS OF BULK AT MOST 1048576: true; the input reads as it did. -/
def topFlushUptoRow : OpenClaim := { program := "ytkhalpnonijogaagreat", sum := "583796d8bf97e98a820ae5a3da10b6afd2a69f54aa20ee9bea2039ec1e2931ad", func := "gimbal/gimbaltop.TopFlush", spec := "topFlush", inPlace := ["slices.overlaps[gimbal/api.Entry]", "math/bits.Add64", "math/bits.Sub64", "slices.overlaps[gimbal/rate.entry[gimbal/rate.key, gimbal/rate.sub]]"], unfollowed := true, recurses := true, named := ["math/bits.divideError", "math/bits.overflowError"], apart := false, narrowed := true }
def TopFlushUptoSaid : Prop := topFlushUptoRow.holds Tryz.pinned (OpenSpec.upto topFlushSpec)

/-- 'gimbaltop.TopNoise', WHERE WHAT IT READS IS OF BULK AT MOST 1048576: true; the input reads as it did. -/
def topNoiseUptoRow : OpenClaim := { program := "ytkhalpnonijogaagreat", sum := "583796d8bf97e98a820ae5a3da10b6afd2a69f54aa20ee9bea2039ec1e2931ad", func := "gimbal/gimbaltop.TopNoise", spec := "topNoise", inPlace := ["slices.overlaps[gimbal/api.Entry]", "math/bits.Add64", "math/bits.Sub64", "slices.overlaps[gimbal/rate.entry[gimbal/rate.key, gimbal/rate.sub]]"], unfollowed := true, recurses := true, named := ["math/bits.divideError", "math/bits.overflowError"], apart := false, narrowed := true }
def TopNoiseUptoSaid : Prop := topNoiseUptoRow.holds Tryz.pinned (OpenSpec.upto topNoiseSpec)

end Rows
end Go.Proofs.YtkhalpnonijogaaGreat
