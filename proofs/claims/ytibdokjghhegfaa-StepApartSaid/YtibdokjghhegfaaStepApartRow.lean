/- 'gimballaw17.StepApart' returns true for every list of asks, and its argument reads afterwards as it read before. No condition. -/
import Derived.Test.YtibdokjghhegfaaRows
import Derived.Test.YtibdokjghhegfaaPStepApartx2
import Derived.Test.YtibdokjghhegfaaRd
import Derived.Test.YtibdokjghhegfaaStepApartPure
import Derived.WalkKit
import Derived.ProofKit
import Derived.OpenShut
import Derived.ShutString
import Derived.ChangeOld
import Derived.Below
import Derived.SizedLaws
namespace Go.Proofs.Ytibdokjghhegfaa.stepApart
open Go.ChangeShapes Go.WideShapes Go.ChangeAt Go.RowKit
open Go.Proofs.Ytibdokjghhegfaa.PStepApart Go.Proofs.Ytibdokjghhegfaa.Rdk Go.Proofs.YtibdokjghhegfaaW.PrintWords
theorem own : ownKnob Try.prog.godebug = none := by kernel_rfl
theorem laidOut : laidOutB Try.prog = true := by kernel_rfl

set_option maxRecDepth 100000 in
theorem lifted (os : Os) (started : os.Started) (H : Type) (enc : TypeId × Value → H) :
    ReturnsInHanded {} Try.checked os 7 .any (Rows.stepApartSpec.pre6 enc Try.prog Try.f7 Rows.stepApartRow.domain false) (Rows.stepApartSpec.post enc Try.prog Try.f7 false true false false) := by
  refine returnsInHanded_of_change (C := Try.checked) own started (by kernel_rfl) Try.func7
    (ChangeSpec.witness6 (enc := enc) (C := Try.checked) false ⟨#[], #[.slice none 0 0], []⟩ 8 (by kernel_rfl) (by kernel_rfl) (by kernel_rfl) (by kernel_rfl)) ?_
  intro W base args ds gs before hval0 hW hcnd _
  have hval : ∀ (j : Nat) t v, Try.f7.params[j]? = some t → args[j]? = some v → Value.okWide Try.prog W .any base t v := hval0
  have hW' := hW
  obtain ⟨p, q, hA0, hV, rfl, hfz, hnd⟩ := hW
  have hA : DataW.TrodAll enc Try.prog W 0 (fun _ => true) true Try.f7.params.toList args.toList ds p := hA0
  rw [Try.params7] at hA hval
  obtain ⟨v0, vs0, d0, ds0, p0, q0, hargs, rfl, rfl, h0, r0⟩ := trodAll_cons hA
  obtain ⟨rfl, rfl, rfl⟩ := trodAll_nil r0
  obtain rfl : args = #[v0] := by cases args; simp_all
  obtain ⟨rfl, rfl⟩ := trodVars_none hV
  obtain ⟨a0, len0, cap0, rfl⟩ := okWide_slice Try.underlying39 (hval 0 39 v0 rfl rfl)
  have k0 := h0
  have lt0 : ∀ x ∈ p0, x.block < W.heap.size := by
    obtain ⟨m, hm⟩ := k0
    exact DataW.trod_lt m _ _ _ hm
  obtain ⟨l, rfl, hl, hC, hok⟩ : ∃ l, len0 = List.length l ∧ List.length l ≤ cap0 ∧ Kd.C k43 W a0 l.length l ∧ ∀ v ∈ l, StepApartPure.ok43 v := by
    obtain ⟨fuel, hf⟩ := h0
    obtain ⟨A', c, l, hcs, hl, hm, hC, hok⟩ := slice_reads z43 Try.underlying39 (by kernel_rfl) StepApartPure.rd43 hf
    simp only [Value.cells, List.cons.injEq, Value.slice.injEq, and_true] at hcs
    obtain ⟨rfl, rfl, rfl⟩ := hcs
    exact ⟨l, rfl, hl, hC, hok⟩
  clear hA0 hval0 h0
  obtain ⟨k, hk⟩ := StepApartPure.law l hok
  refine (gimballaw17_StepApart.calls k a0 cap0 l true W hC hl hk).mono fun e W' ⟨he, bel⟩ => ?_
  subst he
  exact ⟨_, rfl, _, _, _, [], _, [], hW', trodAll_mk1 (shut_bool Try.underlying4 _), (trodAll_cons_mk (Below.trod laidOut (by kernel_rfl) (of_decide_eq_true (by kernel_rfl)) k0 bel lt0) trodAll_mk0), rfl, bel.frame _, fun h => by cases h⟩

theorem over : Rows.stepApartRow.holds Try.pinned (OpenSpec.ofChange Rows.stepApartSpec) :=
  OpenClaim.holds_of_wide 7 Try.f7 rfl rfl rfl rfl rfl rfl rfl ⟨rfl, rfl, rfl, rfl, rfl⟩ rfl rfl rfl rfl rfl (by kernel_rfl) Try.func7 (by kernel_rfl)
    (of_decide_eq_true (by kernel_rfl)) (by unfold Func.isWrapper; first | (rw [if_pos (by decide +kernel)]; kernel_rfl) | (rw [if_neg (by decide +kernel)]; exact ⟨rfl, rfl⟩))
    (fun os started H enc _ => lifted os started H enc)
theorem proved : Rows.StepApartSaid := over
#print axioms proved
end Go.Proofs.Ytibdokjghhegfaa.stepApart
namespace Go.Proofs.Ytibdokjghhegfaa
/-- The row, under a short name, for the claim. -/
theorem stepApart_holds : Rows.StepApartSaid := stepApart.proved
end Go.Proofs.Ytibdokjghhegfaa
