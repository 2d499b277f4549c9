/- 'gimbaltop.TopNoise' returns true for every noise, and its argument reads afterwards as it read before. No condition. -/
import Derived.Test.YtkhalpnonijogaaGreatRows
import Derived.Test.YtkhalpnonijogaaGreatX52
import Derived.Test.YtkhalpnonijogaaGreatNFacts
import Derived.WalkKit
import Derived.ProofKit
import Derived.OpenShut
import Derived.ShutString
import Derived.ChangeOld
import Derived.Below
import Derived.SizedLaws
namespace Go.Proofs.YtkhalpnonijogaaGreat.topNoise
open Go.ChangeShapes Go.WideShapes Go.ChangeAt Go.RowKit
open Go.Proofs.YtkhalpnonijogaaGreat.Rdk Go.Proofs.YtkhalpnonijogaaGreat.NRead Go.Proofs.YtkhalpnonijogaaGreatW.PrintWords
theorem own : ownKnob Tryz.prog.godebug = none := by kernel_rfl
theorem laidOut : laidOutB Tryz.prog = true := k2

set_option maxRecDepth 100000 in
theorem lifted (os : Os) (started : os.Started) (H : Type) (enc : TypeId × Value → H) :
    ReturnsInHanded {} Tryz.checked os 6 .any (Rows.topNoiseSpec.pre6 enc Tryz.prog Tryz.f6 Rows.topNoiseRow.domain false) (Rows.topNoiseSpec.post enc Tryz.prog Tryz.f6 false true false false) := by
  refine returnsInHanded_of_change (C := Tryz.checked) own started (by kernel_rfl) Tryz.func6
    (ChangeSpec.witness6 (enc := enc) (C := Tryz.checked) false ⟨#[], #[.agg #[.slice none 0 0, .slice none 0 0, .int .i64 0]], []⟩ 8 (by kernel_rfl) (by kernel_rfl) (by kernel_rfl) (by kernel_rfl)) ?_
  intro W base args ds gs before hval0 hW hcnd _
  have hval : ∀ (j : Nat) t v, Tryz.f6.params[j]? = some t → args[j]? = some v → Value.okWide Tryz.prog W .any base t v := hval0
  have hW' := hW
  obtain ⟨p, q, hA0, hV, rfl, hfz, hnd⟩ := hW
  have hA : DataW.TrodAll enc Tryz.prog W 0 (fun _ => true) true Tryz.f6.params.toList args.toList ds p := hA0
  rw [Tryz.params6] at hA hval
  obtain ⟨v0, vs0, d0, ds0, p0, q0, hargs, rfl, rfl, h0, r0⟩ := trodAll_cons hA
  obtain ⟨rfl, rfl, rfl⟩ := trodAll_nil r0
  obtain rfl : args = #[v0] := by cases args; simp_all
  obtain ⟨rfl, rfl⟩ := trodVars_none hV
  obtain ⟨cs, rfl, hsz⟩ := okWide_struct Tryz.underlying66 (hval 0 66 v0 rfl rfl)
  have k0 := h0
  have lt0 : ∀ x ∈ p0, x.block < W.heap.size := by
    obtain ⟨m, hm⟩ := k0
    exact DataW.trod_lt m _ _ _ hm
  obtain ⟨A, B, c, d, l, ss, N, rfl, hB, hS⟩ : ∃ (A B : Option Addr) (c d : Nat) (l : List Int) (ss : List Sx) (N : Int), cs = #[.slice A l.length c, .slice B ss.length d, .int .i64 N] ∧ Byts W A (l.map (fun n => BitVec.ofInt 8 n)) ∧ Subs W B ss := by
    obtain ⟨fuel, hf⟩ := h0
    obtain ⟨⟨l, ss, N⟩, hK, hok⟩ := rd66 _ _ _ _ _ _ _ _ _ hf
    obtain ⟨_, _, hcs, ⟨A, c, rfl, hl1, hC1⟩, ⟨_, _, rfl, ⟨B, d, rfl, hl2, hC2⟩, rfl⟩⟩ := hK
    refine ⟨A, B, c, d, l, ss, N, ?_, byts_of hC1 hok, subs_of hC2⟩
    exact Array.toList_inj.1 hcs
  clear hA0 hval0 h0
  refine (noise_ok hB (by rw [List.length_map]) hS rfl).mono fun e W' ⟨he, hk⟩ => ?_
  have bel : Below W.heap.size W W' := hk.below (Nat.le_refl _) (by simp)
  subst he
  exact ⟨_, rfl, _, _, _, [], _, [], hW', trodAll_mk1 (shut_bool Tryz.underlying4 _), (trodAll_cons_mk (Below.trod laidOut (by kernel_rfl) (of_decide_eq_true (by kernel_rfl)) k0 bel lt0) trodAll_mk0), rfl, bel.frame _, fun h => by cases h⟩

theorem closed : joinedFacts Tryz.prog 6 Tryz.f6 Rows.topNoiseSpec Rows.topNoiseRow = true := by
  unfold joinedFacts
  rw [k1, k2, k3, k4, k5, k6, k7, k8, k9, k10, k11, k12, k13, k14, k15, k16, k17, k17b, k18, k19, k20, k21, k22, k23, k23b, k24, k24b, k24c, k26, k27, k28]
  simp only [Bool.true_and, Bool.and_true]
  kernel_rfl
theorem named : Tryz.prog.funcNamed Rows.topNoiseRow.func = some 6 := by kernel_rfl
theorem instanced : Tryz.f6.isInstance Tryz.prog Rows.topNoiseRow.origin Rows.topNoiseRow.targs := of_decide_eq_true (by kernel_rfl)
theorem wrapped : Tryz.f6.isWrapper Tryz.prog Rows.topNoiseRow.wrapper Rows.topNoiseRow.mainSum := by
  unfold Func.isWrapper; first | (rw [if_pos (by decide +kernel)]; kernel_rfl) | (rw [if_neg (by decide +kernel)]; exact ⟨rfl, rfl⟩)
theorem over : Rows.topNoiseRow.holds Tryz.pinned (OpenSpec.ofChange Rows.topNoiseSpec) :=
  OpenClaim.holds_of_wide 6 Tryz.f6 rfl rfl rfl rfl rfl rfl rfl ⟨rfl, rfl, rfl, rfl, rfl⟩ rfl rfl rfl rfl rfl named Tryz.func6 closed instanced wrapped
    (fun os started H enc _ => lifted os started H enc)
theorem proved : Rows.TopNoiseSaid := over
#print axioms proved
end Go.Proofs.YtkhalpnonijogaaGreat.topNoise
namespace Go.Proofs.YtkhalpnonijogaaGreat
/-- The row, under a short name, for the claim. -/
theorem topNoise_holds : Rows.TopNoiseSaid := topNoise.proved
end Go.Proofs.YtkhalpnonijogaaGreat
