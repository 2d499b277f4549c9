/- 'gimballaw5.RingExact' returns true for every script, and its argument reads afterwards as it read before. No condition. -/
import Derived.Test.YtoncobhjdplamaaRows
import Derived.Test.YtoncobhjdplamaaExact
import Derived.Test.YtoncobhjdplamaaRd
import Derived.WalkKit
import Derived.ProofKit
import Derived.OpenShut
import Derived.ShutString
import Derived.ChangeOld
import Derived.Below
namespace Go.Proofs.Ytoncobhjdplamaa.ringExact
open Go.ChangeShapes Go.WideShapes Go.ChangeAt Go.RowKit
open Go.Proofs.Ytoncobhjdplamaa.Rdk Go.Proofs.YtoncobhjdplamaaW.PrintWords
theorem own : ownKnob Try.prog.godebug = none := by kernel_rfl
theorem laidOut : laidOutB Try.prog = true := by kernel_rfl

def k35 : Kd Act := Kd.iso (Kd.pair (Kd.int .i64) (Kd.pair (Kd.int .i64) Kd.string)) (fun x : Act => (x.d, x.n, x.s))
theorem rd35 : Rd Try.prog 35 k35 (fun _ => True) :=
  rd_imp (rd_iso _ (fun a => Act.mk a.1 a.2.1 a.2.2) (fun _ => rfl)
    (rd_struct Try.underlying35 (by kernel_rfl) (rdF_cons (rd_int Try.underlying3) rfl (by kernel_rfl) (rdF_cons (rd_int Try.underlying3) rfl (by kernel_rfl) (rdF_last (rd_string Try.underlying9) rfl (by kernel_rfl))))))
    (fun _ _ => trivial)
theorem rd24 : Rd Try.prog 24 (Kd.pair (Kd.int .i64) (Kd.slice 35 k35)) (fun x => (Lit.int .i64 x.1).wf = true) :=
  rd_imp (rd_struct Try.underlying24 (by kernel_rfl) (rdF_cons (rd_int Try.underlying3) rfl (by kernel_rfl) (rdF_last (rd_slice 35 ⟨0, 0, ByteArray.empty⟩ Try.underlying22 (by kernel_rfl) rd35) rfl (by kernel_rfl))))
    (fun _ h => h.1)

theorem acts_of {w : World} {A : Option Addr} {l : List Act} (h : Kd.C k35 w A l.length l) : Acts w A l := by
  intro i x hx
  have hi : i < l.length := (List.getElem?_eq_some_iff.1 hx).1
  obtain ⟨ad, c, e, hc, hK, hc0⟩ := Kd.C_get h (⟨0, 0, ByteArray.empty⟩ : Act) (i : Int) (by omega) (by omega)
  have hx' : l.getD (i : Int).toNat ⟨0, 0, ByteArray.empty⟩ = x := by simp [List.getD, hx]
  rw [hx'] at hK
  obtain ⟨_, _, rfl, rfl, ⟨_, _, rfl, rfl, rfl⟩⟩ := hK
  have hs : k35.sz = 3 := rfl
  rw [hs] at hc0
  have h0 := hc0 0 _ rfl
  have h1 := hc0 1 _ rfl
  have h2 := hc0 2 _ rfl
  simp only [Int.toNat_natCast, Nat.add_zero] at h0 h1 h2
  refine ⟨ad, e, h0, ?_, ?_⟩
  · rw [← add_field _ _ 1 (by omega)]; exact h1
  · rw [← add_field _ _ 2 (by omega)]; exact h2

set_option maxRecDepth 100000 in
theorem lifted (os : Os) (started : os.Started) (H : Type) (enc : TypeId × Value → H) :
    ReturnsInHanded {} Try.checked os 4 .any (Rows.ringExactSpec.pre6 enc Try.prog Try.f4 Rows.ringExactRow.domain false) (Rows.ringExactSpec.post enc Try.prog Try.f4 false true false false) := by
  refine returnsInHanded_of_change (C := Try.checked) own started (by kernel_rfl) Try.func4
    (ChangeSpec.witness6 (enc := enc) (C := Try.checked) false ⟨#[], #[.agg #[.int .i64 0, .slice none 0 0]], []⟩ 8 (by kernel_rfl) (by kernel_rfl) (by kernel_rfl) (by kernel_rfl)) ?_
  intro W base args ds gs before hval0 hW hcnd _
  have hval : ∀ (j : Nat) t v, Try.f4.params[j]? = some t → args[j]? = some v → Value.okWide Try.prog W .any base t v := hval0
  have hW' := hW
  obtain ⟨p, q, hA0, hV, rfl, hfz, hnd⟩ := hW
  have hA : DataW.TrodAll enc Try.prog W 0 (fun _ => true) true Try.f4.params.toList args.toList ds p := hA0
  rw [Try.params4] at hA hval
  obtain ⟨v0, vs0, d0, ds0, p0, q0, hargs, rfl, rfl, h0, r0⟩ := trodAll_cons hA
  obtain ⟨rfl, rfl, rfl⟩ := trodAll_nil r0
  obtain rfl : args = #[v0] := by cases args; simp_all
  obtain ⟨rfl, rfl⟩ := trodVars_none hV
  obtain ⟨cs, rfl, hsz⟩ := okWide_struct Try.underlying24 (hval 0 24 v0 rfl rfl)
  have k0 := h0
  have lt0 : ∀ x ∈ p0, x.block < W.heap.size := by
    obtain ⟨m, hm⟩ := k0
    exact DataW.trod_lt m _ _ _ hm
  obtain ⟨cp, A, c, l, hcs, hC⟩ : ∃ cp A c, ∃ l : List Act, cs = #[.int .i64 cp, .slice A l.length c] ∧ Acts W A l := by
    obtain ⟨fuel, hf⟩ := h0
    obtain ⟨⟨cp, l⟩, ⟨c0, c1, hcs, rfl, A, c, rfl, hl, hC⟩, _⟩ := rd24 _ _ _ _ _ _ _ _ _ hf
    exact ⟨cp, A, c, l, by simpa [Value.cells] using congrArg List.toArray hcs, acts_of hC⟩
  subst hcs
  clear hA0 hval0 h0
  refine (ring_exact rfl W hC).mono fun e W' ⟨he, hk⟩ => ?_
  have bel : Below W.heap.size W W' := hk.below (Nat.le_refl _) (by simp)
  subst he
  exact ⟨_, rfl, _, _, _, [], _, [], hW', trodAll_mk1 (shut_bool Try.underlying4 _), (trodAll_cons_mk (Below.trod laidOut (by kernel_rfl) (of_decide_eq_true (by kernel_rfl)) k0 bel lt0) trodAll_mk0), rfl, bel.frame _, fun h => by cases h⟩

theorem over : Rows.ringExactRow.holds Try.pinned (OpenSpec.ofChange Rows.ringExactSpec) :=
  OpenClaim.holds_of_wide 4 Try.f4 rfl rfl rfl rfl rfl rfl rfl ⟨rfl, rfl, rfl, rfl, rfl⟩ rfl rfl rfl rfl rfl (by kernel_rfl) Try.func4 (by kernel_rfl)
    (of_decide_eq_true (by kernel_rfl)) (by unfold Func.isWrapper; first | (rw [if_pos (by decide +kernel)]; kernel_rfl) | (rw [if_neg (by decide +kernel)]; exact ⟨rfl, rfl⟩))
    (fun os started H enc _ => lifted os started H enc)
theorem proved : Rows.RingExactSaid := over
#print axioms proved
end Go.Proofs.Ytoncobhjdplamaa.ringExact
namespace Go.Proofs.Ytoncobhjdplamaa
/-- The row, under a short name, for the claim. -/
theorem ringExact_holds : Rows.RingExactSaid := ringExact.proved
end Go.Proofs.Ytoncobhjdplamaa
