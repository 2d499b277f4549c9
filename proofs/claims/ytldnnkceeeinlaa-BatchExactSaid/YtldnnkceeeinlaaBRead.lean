/- The laws' argument: a slice of acts, read. No condition. -/
import Derived.Test.YtldnnkceeeinlaaBAct
import Derived.Test.YtldnnkceeeinlaaRd
import Derived.SizedLaws
namespace Go.Proofs.Ytldnnkceeeinlaa.BRead
open Go.ChangeShapes Go.WideShapes Go.RowKit
open Go.Proofs.Ytldnnkceeeinlaa.Rdk Go.Proofs.YtldnnkceeeinlaaW.PrintWords

def fd (o : Nat) : Field := { name := "", type := 2, offset := o, embedded := false, tag := "", pkgPath := "", byteOffset := 0 }
abbrev kI : Kd Int := Kd.int .i64
abbrev kArr : Kd (Int × Int × Int × Int) := Kd.pair kI (Kd.pair kI (Kd.pair kI kI))
abbrev kEv : Kd (Int × Int × Int × Int × Int × Int) := Kd.pair kI (Kd.pair kI kArr)
abbrev kAct0 : Kd (Int × (Int × Int × Int × Int × Int × Int) × List Int × List Int × Int) := Kd.pair kI (Kd.pair kEv (Kd.pair (Kd.slice 3 kI) (Kd.pair (Kd.slice 3 kI) kI)))
def kAct : Kd Act := Kd.iso kAct0 (fun x : Act => (x.d, (x.e.s, x.e.t, x.e.v0, x.e.v1, x.e.v2, x.e.v3), x.cl, x.ws, x.n))

theorem rd29 : Rd Try.prog 29 kArr (fun _ => True) := by
  intro H enc w base spare held fuel cs x ht
  obtain ⟨xs, m, _, _, hl, hlen, hg⟩ := DataW.trod_array Try.underlying29 ht
  have hc2 : Try.prog.cellsOf 2 = 1 := by kernel_rfl
  have hc29 : Try.prog.cellsOf 29 = 4 := by kernel_rfl
  rw [hc29] at hl
  have hF : RdF Try.prog [fd 0, fd 1, fd 2, fd 3] 0 kArr (fun _ => True) := by
    have r2 : Rd Try.prog 2 kI (fun _ => True) := rd_imp (rd_int Try.underlying2) (fun _ _ => trivial)
    intro H enc w base spare held fuel cs hf hl
    obtain ⟨v, hv, _⟩ := (rdF_cons (f := fd 0) r2 rfl hc2 (rdF_cons (f := fd 1) r2 rfl hc2 (rdF_cons (f := fd 2) r2 rfl hc2 (rdF_last (f := fd 3) r2 rfl hc2)))) H enc w base spare held fuel cs hf hl
    exact ⟨v, hv, trivial⟩
  obtain ⟨v, hv, _⟩ := hF H enc w base spare held m cs (fun f hf => by
    obtain ⟨i, hi, rfl⟩ : ∃ i, i < 4 ∧ f = fd i := by
      simp only [List.mem_cons, List.not_mem_nil, or_false] at hf
      rcases hf with rfl | rfl | rfl | rfl
      · exact ⟨0, by omega, rfl⟩
      · exact ⟨1, by omega, rfl⟩
      · exact ⟨2, by omega, rfl⟩
      · exact ⟨3, by omega, rfl⟩
    have := hg i hi
    rw [hc2, Nat.mul_one, List.getElem?_eq_getElem (by omega)] at this
    refine ⟨xs[i], ?_⟩
    show DataW.trod enc Try.prog w base spare held m 2 ((cs.drop i).take (Try.prog.cellsOf 2)) = _
    rw [hc2]
    exact this) (by rw [hl]; rfl)
  exact ⟨v, by simpa using hv, trivial⟩
theorem rd31 : Rd Try.prog 31 kEv (fun _ => True) :=
  rd_imp (rd_struct Try.underlying31 (by kernel_rfl) (rdF_cons (rd_int Try.underlying3) rfl (by kernel_rfl) (rdF_cons (rd_int Try.underlying2) rfl (by kernel_rfl) (rdF_last rd29 rfl (by kernel_rfl)))))
    (fun _ _ => trivial)
def goodB (x : Act) : Prop := x.cl.length ≤ maxLen ∧ x.ws.length ≤ maxLen
theorem rd37 : Rd Try.prog 37 kAct (fun _ => True) :=
  rd_imp (rd_iso _ (fun a => Act.mk a.1 ⟨a.2.1.1, a.2.1.2.1, a.2.1.2.2.1, a.2.1.2.2.2.1, a.2.1.2.2.2.2.1, a.2.1.2.2.2.2.2⟩ a.2.2.1 a.2.2.2.1 a.2.2.2.2) (fun _ => rfl)
    (rd_struct Try.underlying37 (by kernel_rfl) (rdF_cons (rd_int Try.underlying3) rfl (by kernel_rfl) (rdF_cons rd31 rfl (by kernel_rfl) (rdF_cons (rd_slice 3 0 Try.underlying25 (by kernel_rfl) (rd_int Try.underlying3)) rfl (by kernel_rfl)
      (rdF_cons (rd_slice 3 0 Try.underlying25 (by kernel_rfl) (rd_int Try.underlying3)) rfl (by kernel_rfl) (rdF_last (rd_int Try.underlying3) rfl (by kernel_rfl))))))))
    (fun _ _ => trivial)

theorem nums_of {w : World} {A : Option Addr} {l : List Int} (h : Kd.C kI w A l.length l) : Nums w A l := by
  intro i x hx
  have hi : i < l.length := (List.getElem?_eq_some_iff.1 hx).1
  obtain ⟨ad, c, e, hc, hK, hc0⟩ := Kd.C_get h (0 : Int) (i : Int) (by omega) (by omega)
  have hx' : l.getD (i : Int).toNat 0 = x := by simp [List.getD, hx]
  rw [hx'] at hK
  obtain rfl := hK
  have h0 := hc0 0 _ rfl
  have hs : (kI).sz = 1 := rfl
  rw [hs] at h0
  simp only [Int.toNat_natCast, Nat.add_zero, Nat.mul_one] at h0
  exact ⟨ad, e, h0⟩

theorem acts_of {w : World} {A : Option Addr} {l : List Act} (h : Kd.C kAct w A l.length l) : Acts w A l := by
  intro i x hx
  have hi : i < l.length := (List.getElem?_eq_some_iff.1 hx).1
  obtain ⟨ad, c, e, hc, hK, hc0⟩ := Kd.C_get h (⟨0, ⟨0, 0, 0, 0, 0, 0⟩, [], [], 0⟩ : Act) (i : Int) (by omega) (by omega)
  have hx' : l.getD (i : Int).toNat ⟨0, ⟨0, 0, 0, 0, 0, 0⟩, [], [], 0⟩ = x := by simp [List.getD, hx]
  rw [hx'] at hK
  obtain ⟨_, _, rfl, rfl, ⟨_, _, rfl, ⟨_, _, rfl, rfl, ⟨_, _, rfl, rfl, ⟨_, _, rfl, rfl, ⟨_, _, rfl, rfl, ⟨_, _, rfl, rfl, rfl⟩⟩⟩⟩⟩, ⟨_, _, rfl, ⟨C, c1, rfl, hl1, hC1⟩, ⟨_, _, rfl, ⟨D, c2, rfl, hl2, hC2⟩, rfl⟩⟩⟩⟩ := hK
  have hs : kAct.sz = 10 := rfl
  rw [hs] at hc0
  have fl : ∀ j, 0 < j → ad.add (i * 10 + j) = fld (ad.add (i * 10)) j := fun j hj => add_field _ _ j hj
  have h0 := hc0 0 _ rfl
  have h1 := hc0 1 _ rfl
  have h2 := hc0 2 _ rfl
  have h3 := hc0 3 _ rfl
  have h4 := hc0 4 _ rfl
  have h5 := hc0 5 _ rfl
  have h6 := hc0 6 _ rfl
  have h7 := hc0 7 _ rfl
  have h8 := hc0 8 _ rfl
  have h9 := hc0 9 _ rfl
  simp only [Int.toNat_natCast] at h0 h1 h2 h3 h4 h5 h6 h7 h8 h9
  rw [fl _ (by omega)] at h1 h2 h3 h4 h5 h6 h7 h8 h9
  rw [Nat.add_zero] at h0
  exact ⟨ad, e, h0, h1, h2, h3, h4, h5, h6, ⟨C, c1, h7, hl1, nums_of hC1⟩, ⟨D, c2, h8, hl2, nums_of hC2⟩, h9⟩
end Go.Proofs.Ytldnnkceeeinlaa.BRead
