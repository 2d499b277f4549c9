/- What a value reads as, kind by kind: from the form's own reading ('DataW.trod') to the print's kinds ('Kd'), for numbers, bools, strings, structs and slices of any of them. No condition. | The law's argument: bytes, subscriptions and a number, read. No condition. -/
import Derived.Test.YtkhalpnonijogaaGreatWWords
import Derived.Deep.Slices
import Derived.ChangeArms
import Derived.SizedLaws
import Derived.OpenShut
import Derived.Test.YtkhalpnonijogaaGreatX51
namespace Go.Proofs.YtkhalpnonijogaaGreat
namespace Rdk
open Go.ChangeShapes Go.WideShapes Go.Deep Go.Proofs.YtkhalpnonijogaaGreatW.PrintWords

/-- Whatever reads as data of type T is of the kind k, and its parts are in range. -/
def Rd (P : Program) (T : TypeId) {α : Type} (k : Kd α) (ok : α → Prop) : Prop :=
  ∀ (H : Type) (enc : TypeId × Value → H) (w : World) (base : Nat) (spare : Nat → Bool) (held : Bool) (fuel : Nat) (cs : List Value) (x : DataW H × List MemPlace),
    DataW.trod enc P w base spare held fuel T cs = some x → ∃ v, k.K w v cs ∧ ok v

variable {P : Program} {T : TypeId} {α β : Type}

theorem rd_int {k : IntKind} (hu : P.underlying T = some (.int k)) : Rd P T (Kd.int k) (fun n => (Lit.int k n).wf = true) := by
  intro H enc w base spare held fuel cs x h
  obtain ⟨n, hcs, _, hw⟩ := DataW.trod_int hu h
  exact ⟨n, hcs, hw⟩

theorem rd_bool (hu : P.underlying T = some .bool) : Rd P T Kd.bool (fun _ => True) := by
  intro H enc w base spare held fuel cs x h
  obtain ⟨n, hcs, _⟩ := DataW.trod_bool hu h
  exact ⟨n, hcs, trivial⟩

theorem rd_string (hu : P.underlying T = some .string) : Rd P T Kd.string (fun s => s.size ≤ maxLen) := by
  intro H enc w base spare held fuel cs x h
  obtain ⟨n, hcs, _, hw⟩ := DataW.trod_string hu h
  exact ⟨n, hcs, hw⟩

theorem rd_imp {k : Kd α} {ok ok' : α → Prop} (h : Rd P T k ok) (hi : ∀ v, ok v → ok' v) : Rd P T k ok' := by
  intro H enc w base spare held fuel cs x ht
  obtain ⟨v, hv, ho⟩ := h H enc w base spare held fuel cs x ht
  exact ⟨v, hv, hi v ho⟩

/-- The fields of a struct, from one on. -/
def RdF (P : Program) (fs : List Field) (off : Nat) (k : Kd α) (ok : α → Prop) : Prop :=
  ∀ (H : Type) (enc : TypeId × Value → H) (w : World) (base : Nat) (spare : Nat → Bool) (held : Bool) (fuel : Nat) (cs : List Value),
    (∀ f, f ∈ fs → ∃ y, DataW.trod enc P w base spare held fuel f.type ((cs.drop f.offset).take (P.cellsOf f.type)) = some y) → cs.length = off + k.sz → ∃ v, k.K w v (cs.drop off) ∧ ok v

theorem rdF_last {f : Field} {off : Nat} {k : Kd α} {ok : α → Prop} (h : Rd P f.type k ok) (ho : f.offset = off) (hc : P.cellsOf f.type = k.sz) : RdF P [f] off k ok := by
  intro H enc w base spare held fuel cs hf hl
  obtain ⟨y, hy⟩ := hf f (List.mem_singleton.2 rfl)
  rw [ho, hc, List.take_of_length_le (by rw [List.length_drop]; omega)] at hy
  exact h H enc w base spare held fuel _ y hy

theorem rdF_cons {f : Field} {fs : List Field} {off : Nat} {a : Kd α} {b : Kd β} {oka : α → Prop} {okb : β → Prop} (ha : Rd P f.type a oka) (ho : f.offset = off) (hc : P.cellsOf f.type = a.sz)
    (hb : RdF P fs (off + a.sz) b okb) : RdF P (f :: fs) off (Kd.pair a b) (fun x => oka x.1 ∧ okb x.2) := by
  intro H enc w base spare held fuel cs hf hl
  obtain ⟨y, hy⟩ := hf f (List.mem_cons_self ..)
  rw [ho, hc] at hy
  obtain ⟨u, hu, hou⟩ := ha H enc w base spare held fuel _ y hy
  obtain ⟨v, hv, hov⟩ := hb H enc w base spare held fuel cs (fun g hg => hf g (List.mem_cons_of_mem _ hg)) (by rw [hl]; exact (Nat.add_assoc _ _ _).symm)
  refine ⟨(u, v), ⟨_, _, ?_, hu, hv⟩, hou, hov⟩
  rw [← List.drop_drop, List.take_append_drop]

theorem rd_struct {fs : Array Field} {k : Kd α} {ok : α → Prop} (hu : P.underlying T = some (.struct fs)) (hc : P.cellsOf T = k.sz) (h : RdF P fs.toList 0 k ok) : Rd P T k ok := by
  intro H enc w base spare held fuel cs x ht
  obtain ⟨xs, n, _, _, hl, hlen, hg⟩ := DataW.trod_struct hu ht
  obtain ⟨v, hv, hov⟩ := h H enc w base spare held n cs (fun f hf => by
    obtain ⟨i, hi, he⟩ := List.getElem_of_mem hf
    have hi' : i < fs.size := by simpa using hi
    have e : fs[i]? = some f := by rw [← he, Array.getElem?_eq_getElem hi']; simp
    have := hg i f e
    rw [List.getElem?_eq_getElem (by omega)] at this
    exact ⟨_, this⟩) (by rw [hl, hc]; omega)
  exact ⟨v, by simpa using hv, hov⟩

theorem rd_iso {k : Kd α} {ok : α → Prop} (f : β → α) (g : α → β) (hfg : ∀ a, f (g a) = a) (h : Rd P T k ok) : Rd P T (Kd.iso k f) (fun x => ok (f x)) := by
  intro H enc w base spare held fuel cs x ht
  obtain ⟨v, hv, hov⟩ := h H enc w base spare held fuel cs x ht
  refine ⟨g v, ?_, ?_⟩
  · show k.K w (f (g v)) cs
    rw [hfg]; exact hv
  · show ok (f (g v))
    rw [hfg]; exact hov

theorem cells_of {w : World} {base : Nat} {a : Addr} {n : Nat} {cs : List Value} (h : w.cells? base a n = some cs) : cs.length = n ∧ ∀ i u, cs[i]? = some u → w.cell? (a.add i) = some u := by
  obtain ⟨_, hl, hc⟩ := World.cells?_some h
  refine ⟨hl, fun i u hu => ?_⟩
  have hi : i < n := by
    have := (List.getElem?_eq_some_iff.1 hu).1
    omega
  rw [hc i hi, hu]

/-- A slice read at every index. -/
theorem slice_reads {e : TypeId} {k : Kd α} {ok : α → Prop} (z : α) (hu : P.underlying T = some (.slice e)) (hc : P.cellsOf e = k.sz) (h : Rd P e k ok)
    {H : Type} {enc : TypeId × Value → H} {w : World} {base : Nat} {spare : Nat → Bool} {held : Bool} {fuel : Nat} {cs : List Value} {x : DataW H × List MemPlace} (ht : DataW.trod enc P w base spare held fuel T cs = some x) :
    ∃ (A : Option Addr) (c : Nat) (l : List α), cs = [.slice A l.length c] ∧ l.length ≤ c ∧ c ≤ maxLen ∧ Kd.C k w A l.length l ∧ ∀ v ∈ l, ok v := by
  rcases open_slice hu ht with ⟨rfl, _⟩ | ⟨a, len, cap, m, n, D, Pl, rfl, hb, hl, hm, hmm, _, hi⟩
  · exact ⟨none, 0, [], rfl, Nat.le_refl _, Nat.zero_le _, Kd.C_nil k w, by simp⟩
  · have hlm : len ≤ m := by rw [hmm]; split <;> omega
    have hp : ∀ i, i < len → ∃ v, ok v ∧ ∃ c, c.length = k.sz ∧ k.K w v c ∧ ∀ j u, c[j]? = some u → w.cell? (a.add (i * k.sz + j)) = some u := by
      intro i hil
      obtain ⟨cs', h1, h2⟩ := hi i (by omega)
      obtain ⟨v, hv, hov⟩ := h H enc w base spare held n cs' _ h2
      rw [hc] at h1
      obtain ⟨hl1, hc1⟩ := cells_of h1
      refine ⟨v, hov, cs', hl1, hv, fun j u hu' => ?_⟩
      rw [← Go.Deep.add_add]
      exact hc1 j u hu'
    haveI : Inhabited α := ⟨z⟩
    obtain ⟨V, hV⟩ := choose_lt hp
    have hlen : ((List.range len).map V).length = len := by simp
    refine ⟨some a, cap, (List.range len).map V, by rw [hlen], by rw [hlen]; exact hl, hm, ?_, ?_⟩
    · rw [hlen]
      refine ⟨hlen, by unfold maxLen at hm; omega, fun _ => ⟨a, rfl, fun j p hj => ?_⟩⟩
      have hjl : j < len := by
        have := (List.getElem?_eq_some_iff.1 hj).1
        rw [hlen] at this; exact this
      have : V j = p := by
        rw [List.getElem?_map, List.getElem?_range hjl] at hj
        simpa using hj
      subst this
      exact (hV j hjl).2
    · intro v hv
      obtain ⟨i, hi', rfl⟩ := List.mem_map.1 hv
      exact (hV i (List.mem_range.1 hi')).1

theorem rd_slice {e : TypeId} {k : Kd α} {ok : α → Prop} (q : Nat) (z : α) (hu : P.underlying T = some (.slice e)) (hc : P.cellsOf e = k.sz) (h : Rd P e k ok) :
    Rd P T (Kd.slice q k) (fun l => l.length ≤ maxLen ∧ ∀ v ∈ l, ok v) := by
  intro H enc w base spare held fuel cs x ht
  obtain ⟨A, c, l, hcs, hl, hm, hC, hok⟩ := slice_reads z hu hc h ht
  exact ⟨l, ⟨A, c, hcs, hl, hC⟩, by unfold maxLen at hm ⊢; omega, hok⟩

theorem wf_i64 {n : Int} (h : (Lit.int .i64 n).wf = true) : -9223372036854775808 ≤ n ∧ n ≤ 9223372036854775807 := by
  simp only [Lit.wf, Bool.and_eq_true, decide_eq_true_eq] at h
  have e1 : IntKind.min .i64 = -9223372036854775808 := by decide
  have e2 : IntKind.max .i64 = 9223372036854775807 := by decide
  rw [e1, e2] at h
  exact h
end Rdk
end Go.Proofs.YtkhalpnonijogaaGreat
namespace Go.Proofs.YtkhalpnonijogaaGreat.NRead
open Go.ChangeShapes Go.WideShapes Go.RowKit
open Go.Proofs.YtkhalpnonijogaaGreat.Rdk Go.Proofs.YtkhalpnonijogaaGreatW.PrintWords

abbrev kI : Kd Int := Kd.int .i64
abbrev kU : Kd Int := Kd.int .u8
def okU (n : Int) : Prop := 0 ≤ n ∧ n ≤ 255
abbrev kS0 : Kd (Int × Int × Int × Int) := Kd.pair kI (Kd.pair kI (Kd.pair kI kI))
def kS : Kd Sx := Kd.iso kS0 (fun x : Sx => (x.c, x.s, x.p, x.l))
abbrev kN : Kd (List Int × List Sx × Int) := Kd.pair (Kd.slice 5 kU) (Kd.pair (Kd.slice 30 kS) kI)
theorem rd5 : Rd Tryz.prog 5 kU okU := rd_imp (rd_int Tryz.underlying5) (fun n h => by
  simp only [Lit.wf, Bool.and_eq_true, decide_eq_true_eq] at h
  have e1 : IntKind.min .u8 = 0 := by decide
  have e2 : IntKind.max .u8 = 255 := by decide
  rw [e1, e2] at h
  exact h)
theorem rd30 : Rd Tryz.prog 30 kS (fun _ => True) :=
  rd_imp (rd_iso _ (fun a => Sx.mk a.1 a.2.1 a.2.2.1 a.2.2.2) (fun _ => rfl)
    (rd_struct Tryz.underlying30 (by kernel_rfl) (rdF_cons (rd_int Tryz.underlying3) rfl (by kernel_rfl) (rdF_cons (rd_int Tryz.underlying3) rfl (by kernel_rfl) (rdF_cons (rd_int Tryz.underlying3) rfl (by kernel_rfl) (rdF_last (rd_int Tryz.underlying3) rfl (by kernel_rfl)))))))
    (fun _ _ => trivial)
theorem rd66 : Rd Tryz.prog 66 kN (fun x => ∀ n ∈ x.1, okU n) :=
  rd_imp (rd_struct Tryz.underlying66 (by kernel_rfl) (rdF_cons (rd_slice 5 0 Tryz.underlying37 (by kernel_rfl) rd5) rfl (by kernel_rfl) (rdF_cons (rd_slice 30 (⟨0, 0, 0, 0⟩ : Sx) Tryz.underlying24 (by kernel_rfl) rd30) rfl (by kernel_rfl) (rdF_last (rd_int Tryz.underlying3) rfl (by kernel_rfl)))))
    (fun _ h => h.1.2)
theorem byts_of {w : World} {A : Option Addr} {l : List Int} (h : Kd.C kU w A l.length l) (hl : ∀ n ∈ l, okU n) : Byts w A (l.map (fun n => BitVec.ofInt 8 n)) := by
  intro i b hb
  rw [List.getElem?_map] at hb
  obtain ⟨n, hn, rfl⟩ := Option.map_eq_some_iff.1 hb
  have hi : i < l.length := (List.getElem?_eq_some_iff.1 hn).1
  obtain ⟨ad, c, e, hc, hK, hc0⟩ := Kd.C_get h (0 : Int) (i : Int) (by omega) (by omega)
  have hx' : l.getD (i : Int).toNat 0 = n := by simp [List.getD, hn]
  rw [hx'] at hK
  obtain rfl := hK
  have h0 := hc0 0 _ rfl
  have hs : (kU).sz = 1 := rfl
  rw [hs] at h0
  simp only [Int.toNat_natCast, Nat.add_zero, Nat.mul_one] at h0
  have hk := hl n (List.mem_of_getElem? hn)
  refine ⟨ad, e, ?_⟩
  rw [h0]
  have : ((BitVec.ofInt 8 n).toNat : Int) = n := by
    rw [BitVec.toNat_ofInt]
    have := hk.1
    have := hk.2
    omega
  rw [this]
theorem subs_of {w : World} {A : Option Addr} {l : List Sx} (h : Kd.C kS w A l.length l) : Subs w A l := by
  intro i x hx
  have hi : i < l.length := (List.getElem?_eq_some_iff.1 hx).1
  obtain ⟨ad, c, e, hc, hK, hc0⟩ := Kd.C_get h (⟨0, 0, 0, 0⟩ : Sx) (i : Int) (by omega) (by omega)
  have hx' : l.getD (i : Int).toNat ⟨0, 0, 0, 0⟩ = x := by simp [List.getD, hx]
  rw [hx'] at hK
  obtain ⟨_, _, rfl, rfl, ⟨_, _, rfl, rfl, ⟨_, _, rfl, rfl, rfl⟩⟩⟩ := hK
  have hs : kS.sz = 4 := rfl
  rw [hs] at hc0
  have fl : ∀ j, 0 < j → ad.add (i * 4 + j) = fld (ad.add (i * 4)) j := fun j hj => add_field _ _ j hj
  have h0 := hc0 0 _ rfl
  have h1 := hc0 1 _ rfl
  have h2 := hc0 2 _ rfl
  have h3 := hc0 3 _ rfl
  simp only [Int.toNat_natCast] at h0 h1 h2 h3
  rw [fl _ (by omega)] at h1 h2 h3
  rw [Nat.add_zero] at h0
  exact ⟨ad, e, h0, h1, h2, h3⟩
end Go.Proofs.YtkhalpnonijogaaGreat.NRead
