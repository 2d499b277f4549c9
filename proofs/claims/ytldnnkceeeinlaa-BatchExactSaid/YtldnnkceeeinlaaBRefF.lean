/- The reference's 'Forget'. No condition but the queue's own. -/
import Derived.Test.YtldnnkceeeinlaaBClean
namespace Go.Proofs.Ytldnnkceeeinlaa
open Go.RowKit

def unM (c : Nat) (x : It) : It := ⟨x.e, x.u.set c (-1)⟩
def fgM (c : Nat) (m : List It) (i : Nat) : List It := (m.take i).map (unM c) ++ m.drop i
theorem fgM_get {c : Nat} {m : List It} {i : Nat} {x : It} (hx : m[i]? = some x) : (fgM c m i)[i]? = some x ∧ (fgM c m i).set i (unM c x) = fgM c m (i + 1) := by
  have hj : i < m.length := (List.getElem?_eq_some_iff.1 hx).1
  have hd : m.drop i = x :: m.drop (i + 1) := by rw [List.drop_eq_getElem_cons hj, (List.getElem?_eq_some_iff.1 hx).2]
  have hlen : ((m.take i).map (unM c)).length = i := by simp; omega
  constructor
  · rw [fgM, hd, List.getElem?_append_right (by omega), hlen]
    simp
  · rw [fgM, hd]
    have := set_mid ((m.take i).map (unM c)) x (unM c x) (m.drop (i + 1))
    rw [hlen] at this
    rw [this, fgM, List.take_add_one, hx]
    simp
theorem fgM_len (c : Nat) (m : List It) (i : Nat) : (fgM c m i).length = m.length := by
  rw [fgM, List.length_append, List.length_map, List.length_take, List.length_drop]
  omega

theorem RQ.put {B r : Nat} {W : World} {ad : Option Addr} {n cp : Nat} {m : List It} {lost : List Int} (h : RQ B W r (.slice ad n cp) m lost) {g o : Nat} (had : ad = some ⟨g, o, none⟩) {k : Nat} {x : It} (hx : m[k]? = some x) {c : Nat} (hc : c < 8) (y : Int) (nd : Nat) :
    RQ B ((W.drewN nd).setCell ⟨g, o + k * 14 + 6 + c, none⟩ (.int .i64 y)) r (.slice ad n cp) (m.set k ⟨x.e, x.u.set c y⟩) lost ∧ RK B W ((W.drewN nd).setCell ⟨g, o + k * 14 + 6 + c, none⟩ (.int .i64 y)) := by
  subst had
  have hm : 0 < m.length := by have := (List.getElem?_eq_some_iff.1 hx).1; omega
  obtain ⟨g', o', e, hB, hcap, hrow⟩ := h.row.at hm
  simp only [Option.some.injEq, Addr.mk.injEq, and_true] at e
  obtain ⟨rfl, rfl⟩ := e
  have hn : n = m.length := by
    rcases h.row with ⟨rfl, hv⟩ | ⟨_, _, _, hv, _⟩
    · simp at hm
    · simp only [Value.slice.injEq] at hv
      exact hv.2.1
  obtain ⟨cur, h1, h2⟩ := hrow.ex
  refine ⟨⟨?_, ?_, fun z hz => ?_, h.lost8, by rw [List.length_set]; exact h.few, h.base⟩, ?_⟩
  · rw [Below.heap_setCell _ _ _ _ (block_ne h.own h1 (by simp))]; exact h.own
  · refine .inr ⟨g, o, cp, by rw [List.length_set, hn], hB, hcap, hrow.set h.wide hx hc y nd⟩
  · obtain ⟨i, hi⟩ := List.mem_iff_getElem?.1 hz
    by_cases e : i = k
    · subst e
      rw [List.getElem?_set_self (List.getElem?_eq_some_iff.1 hx).1] at hi
      obtain rfl := Option.some.inj hi
      simp [h.wide x (List.mem_of_getElem? hx)]
    · rw [List.getElem?_set_ne (Ne.symm e)] at hi
      exact h.wide z (List.mem_of_getElem? hi)
  · refine RK.of_keeps (S := [g]) (((Keeps.refl _ _).drewN nd).setCell (by simp) _) (fun z hz => ?_)
    obtain rfl : z = g := by simpa using hz
    exact ⟨hB, fun o ho => by rw [h1] at ho; obtain rfl := Option.some.inj ho; rfl⟩

set_option maxHeartbeats 1600000 in
theorem r_forget {B r : Nat} {W : World} {m : List It} {lost : List Int} (h : RL B W r m lost) {c : Nat} (hc8 : c < 8) :
    Calls Try.prog 22 #[.pointer (some ⟨r, 0, none⟩), .int .i64 c] W fun e w' => (∃ v, e = .returned v) ∧ RL B w' r (sweepM (m.map (unM c))) (lost.set c 0) ∧ RK B W w' := by
  obtain ⟨v, h⟩ := h
  obtain ⟨ad, cp, rfl⟩ := h.row.form
  have h64 := h.few
  have hc' : (c : Int) < 8 := by omega
  obtain ⟨z, hz⟩ : ∃ z, lost[c]? = some z := ⟨_, List.getElem?_eq_getElem (by rw [h.lost8]; exact hc8)⟩
  obtain ⟨l0, l1⟩ := cell_at h.own (rA_get (v := .slice ad m.length cp) hz)
  have HQ0 : Hid (RQ B (W.setCell ⟨r, 1 + c, none⟩ (.int .i64 0)) r (.slice ad m.length cp) (fgM c m 0) (lost.set c 0) ∧ RK B W (W.setCell ⟨r, 1 + c, none⟩ (.int .i64 0))) := ⟨by rw [show fgM c m 0 = m by simp [fgM]]; exact h.lose 0 c 0, h.loseRK 0 (1 + c) _⟩
  have HW := Go.Lib.hid h.wide
  clear h hz
  go_enter Try.func22, Try.ntmps22
  go_upto_region 2 with fail
  obtain ⟨w1, hw1⟩ : ∃ w1, w1 = W.setCell ⟨r, 1 + c, none⟩ (.int .i64 0) := ⟨_, rfl⟩
  rw [← hw1] at HQ0 ⊢
  clear hw1 l0 l1
  go_loopw [4] (fun si wr => ∃ i : Nat, si = .int .i64 i ∧ i ≤ m.length ∧ Hid (RQ B wr r (.slice ad m.length cp) (fgM c m i) (lost.set c 0) ∧ RK B W wr)) (fun si _ => m.length - (intOf si).toNat)
  case atStart => exact ⟨0, rfl, by omega, HQ0⟩
  case round =>
    obtain ⟨i, rfl, hi, HQ⟩ := hrel
    obtain ⟨c0, _⟩ := cell_at HQ.out.1.own (rA_zero _ (lost.set c 0))
    by_cases hlt : i < m.length
    · have d1 : decide (i < m.length) = true := decide_eq_true hlt
      obtain ⟨x, hx⟩ : ∃ x, m[i]? = some x := ⟨_, List.getElem?_eq_getElem hlt⟩
      obtain ⟨hg1, hg2⟩ := fgM_get (c := c) hx
      obtain ⟨t, ht⟩ : ∃ t, x.u[c]? = some t := ⟨_, List.getElem?_eq_getElem (by rw [HW.out x (List.mem_of_getElem? hx)]; exact hc8)⟩
      obtain ⟨g, o, rfl, _, _, hrow⟩ := HQ.out.1.row.at (by rw [fgM_len]; omega)
      obtain ⟨y0, y1⟩ := hrow.line hg1 ht
      have HN : Hid (RQ B (wr.setCell ⟨g, o + i * 14 + 6 + c, none⟩ (.int .i64 (-1))) r (.slice (some ⟨g, o, none⟩) m.length cp) (fgM c m (i + 1)) (lost.set c 0) ∧ RK B W (wr.setCell ⟨g, o + i * 14 + 6 + c, none⟩ (.int .i64 (-1)))) := by
        have hp := HQ.out.1.put rfl hg1 hc8 (-1) 0
        refine ⟨?_, HQ.out.2.trans hp.2⟩
        have := hp.1
        rw [show (⟨x.e, x.u.set c (-1)⟩ : It) = unM c x from rfl, hg2] at this
        exact this
      clear hrow hx ht hg1 hg2 HQ
      go_wp2_with fail
      exact ⟨⟨i + 1, by go_num, by omega, HN⟩, by simp [intOf]; omega⟩
    · have d1 : decide (i < m.length) = false := decide_eq_false hlt
      have HF : Hid (RL B wr r (m.map (unM c)) (lost.set c 0)) := by
        have h1 := HQ.out.1
        rw [fgM, List.take_of_length_le (by omega), List.drop_of_length_le (by omega), List.append_nil] at h1
        exact ⟨_, h1⟩
      have HRK := Go.Lib.hid HQ.out.2
      clear HQ
      go_wp2_with fail
      refine (r_clean HF.out).mono ?_
      rintro e w5 ⟨⟨v, rfl⟩, hr5, hk5⟩
      have HR5 := Go.Lib.hid hr5
      have HK5 := Go.Lib.hid (HRK.out.trans hk5)
      clear hr5 hk5
      go_wp2
      go_end0
      exact ⟨⟨_, rfl⟩, HR5.out, HK5.out⟩
end Go.Proofs.Ytldnnkceeeinlaa
