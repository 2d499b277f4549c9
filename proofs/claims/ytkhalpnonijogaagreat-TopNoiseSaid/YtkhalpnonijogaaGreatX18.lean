/- scan.Take. No condition but the rows'. -/
import Derived.Test.YtkhalpnonijogaaGreatX17
namespace Go.Proofs.YtkhalpnonijogaaGreat
open Go.RowKit

/-- Where the scan stands. -/
structure TkAt (w2 : World) (c B : Nat) (F : List Frm) (L : List (BitVec 8)) (s4 s6 s7 : Value) (w : World) : Prop where
  ex : ∃ (F1 F2 : List Frm) (r : List (BitVec 8)) (bad : Nat), F = F1 ++ F2 ∧ Scn r F2 L ∧ RowAt w s7 r ∧ s6 = .int .i64 bad ∧ bad + r.length ≤ 100000 ∧ F1.length + r.length ≤ 100000 ∧ FrmsIs B F1 w s4 ∧ Keeps [c] w2 w ∧ ∃ s r, w.heap[c]? = some (.chan 1 #[] false s r false)
def lenOf : Value → Nat
  | .slice _ n _ => n
  | _ => 0

theorem keeps_of_grown {w w' : World} {o : Option Nat} (hg : w.grownBy w' o) : Keeps o.toList w w' := ⟨hg.os, hg.tape, hg.output, hg.size, fun k hk hn => hg.block k hk (fun e => hn (by rw [← e]; simp))⟩
theorem own_type {B E sz n : Nat} {w : World} {v : Value} {xs : List Value} (h : w.ownsRow B E sz v n xs) : ∀ x ∈ v.ownBlock.toList, ∃ cs, w.heap[x]? = some (.cells cs E (0, 0)) := by
  intro x hx
  rcases h.2 with ⟨rfl, _⟩ | ⟨g, cap, cur, rfl, _, h3, _⟩
  · simp [Value.ownBlock] at hx
  · obtain rfl : x = g := by simpa [Value.ownBlock] using hx
    exact ⟨cur, h3⟩
theorem row_no {W : World} {v : Value} {r t : List (BitVec 8)} {f : Frm} (h : RowAt W v r) (hf : f.Ok) (he : f.enc = r ++ t) (ht : t ≠ []) : Calls Tryz.prog 151 #[v] W (NoF true W) := by
  obtain ⟨A, c, rfl, h2, h3, h4, h5⟩ := h.ex
  cases r with
  | nil => exact look_nil
  | cons x r =>
    obtain ⟨a, ha, _⟩ := h2 0 x rfl
    obtain ⟨g, o, cs, rfl, hg⟩ := h5 a ha
    subst ha
    exact look_maybe hf he ht h2 rfl h4 (by simp)
theorem row_bad {W : World} {v : Value} {t : List (BitVec 8)} {x : BitVec 8} (h : RowAt W v (x :: t)) (hx : x ≠ 0x7e#8) (hl : (x :: t).length ≤ 100000) : Calls Tryz.prog 151 #[v] W (NoF false W) := by
  obtain ⟨A, c, rfl, h2, h3, h4, h5⟩ := h.ex
  obtain ⟨a, ha, _⟩ := h2 0 x rfl
  obtain ⟨g, o, cs, rfl, hg⟩ := h5 a ha
  subst ha
  exact look_bad h2 rfl h4 hl hx
theorem row_full {W : World} {v : Value} {t : List (BitVec 8)} {f : Frm} (h : RowAt W v (f.enc ++ t)) (hf : f.Ok) (hp : f.pay ≠ []) (hl : (f.enc ++ t).length ≤ 100000) : Calls Tryz.prog 151 #[v] W (FullF f W) := by
  obtain ⟨A, c, rfl, h2, h3, h4, h5⟩ := h.ex
  obtain ⟨a, ha, _⟩ := h2 0 0x7e#8 rfl
  obtain ⟨g, o, cs, rfl, hg⟩ := h5 a ha
  subst ha
  exact look_full hf hp h2 (by rw [List.length_append, Frm.enc_len]) h4 hl

set_option maxHeartbeats 8000000 in
set_option maxRecDepth 100000 in
theorem take_ok {F : List Frm} {L l k : List (BitVec 8)} (hs : Scn (l ++ k) F L) (hF : ∀ f ∈ F, f.pay ≠ []) (hlen : (l ++ k).length ≤ 100000) {A D : Option Addr} {n m c d : Nat} {w : World} (hA : Byts w A l) (hD : Byts w D k) (hn : n = l.length) (hm : m = k.length) (hsA : Src A n c) (hsD : Src D m d) (hn9 : n ≤ 70000) (hm9 : m ≤ 70000) :
    Calls Tryz.prog 56 #[.slice A n c, .slice D m d] w fun e w' => ∃ (vf vl : Value) (bad : Nat), e = .returned (.tuple #[vf, vl, .int .i64 bad]) ∧ bad ≤ 100000 ∧ FrmsIs w.heap.size F w' vf ∧ w'.ownsRow w.heap.size 5 1 vl L.length (by8 L) ∧ Keeps [] w w' := by
  obtain ⟨x, hx⟩ : ∃ x, x = w.heap.size := ⟨_, rfl⟩
  obtain ⟨w0, hw0⟩ : ∃ w0, w0 = w.alloc (.cells #[.slice A n c, .slice D m d] 37) := ⟨_, rfl⟩
  have hk0 : Keeps [] w w0 := by rw [hw0]; exact (Keeps.refl _ _).alloc _
  have hx0 : w0.heap[x]? = some (.cells #[.slice A n c, .slice D m d] 37 (0, 0)) := by rw [hw0, hx]; exact heap_alloc_new _ _
  have HC := Go.Lib.hid (concat_ok (hA.keeps0 hk0) (hD.keeps0 hk0) hn hm hsA hsD hn9 hm9 hx0)
  have HX := Go.Lib.hid hx
  have HW := Go.Lib.hid hw0
  have HK0 := Go.Lib.hid hk0
  have HS := Go.Lib.hid hs
  have HF := Go.Lib.hid hF
  have m1 := mk_chan1
  clear hx hw0 hk0 hx0 hA hD hn hm hsA hsD hs hF
  go_enter Tryz.func56, Tryz.ntmps56
  go_wp2_with fail
  rw [← HW.out, ← HX.out]
  refine HC.out.mono ?_
  rintro e w1 ⟨v, rfl, ho1, hk1⟩
  have HR := Go.Lib.hid (RowAt.of_own ho1)
  have HK1 := Go.Lib.hid (HK0.out.trans hk1)
  clear ho1 hk1
  go_wp2_with fail
  obtain ⟨g, hg⟩ : ∃ g, g = w1.heap.size := ⟨_, rfl⟩
  obtain ⟨w2, hw2⟩ : ∃ w2, w2 = w1.alloc (.chan 1 #[] false 0 0 false) := ⟨_, rfl⟩
  rw [← hw2, ← hg]
  have hk2 : Keeps [] w1 w2 := by rw [hw2]; exact (Keeps.refl _ _).alloc _
  have HT : Hid (TkAt w2 g w2.heap.size F L (.slice none 0 0) (.int .i64 0) v w2) := Go.Lib.hid ⟨[], F, l ++ k, 0, rfl, HS.out, HR.out.keeps hk2 (by simp), rfl, by omega, by simpa using hlen, FrmsIs.nil _ _, Keeps.refl _ _, 0, 0, by rw [hw2, hg]; exact heap_alloc_new _ _⟩
  have HG : Hid (w.heap.size ≤ g ∧ g < w2.heap.size) := Go.Lib.hid ⟨by rw [hg]; exact HK1.out.size, by rw [hw2, hg, World.size_alloc]; omega⟩
  have HK2 := Go.Lib.hid (HK1.out.trans hk2)
  clear hg hw2 hk2 m1 HR HS HC HW HX HK0 HK1
  go_loopw [4, 6, 7] (fun s4 s6 s7 wx => Hid (TkAt w2 g w2.heap.size F L s4 s6 s7 wx)) (fun _ _ s7 _ => lenOf s7)
  case atStart => exact HT
  case round =>
    clear HT
    obtain ⟨F1, F2, r, bad, hFF, hsc, hra, rfl, hb1, hb2, hfr, hkx, cs, cr, hch⟩ := hrel.out.ex
    clear hrel
    obtain ⟨A, c1, rfl, hra2, hra3, hra4, hra5⟩ := hra.ex
    have HRA := Go.Lib.hid hra
    have HF1 := Go.Lib.hid hfr
    have HKX := Go.Lib.hid hkx
    have HCH := Go.Lib.hid hch
    have HSC := Go.Lib.hid hsc
    have HFF := Go.Lib.hid hFF
    have HB := Go.Lib.hid (And.intro hb1 hb2)
    clear hra hra2 hra3 hra4 hra5 hfr hkx hch hsc hFF hb1 hb2
    have hcase : (∃ (f : Frm) (t : List (BitVec 8)), f.Ok ∧ f.enc = r ++ t ∧ t ≠ [] ∧ F2 = [] ∧ r = L) ∨ (∃ x t, r = x :: t ∧ x ≠ 0x7e#8 ∧ Scn t F2 L) ∨ (∃ (f : Frm) (t : List (BitVec 8)) (F3 : List Frm), r = f.enc ++ t ∧ F2 = f :: F3 ∧ f.Ok ∧ Scn t F3 L) := by
      cases HSC.out with
      | done f p t hf h ht => exact .inl ⟨f, t, hf, h, ht, rfl, rfl⟩
      | skip hc h => exact .inr (.inl ⟨_, _, rfl, hc, h⟩)
      | take hf h => exact .inr (.inr ⟨_, _, _, rfl, rfl, hf, h⟩)
    rcases hcase with ⟨f, t, hf, he, ht, hF2, hrL⟩ | ⟨x, t, hrx, hx, hst⟩ | ⟨f, t, F3, hrf, hF2, hf, hst⟩
    · have HD := Go.Lib.hid (decode_no (A := A) (n := r.length) (c := c1) (w := wr) (mb := true) (fun W hW => row_no (HRA.out.keeps hW (by simp)) hf he ht))
      obtain ⟨N, hN⟩ : ∃ N, N = r.length := ⟨_, rfl⟩
      rw [← hN] at HD HRA ⊢
      have HN := Go.Lib.hid hN
      have HBG := Go.Lib.hid (And.intro hf (And.intro he ht))
      clear hN hf he ht
      go_upto_region 4 with fail
      refine HD.out.mono ?_
      rintro e w3 ⟨rfl, hk3⟩
      have HK3 := Go.Lib.hid hk3
      clear hk3 HD
      unfold noFrame
      go_upto_region 7 with fail
      obtain ⟨w4, hw4⟩ : ∃ w4, w4 = w3.alloc (.cells #[.int .i64 0, .int .i64 0, .slice none 0 0] 63) := ⟨_, rfl⟩
      rw [← hw4]
      have HK4 : Hid (Keeps [] wr w4) := Go.Lib.hid (by rw [hw4]; exact HK3.out.alloc _)
      have HBC := Go.Lib.hid (begins_no (row_no (HRA.out.keeps HK4.out (by simp)) HBG.out.1 HBG.out.2.1 HBG.out.2.2))
      clear hw4 HK3
      go_wp2_with fail
      refine HBC.out.mono ?_
      rintro e w5 ⟨rfl, hk5⟩
      have HK5 := Go.Lib.hid (HK4.out.trans hk5)
      clear hk5 HK4 HBC
      go_upto_region 8 with fail
      have hch5 := HK5.out.heap HCH.out (by simp)
      refine Sel.wp_send3 (v0 := .chan (some g)) (v1 := .slice A N c1) (c := g) (cap := 1) (buf := #[]) (s := cs) (r := cr) (tm := false) (v := .slice A N c1) (z := .tuple #[]) rfl rfl rfl rfl
        (by simp [go_sem, execOp, Act.eval]) (by simp [go_sem, execOp, Act.eval, Act.put]) (by simp [go_sem, execOp, Go.Conc.scase, Act.eval, Act.put]) hch5 (by simp) ?_
      obtain ⟨w6, hw6⟩ : ∃ w6, w6 = w5.setChan g 1 (#[].push (.slice A N c1)) false (cs + 1) cr false := ⟨_, rfl⟩
      rw [← hw6]
      have hk6 : Keeps [g] w5 w6 := by rw [hw6]; exact (Keeps.refl _ _).setChan (by simp) _ _ _ _ _ _
      have hch6 : w6.heap[g]? = some (.chan 1 #[.slice A N c1] false (cs + 1) cr false) := by rw [hw6]; exact Go.Conc.heap_setChan _ _ _ _ _ _ _ _ (lt_of_block hch5)
      have HCH6 := Go.Lib.hid hch6
      have HK6 := Go.Lib.hid hk6
      clear hw6 hk6 hch5 hch6
      go_upto_region 12 with fail
      refine Sel.wp_recv_ready (c := g) (cap := 1) (buf := #[.slice A N c1]) (closed := false) (s := cs + 1) (r := cr) (tm := false) (z := .slice none 0 0) rfl rfl (by simp [go_sem, execOp, Go.Conc.rcase, Act.eval]) HCH6.out (by simp) ?_
      rw [show (#[Value.slice A N c1] : Array Value).getD 0 undef = .slice A N c1 from rfl]
      obtain ⟨w7, hw7⟩ : ∃ w7, w7 = w6.setChan g 1 ((#[.slice A N c1] : Array Value).extract 1 (#[Value.slice A N c1] : Array Value).size) false (cs + 1) (cr + 1) false := ⟨_, rfl⟩
      rw [← hw7]
      have hk7 : Keeps [g] w6 w7 := by rw [hw7]; exact (Keeps.refl _ _).setChan (by simp) _ _ _ _ _ _
      have hkk : Keeps [g] wr w7 := ((HK5.out.mono (by simp)).trans HK6.out).trans hk7
      have hgc : ∀ x ∈ [g], ∀ cs' t fr, wr.heap[x]? = some (.cells cs' t fr) → False := by
        intro x hx cs' t fr hxx
        rw [List.mem_singleton.1 hx, HCH.out] at hxx
        simp at hxx
      obtain ⟨A2, c2, e2, b2, s2, _, _⟩ := (HRA.out.keeps hkk (fun x hx cs' t fr h => (hgc x hx cs' t fr h).elim)).ex
      rw [← HN.out] at e2 s2
      obtain ⟨rfl, rfl⟩ : A2 = A ∧ c2 = c1 := by
        simp only [Value.slice.injEq] at e2
        exact ⟨e2.1.symm, e2.2.2.symm⟩
      have HCL := Go.Lib.hid (clone_any b2 HN.out s2 (by have := HB.out; have := HN.out; omega))
      have HFR := Go.Lib.hid (HF1.out.keeps hkk (fun x hx cs' t fr h => (hgc x hx cs' t fr h).elim))
      have HK7 : Hid (Keeps [g] w2 w7) := Go.Lib.hid (HKX.out.trans hkk)
      clear hw7 hk7 hkk hgc e2 b2 s2 HCH6 HK6 HK5
      go_wp2_with fail
      refine HCL.out.mono ?_
      rintro e w8 ⟨vl, rfl, ho8, hk8⟩
      have HO8 := Go.Lib.hid ho8
      have HK8 := Go.Lib.hid hk8
      clear ho8 hk8 HCL
      go_wp2_with fail
      refine bodyPost_ret (v := .tuple #[u4, vl, .int .i64 bad]) (by simp [results, Tryz.f56, go_sem]) rfl ?_
      have hg1 := HG.out
      have hsz := HK7.out.size
      subst hF2 hrL
      have hFF := HFF.out
      rw [List.append_nil] at hFF
      subst hFF
      refine ⟨_, _, bad, rfl, by have := HB.out; omega, (HFR.out.new HK8.out).down (by have := HK2.out.size; omega), own_down HO8.out (by have := HK2.out.size; omega), ?_⟩
      exact ((HK2.out.step HK7.out (by simp; exact hg1.1))).trans HK8.out
    · obtain ⟨A', c', e1, b1, s1, hle, h5⟩ := HRA.out.ex
      obtain ⟨rfl, rfl⟩ : A' = A ∧ c' = c1 := by
        simp only [Value.slice.injEq] at e1
        exact ⟨e1.1.symm, e1.2.2.symm⟩
      subst hrx
      obtain ⟨a, ha, _⟩ := b1 0 x rfl
      obtain ⟨g1, o, cs1, rfl, hg1⟩ := h5 a ha
      subst ha
      have hbb := HB.out
      have HD := Go.Lib.hid (decode_no (A := some ⟨g1, o, none⟩) (n := (x :: t).length) (c := c') (w := wr) (mb := false) (fun W hW => row_bad (HRA.out.keeps hW (by simp)) hx (by omega)))
      obtain ⟨N, hN⟩ : ∃ N, N = t.length := ⟨_, rfl⟩
      rw [List.length_cons, ← hN] at HD HRA hle hbb ⊢
      have HN := Go.Lib.hid hN
      have HBG := Go.Lib.hid hx
      have HHG := Go.Lib.hid hg1
      have HST := Go.Lib.hid hst
      clear hN hx e1 s1 h5 b1 hg1 hst HB
      go_upto_region 4 with fail
      refine HD.out.mono ?_
      rintro e w3 ⟨rfl, hk3⟩
      have HK3 := Go.Lib.hid hk3
      clear hk3 HD
      unfold noFrame
      go_upto_region 7 with fail
      obtain ⟨w4, hw4⟩ : ∃ w4, w4 = w3.alloc (.cells #[.int .i64 0, .int .i64 0, .slice none 0 0] 63) := ⟨_, rfl⟩
      rw [← hw4]
      have HK4 : Hid (Keeps [] wr w4) := Go.Lib.hid (by rw [hw4]; exact HK3.out.alloc _)
      have HBC := Go.Lib.hid (begins_no (row_bad (HRA.out.keeps HK4.out (by simp)) HBG.out (by rw [List.length_cons, ← HN.out]; omega)))
      clear hw4 HK3
      go_wp2_with fail
      refine HBC.out.mono ?_
      rintro e w5 ⟨rfl, hk5⟩
      have HK5 := Go.Lib.hid (HK4.out.trans hk5)
      clear hk5 HK4 HBC
      go_upto_region 12 with fail
      refine Sel.wp_recv_default (c := g) (cap := 1) (s := cs) (r := cr) (tm := false) (z := .slice none 0 0) rfl rfl (by simp [go_sem, execOp, Go.Conc.rcase, Act.eval]) (HK5.out.heap HCH.out (by simp)) ?_
      have hra5 := (HRA.out.keeps HK5.out (by simp)).cut (k := 1) (by omega)
      rw [Nat.add_sub_cancel, List.drop_one, List.tail_cons] at hra5
      have HT : Hid (TkAt w2 g w2.heap.size F L u4 (.int .i64 ((bad + 1 : Nat) : Int)) (.slice (if c' = 1 then some ⟨g1, o, none⟩ else some ⟨g1, o + 1, none⟩) N (c' - 1)) w5) :=
        Go.Lib.hid ⟨F1, F2, t, bad + 1, HFF.out, HST.out, hra5, rfl, by rw [← HN.out]; omega, by rw [← HN.out]; omega, HF1.out.new HK5.out, HKX.out.trans (HK5.out.mono (by simp)), cs, cr, HK5.out.heap HCH.out (by simp)⟩
      clear hra5
      go_wp2_with fail
      exact ⟨HT, Go.Lib.hid (by simp [lenOf])⟩
    · obtain ⟨A', c', e1, b1, s1, hle, h5⟩ := HRA.out.ex
      obtain ⟨rfl, rfl⟩ : A' = A ∧ c' = c1 := by
        simp only [Value.slice.injEq] at e1
        exact ⟨e1.1.symm, e1.2.2.symm⟩
      subst hrf
      obtain ⟨a, ha, _⟩ := b1 0 0x7e#8 rfl
      obtain ⟨g1, o, cs1, rfl, hg1⟩ := h5 a ha
      subst ha
      have hbb := HB.out
      have hel : (f.enc ++ t).length = f.pay.length + 7 + t.length := by rw [List.length_append, Frm.enc_len]
      have hp : f.pay ≠ [] := HF.out f (by rw [HFF.out, hF2]; simp)
      have HD := Go.Lib.hid (decode_full (f := f) hf (A := some ⟨g1, o, none⟩) (n := (f.enc ++ t).length) (c := c') (w := wr) (fun W hW => row_full (HRA.out.keeps hW (by simp)) hf hp (by omega)))
      obtain ⟨N, hN⟩ : ∃ N, N = (f.enc ++ t).length := ⟨_, rfl⟩
      obtain ⟨M, hM⟩ : ∃ M, M = f.pay.length + 7 := ⟨_, rfl⟩
      rw [← hN] at HD HRA hle hbb hel ⊢
      rw [← hM] at HD hel
      have hMN : M ≤ N := by omega
      have hM7 : 7 ≤ M := by omega
      have hpl : f.pay.length ≤ 256 := hf.pay
      have HN := Go.Lib.hid hN
      have HM := Go.Lib.hid hM
      have HEL := Go.Lib.hid hel
      have HST := Go.Lib.hid hst
      have HF2 := Go.Lib.hid hF2
      have HG1 := Go.Lib.hid hg1
      clear hN hM hel e1 s1 h5 b1 hg1 hst HB hp hf hF2
      go_upto_region 4 with fail
      refine HD.out.mono ?_
      rintro e w3 ⟨v3, rfl, ⟨A3, c3, rfl, ho3⟩, hk3⟩
      have HK3 := Go.Lib.hid hk3
      have HO3 := Go.Lib.hid ho3
      clear hk3 ho3 HD
      go_upto_region 5 with fail
      obtain ⟨w4, hw4⟩ : ∃ w4, w4 = w3.alloc (.cells #[.int .i64 f.seq.toNat, .int .i64 f.kind.toNat, .slice A3 f.pay.length c3] 63) := ⟨_, rfl⟩
      obtain ⟨x4, hx4⟩ : ∃ x4, x4 = w3.heap.size := ⟨_, rfl⟩
      rw [← hw4, ← hx4]
      have hk4 : Keeps [] wr w4 := by rw [hw4]; exact HK3.out.alloc _
      have hx4h : w4.heap[x4]? = some (.cells #[.int .i64 f.seq.toNat, .int .i64 f.kind.toNat, .slice A3 f.pay.length c3] 63 (0, 0)) := by rw [hw4, hx4]; exact heap_alloc_new _ _
      have q0 := (cell_at hx4h (p := 0) rfl).1
      have q1 := (cell_at hx4h (p := 1) rfl).1
      have q2 := (cell_at hx4h (p := 2) rfl).1
      have hk5 : Keeps [] wr (w4.alloc (.cells #[.int .i64 f.seq.toNat, .int .i64 f.kind.toNat, .slice A3 f.pay.length c3] 63)) := hk4.alloc _
      have hk35 : Keeps [] w3 (w4.alloc (.cells #[.int .i64 f.seq.toNat, .int .i64 f.kind.toNat, .slice A3 f.pay.length c3] 63)) := by rw [hw4]; exact ((Keeps.refl _ _).alloc _).alloc _
      have hszr := HKX.out.size
      have hF1l : F1.length ≤ 100000 := by omega
      obtain ⟨v6, w6, hr6, hf6, hg6, n0, xs0, ho0⟩ := app63 (B := w2.heap.size) (x := w4.heap.size) (L := F1) (f := f) (v := u4) (u := .slice A3 f.pay.length c3) (HF1.out.new hk5) ⟨A3, c3, rfl, own_down (own_new HO3.out hk35) hszr⟩ (heap_alloc_new _ _) hF1l (Nat.le_trans hszr hk5.size)
      have hkg := keeps_of_grown hg6
      have hot := own_type ho0
      have hch5 := hk5.heap HCH.out (by simp)
      have hch6 := hkg.heap hch5 (fun hm => by
        obtain ⟨cs9, h9⟩ := hot _ hm
        rw [hch5] at h9
        simp at h9)
      have hra6 := (HRA.out.keeps hk5 (by simp)).keeps hkg (fun x hx cs t fr h => by
        obtain ⟨cs9, h9⟩ := hot _ hx
        rw [h9] at h
        simp only [Option.some.injEq, Obj.cells.injEq] at h
        rw [← h.2.1]; decide)
      have hrc6 := hra6.cut (k := M) hMN
      have hdr : (f.enc ++ t).drop M = t := by rw [HM.out, ← Frm.enc_len, List.drop_left]
      rw [hdr] at hrc6
      have hkk6 := keeps_grow' (HKX.out.trans (hk5.mono (by simp))) ho0 hg6
      have HR6 := Go.Lib.hid hr6
      have HCH6 := Go.Lib.hid hch6
      have HKK6 := Go.Lib.hid hkk6
      have HF6 := Go.Lib.hid hf6
      have HRC6 := Go.Lib.hid hrc6
      clear hw4 hx4 hx4h hk5 hk35 hr6 hf6 hg6 ho0 hkg hot hch5 hch6 hra6 hrc6 hdr hkk6 hk4
      have hel := HEL.out
      have hbt : bad + t.length ≤ 100000 := by omega
      have hft : (F1 ++ [f]).length + t.length ≤ 100000 := by rw [List.length_append, List.length_singleton]; omega
      have HT : ∀ s7, RowAt w6 s7 t → Hid (TkAt w2 g w2.heap.size F L v6 (.int .i64 bad) s7 w6) := fun s7 h7 =>
        Go.Lib.hid ⟨F1 ++ [f], F3, t, bad, by rw [HFF.out, HF2.out]; simp, HST.out, h7, rfl, hbt, hft, HF6.out, HKK6.out, cs, cr, HCH6.out⟩
      have HTT := Go.Lib.hid HT
      clear HT hbt hft hbb hel
      by_cases hcM : c' = M
      · have HS : Hid (TkAt w2 g w2.heap.size F L v6 (.int .i64 bad) (.slice (some ⟨g1, o, none⟩) (N - M) 0) w6) := by
          have h9 := HRC6.out
          rw [if_pos hcM, hcM, Nat.sub_self] at h9
          exact HTT.out _ h9
        clear HTT
        go_upto_region 6 with (at_builtin; refine wpList_append_run (by rfl) (by rfl) HR6.out ?_)
        go_upto_region 12 with fail
        refine Sel.wp_recv_default (c := g) (cap := 1) (s := cs) (r := cr) (tm := false) (z := .slice none 0 0) rfl rfl (by simp [go_sem, execOp, Go.Conc.rcase, Act.eval]) HCH6.out ?_
        go_wp2_with fail
        exact ⟨HS, Go.Lib.hid (by simp [lenOf]; omega)⟩
      · have HS := HTT.out _ (by have := HRC6.out; rw [if_neg hcM] at this; exact this)
        clear HTT
        go_upto_region 6 with (at_builtin; refine wpList_append_run (by rfl) (by rfl) HR6.out ?_)
        go_upto_region 12 with fail
        refine Sel.wp_recv_default (c := g) (cap := 1) (s := cs) (r := cr) (tm := false) (z := .slice none 0 0) rfl rfl (by simp [go_sem, execOp, Go.Conc.rcase, Act.eval]) HCH6.out ?_
        go_wp2_with fail
        exact ⟨HS, Go.Lib.hid (by simp [lenOf]; omega)⟩
end Go.Proofs.YtkhalpnonijogaaGreat
