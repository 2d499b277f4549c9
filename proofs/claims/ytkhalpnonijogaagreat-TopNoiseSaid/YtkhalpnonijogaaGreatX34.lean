/- hub.Step: the walk. No condition but the hub's. | Two hubs beside each other; two rows of bytes beside each other. Plain facts on memory. No condition. -/
import Derived.Test.YtkhalpnonijogaaGreatX33
import Derived.Deep.RegionHeld3
namespace Go.Proofs.YtkhalpnonijogaaGreat
open Go.RowKit

theorem on_ok {f : Nat} {ws cnt : Value} {w : World} (hf : w.heap[f]? = some (.cells #[ws, cnt, .int .i64 (-1)] 126 (0, 0))) :
    Calls Tryz.prog 28 #[.pointer (some ⟨f, 0, none⟩)] w fun e w' => e = .returned (.bool true) ∧ w' = w := by
  have p2 := (cell_at hf (p := 2) rfl).1
  go_enter Tryz.func28, Tryz.ntmps28
  go_wp2_with fail
  go_ret
  exact ⟨rfl, rfl⟩
/-- The hub's cells that Step reads. -/
theorem HubIs.at_ {own : Nat → Prop} {h nx mr : Nat} {L : Lft} {last : Option Nat} {w : World} (H : HubIs own h nx mr L last w) : ∃ f, w.cell? ⟨h, 1, none⟩ = some (.pointer (some ⟨f, 0, none⟩)) ∧ w.cell? ⟨h, 53, none⟩ = some (.int .i64 0) ∧
    Calls Tryz.prog 28 #[.pointer (some ⟨f, 0, none⟩)] w fun e w' => e = .returned (.bool true) ∧ w' = w := by
  obtain ⟨arr, f, r, k, t, ws, cnt, g1, g2, g3, g4, g5, g6, g7, g8, g9, g10, g11, g12⟩ := H.ex
  exact ⟨f, (cell_at g1 g3).1, (cell_at g1 g7).1, on_ok g9⟩
theorem own_cell {B E sz n c g j : Nat} {xs : List Value} {v : Value} {w : World} (ho : w.ownsRow B E sz (.slice (some ⟨g, 0, none⟩) n c) n xs) (hj : xs[j]? = some v) : w.cell? ⟨g, j, none⟩ = some v := by
  rcases ho.2 with ⟨h, _⟩ | ⟨g', c', cur, h, _, hg, h4, h5, h6, h7⟩
  · simp at h
  · simp only [Value.slice.injEq, Option.some.injEq, Addr.mk.injEq, and_true, true_and] at h
    obtain ⟨rfl, rfl⟩ := h
    rw [cell_of_row w g j cur E (0, 0) hg]
    rw [← h7, List.getElem?_take] at hj
    split at hj
    · simpa using hj
    · simp at hj
/-- A row of frames, its payloads named. -/
structure FP (B : Nat) (F : List Frm) (pl : List Value) (w : World) (v : Value) : Prop where
  len : pl.length = F.length
  row : w.ownsRow B 63 3 v F.length (flatF F pl)
  pay : ∀ (i : Nat) (f : Frm) (u : Value), F[i]? = some f → pl[i]? = some u → PayOf B f w u
theorem FP.kx {own : Nat → Prop} {T : List Nat} {B : Nat} {F : List Frm} {pl : List Value} {w w' : World} {v : Value} (h : FP B F pl w v) (hk : Kx own T w w') (h1 : 63 ∉ T) (h2 : 5 ∉ T) : FP B F pl w' v :=
  ⟨h.len, hk.own5 h.row h1, fun i f u hf hu => by
    obtain ⟨A, c, h4, h5⟩ := h.pay i f u hf hu
    exact ⟨A, c, h4, hk.own5 h5 h2⟩⟩
theorem own_apart {B E n sz : Nat} {S : List Nat} {w w' : World} {v : Value} {xs : List Value} (h : w.ownsRow B E sz v n xs) (hk : Keeps S w w') (hS : ∀ g, v.ownBlock = some g → g ∉ S) : w'.ownsRow B E sz v n xs := by
  rcases h.2 with ⟨e1, e2⟩ | ⟨g, cap, cur, e1, e2, e3, e4⟩
  · exact ⟨h.1, .inl ⟨e1, e2⟩⟩
  · exact ⟨h.1, .inr ⟨g, cap, cur, e1, e2, hk.heap e3 (hS g (by rw [e1]; rfl)), e4⟩⟩
theorem FP.grow {B N : Nat} {S : List Nat} {F : List Frm} {pl : List Value} {w w' : World} {v : Value} (h : FP B F pl w v) (hk : Keeps S w w') (hS : ∀ x ∈ S, N ≤ x) (hv : ∀ g, v.ownBlock = some g → g < N) (hp : ∀ (i : Nat) (u : Value), pl[i]? = some u → ∀ g, u.ownBlock = some g → g < N) : FP B F pl w' v :=
  ⟨h.len, own_apart h.row hk (fun g e hm => by have a := hv g e; have b := hS g hm; omega), fun i f u hf hu => by
    obtain ⟨A, c, h4, h5⟩ := h.pay i f u hf hu
    exact ⟨A, c, h4, own_apart h5 hk (fun g e hm => by have a := hp i u hu g e; have b := hS g hm; omega)⟩⟩
/-- What Step leaves. -/
def StepF (own : Nat → Prop) (h nx mr : Nat) (L : List (BitVec 8)) (last : Option Nat) (bs : List (BitVec 8)) (w : World) (e : Ending) (w' : World) : Prop :=
  ∃ g v ub, e = .returned (.tuple #[v, .int .i64 0]) ∧ w.heap.size ≤ g ∧ w'.ownsRow g 5 1 v bs.length (by8 bs) ∧ HubIs own h nx mr ⟨L, ub⟩ last w' ∧ Kx own TFr w w'
set_option maxHeartbeats 6400000 in
set_option maxRecDepth 100000 in
theorem step_ok {own : Nat → Prop} {h nx mr m d : Nat} {left : Lft} {last : Option Nat} {w : World} {F : List Frm} {data L : List (BitVec 8)} {D : Option Addr} (H : HubIs own h nx mr left last w) (hup : ∀ k, w.heap.size ≤ k → own k)
    (hs : Scn (left.l ++ data) F L) (hF : ∀ f ∈ F, Req f) (hT : Turns last F) (hnx : nx + F.length ≤ 200) (hmr : mr + F.length ≤ 400) (hlen : (left.l ++ data).length ≤ 60000) (hD : Byts w D data) (hm : m = data.length) (hsD : Src D m d) :
    Calls Tryz.prog 10 #[.pointer (some ⟨h, 0, none⟩), .agg #[.slice D m d, .int .i64 0, .int .i64 0]] w (StepF own h (nx + F.length) (mr + F.length) L (lastOf last F) ((ansL F nx).flatMap Frm.enc) w) := by
  have hm6 : m ≤ 60000 := by rw [hm]; simp only [List.length_append] at hlen; omega
  have hl6 : left.l.length ≤ 60000 := by simp only [List.length_append] at hlen; omega
  have hpay : ∀ f ∈ F, f.pay ≠ [] := fun f hf => by
    rcases hF f hf with ⟨x, s, hx, rfl⟩ | rfl
    · simp [Sb.frm, Sb.pay]
    · simp [statF]
  have hm7 : decide (65536 < (m : Int)) = false := decide_eq_false (by omega)
  obtain ⟨b, hb⟩ : ∃ b, b = w.heap.size := ⟨_, rfl⟩
  obtain ⟨w0, hw0⟩ : ∃ w0, w0 = w.alloc (.cells #[.slice D m d, .int .i64 0, .int .i64 0] 43) := ⟨_, rfl⟩
  have hk0 : Keeps [] w w0 := by rw [hw0]; exact (Keeps.refl _ _).alloc _
  have hb0 : w0.heap[b]? = some (.cells #[.slice D m d, .int .i64 0, .int .i64 0] 43 (0, 0)) := by rw [hw0, hb]; exact heap_alloc_new _ _
  obtain ⟨f0, c1, c53, hon⟩ := (H.new hk0).at_
  obtain ⟨k, arr, ha, h51, hl, hlk⟩ := (H.new hk0).link
  have c51 : w0.cell? ⟨h, 51, none⟩ = some (.pointer (some ⟨k, 0, none⟩)) := (cell_at ha h51).1
  obtain ⟨p0, p1, p2, _⟩ := cells3 hb0
  have hbk : b ∉ [k] := by rw [List.mem_singleton]; obtain ⟨_, _, _, l1, _⟩ := hl.ex; exact block_ne hb0 l1 (by simp)
  have hhk : h ∉ [k] := by rw [List.mem_singleton]; obtain ⟨_, _, _, l1, _⟩ := hl.ex; exact block_ne ha l1 (by simp)
  have HFD := Go.Lib.hid (fun W (hW : Keeps [] w0 W) => feed_ok (hl.keeps hW (by simp)) hs hpay (by omega) (hD.keeps0 (hk0.trans hW)) hm hsD (by omega) (by omega))
  have HON := Go.Lib.hid hon
  have HW := Go.Lib.hid hw0
  have HB := Go.Lib.hid hb
  have HK0 := Go.Lib.hid hk0
  have HLK := Go.Lib.hid hlk
  have HR := Go.Lib.hid (And.intro hF (And.intro hT (And.intro hnx (And.intro hmr hup))))
  have KC : Hid (∀ W, Keeps [k] w0 W → W.cell? ⟨b, 0, none⟩ = some (.slice D m d) ∧ W.cell? ⟨h, 51, none⟩ = some (.pointer (some ⟨k, 0, none⟩))) := Go.Lib.hid (fun W hW => by
    obtain ⟨x0, x1, x2⟩ := cells3 (hW.heap hb0 hbk)
    exact ⟨x0, (cell_at (hW.heap ha hhk) h51).1⟩)
  have HBC := Go.Lib.hid (And.intro hb0 hbk)
  clear hb hw0 hk0 hb0 ha h51 hl hlk hF hT hs hpay hlen hD hm hsD H hon hnx hmr hup hm6 hl6 hbk hhk
  go_enter Tryz.func10, Tryz.ntmps10
  go_upto_region 1 with fail
  rw [← HW.out, ← HB.out]
  go_upto_region 3 with fail
  go_wp2_with fail
  refine HON.out.mono ?_
  rintro e w' ⟨rfl, hw'⟩
  rw [hw']
  clear HON hw'
  go_upto_region 5 with fail
  go_quiet (fail)
  go_upto_region 10 with fail
  go_region_held3 (fun W => W.cell? ⟨b, 0, none⟩ = some (.slice D m d) ∧ W.cell? ⟨h, 51, none⟩ = some (.pointer (some ⟨k, 0, none⟩)))
    (first | exact KC.out _ (((Keeps.refl [k] w0).drewN nq).drew) | exact KC.out _ HK1.out | fail)
    ((go_at_call 30; (refine (HFD.out _ (((Keeps.refl [] w0).drewN nq).drew)).mono ?_; rintro e w1 ⟨vf, rfl, hf1, hl1, hk1⟩); obtain ⟨pl, hpl, hfo, hfp⟩ := hf1; obtain ⟨Af, cf, rfl⟩ := own_form hfo; have HF1 := Go.Lib.hid (And.intro hpl (And.intro hfo hfp)); have HL1 := Go.Lib.hid hl1; have HK1 := Go.Lib.hid ((((Keeps.refl [k] w0).drewN nq).drew).trans hk1); clear hpl hfo hfp hl1 hk1))
  obtain ⟨N, hN⟩ : ∃ N, N = w1.heap.size := ⟨_, rfl⟩
  obtain ⟨B, hB⟩ : ∃ B, B = ((w0.drewN nq).drew).heap.size := ⟨_, rfl⟩
  have hq : HubIs own h nx mr ⟨L, N⟩ last w1 ∧ Kx own [150] w0 w1 := HLK.out _ _ _ _ HK1.out (hN ▸ HL1.out)
  have HI : Hid (w1.ownsRow N 5 1 (.slice none 0 0) 0 (by8 ((ansL (F.take 0) nx).flatMap Frm.enc)) ∧ HubIs own h (nx + 0) (mr + 0) ⟨L, N⟩ (lastOf last (F.take 0)) w1 ∧ FP B F pl w1 (.slice Af F.length cf) ∧ Kx own TFr w w1 ∧ N ≤ w1.heap.size) :=
    Go.Lib.hid ⟨World.ownsRow_nil _ _ _ _, hq.1, ⟨HF1.out.1, hB ▸ HF1.out.2.1, hB ▸ HF1.out.2.2⟩, (Kx.new HK0.out).trans (hq.2.mono (by simp [TFr])), Nat.le_of_eq hN⟩
  have hNw : w.heap.size ≤ N := by rw [hN]; exact Nat.le_trans HK0.out.size HK1.out.size
  have HC1 : Hid (∃ cs, w1.heap[b]? = some (.cells cs 43 (0, 0)) ∧ cs = #[.slice D m d, .int .i64 0, .int .i64 0]) := Go.Lib.hid ⟨_, HK1.out.heap HBC.out.1 HBC.out.2, rfl⟩
  have HUB : Hid ((∀ g, (Value.slice Af F.length cf).ownBlock = some g → g < N) ∧ ∀ (i : Nat) (u : Value), pl[i]? = some u → ∀ g, u.ownBlock = some g → g < N) := Go.Lib.hid ⟨fun g e => by rw [hN]; exact (HF1.out.2.1.lt g e).2, fun i u hu g e => by
    have hi : i < F.length := by rw [← HF1.out.1]; exact (List.getElem?_eq_some_iff.1 hu).1
    obtain ⟨A, c, rfl, h5⟩ := HF1.out.2.2 i F[i] u (List.getElem?_eq_getElem hi) hu
    rw [hN]; exact (h5.lt g e).2⟩
  clear hq hB hN
  go_wp2_with fail
  go_loopw [6, 64] (fun s6 s64 wx => ∃ i : Nat, i ≤ F.length ∧ s64 = .int .i64 i ∧ Hid (wx.ownsRow N 5 1 s6 ((ansL (F.take i) nx).flatMap Frm.enc).length (by8 ((ansL (F.take i) nx).flatMap Frm.enc)) ∧ HubIs own h (nx + i) (mr + i) ⟨L, N⟩ (lastOf last (F.take i)) wx ∧ FP B F pl wx (.slice Af F.length cf) ∧ Kx own TFr w wx ∧ N ≤ wx.heap.size ∧ wx.heap[b]? = some (.cells #[.slice D m d, .int .i64 0, .int .i64 0] 43 (0, 0)))) (fun _ s64 _ => F.length - (intOf s64).toNat)
  case atStart =>
    obtain ⟨cs, h1, rfl⟩ := HC1.out
    exact ⟨0, by omega, rfl, Go.Lib.hid ⟨HI.out.1, HI.out.2.1, HI.out.2.2.1, HI.out.2.2.2.1, HI.out.2.2.2.2, h1⟩⟩
  case round =>
    obtain ⟨i, hi, rfl, HX⟩ := hrel
    clear HI HF1 HL1 HK1 HC1
    have hb2 : F.length ≤ 200 := by have := HR.out.2.2.1; omega
    obtain ⟨n6, hn6⟩ : ∃ n6, n6 = ((ansL (F.take i) nx).flatMap Frm.enc).length := ⟨_, rfl⟩
    have ho1 := HX.out.1
    rw [← hn6] at ho1
    obtain ⟨A6, c6, rfl⟩ := own_form ho1
    have HO1 := Go.Lib.hid ho1
    have HN6 := Go.Lib.hid hn6
    clear hn6 ho1
    by_cases hlt : i < F.length
    · have d1 : decide (i < F.length) = true := decide_eq_true hlt
      have d2 : decide ((i : Int) < (F.length : Int)) = true := decide_eq_true (by omega)
      obtain ⟨f, hf⟩ : ∃ f, F[i]? = some f := ⟨F[i], List.getElem?_eq_getElem hlt⟩
      obtain ⟨q1, q2, q3⟩ := HX.out.2.2.1
      obtain ⟨u, hu⟩ : ∃ u, pl[i]? = some u := ⟨pl[i], List.getElem?_eq_getElem (by omega)⟩
      obtain ⟨gf, rfl, _, hcf, hcf'⟩ := own_at q2 (by omega)
      obtain ⟨e1, e2, e3⟩ := flatF_get q1 hf hu
      have p0 : wr.cell? ⟨gf, i * 3, none⟩ = some (.int .i64 f.seq.toNat) := own_cell q2 e1
      have p1 : wr.cell? ⟨gf, i * 3 + 1, none⟩ = some (.int .i64 f.kind.toNat) := own_cell q2 e2
      have p2 : wr.cell? ⟨gf, i * 3 + 2, none⟩ = some u := own_cell q2 e3
      have hpay := q3 i f u hf hu
      have HPY := Go.Lib.hid hpay
      obtain ⟨Au, cu, rfl, _⟩ := hpay
      obtain ⟨t, ht⟩ : ∃ t, t = wr.heap.size := ⟨_, rfl⟩
      obtain ⟨w2, hw2⟩ : ∃ w2, w2 = wr.alloc (.cells #[.int .i64 f.seq.toNat, .int .i64 f.kind.toNat, .slice Au f.pay.length cu] 63) := ⟨_, rfl⟩
      have ht2 : w2.heap[t]? = some (.cells #[.int .i64 f.seq.toNat, .int .i64 f.kind.toNat, .slice Au f.pay.length cu] 63 (0, 0)) := by rw [hw2, ht]; exact heap_alloc_new _ _
      have hk2 : Keeps [] wr w2 := by rw [hw2]; exact (Keeps.refl _ _).alloc _
      obtain ⟨t0, t1, t2, _⟩ := cells3 ht2
      have HFR := Go.Lib.hid (req_frame (HX.out.2.1.new hk2) (fun k hk => HR.out.2.2.2.2 k (Nat.le_trans HX.out.2.2.2.1.size (Nat.le_trans hk2.size hk))) (HR.out.1 f (List.mem_of_getElem? hf)) (HR.out.2.1 i f hf) (by obtain ⟨A', c', e', h'⟩ := HPY.out; exact ⟨A', c', e', own_new h' hk2⟩) (by have := HR.out.2.2.2.1; omega) (by have := HR.out.2.2.1; omega))
      have HW2 := Go.Lib.hid hw2
      have HT := Go.Lib.hid ht
      have HK2 := Go.Lib.hid hk2
      clear hw2 ht hk2 ht2 e1 e2 e3 q2 q3 hcf hcf' HPY
      go_upto_region 13 with fail
      rw [← HW2.out, ← HT.out]
      go_wp2_with fail
      refine HFR.out.mono ?_
      rintro e w3 ⟨g3, v3, rfl, hg3, ho3, hh3, hx3⟩
      obtain ⟨n3, hn3⟩ : ∃ n3, n3 = ([ans1 f (nx + i)].flatMap Frm.enc).length := ⟨_, rfl⟩
      rw [← hn3] at ho3
      obtain ⟨A3, c3, rfl⟩ := own_form ho3
      have ho6 := hx3.own5 (own_new HO1.out HK2.out) (by decide)
      have hN3 : N ≤ w3.heap.size := Nat.le_trans HX.out.2.2.2.2.1 (Nat.le_trans HK2.out.size hx3.size)
      have hlen : n6 + n3 ≤ 10000000 := by
        rw [HN6.out, hn3]
        have a := ansL_len (F.take i) nx
        have b := ansL_len [f] (nx + i)
        have c : (F.take i).length ≤ i := by simp [List.length_take]; omega
        have d := HR.out.2.2.1
        simp only [ansL, List.length_cons, List.length_nil] at b
        omega
      obtain ⟨v4, w4, hr4, ho4, hg4⟩ := app8 ho6 (Byts.of_own ho3) hn3 (src_of_own ho3) hlen hN3
      have hk4 : Keeps (Value.slice A6 n6 c6).ownBlock.toList w3 w4 := ⟨hg4.os, hg4.tape, hg4.output, hg4.size, fun j hj hm => hg4.block j hj (fun e => hm (by simp [e]))⟩
      have hS : ∀ x ∈ (Value.slice A6 n6 c6).ownBlock.toList, (∃ cs fr, w3.heap[x]? = some (.cells cs 5 fr)) ∧ N ≤ x := fun x hx => by
        have hx' : (Value.slice A6 n6 c6).ownBlock = some x := by simpa using hx
        obtain ⟨cs, hc⟩ := own_type ho6 x hx
        exact ⟨⟨cs, _, hc⟩, (ho6.lt x hx').1⟩
      have hh4 := hh3.grow hk4 hS
      have hx4 : Kx own TFr w w4 := by
        refine ⟨hg4.os.trans (hx3.os.trans (HK2.out.os.trans HX.out.2.2.2.1.os)), hg4.tape.trans (hx3.tape.trans (HK2.out.tape.trans HX.out.2.2.2.1.tape)), hg4.output.trans (hx3.output.trans (HK2.out.output.trans HX.out.2.2.2.1.output)), ?_, fun k hk => ?_⟩
        · exact Nat.le_trans HX.out.2.2.2.1.size (Nat.le_trans HK2.out.size (Nat.le_trans hx3.size hg4.size))
        · have hx03 := (HX.out.2.2.2.1.trans (Kx.new HK2.out)).trans hx3
          rw [hg4.block k (Nat.lt_of_lt_of_le hk hx03.size) (fun e => by
            have := (ho6.lt k e.symm).1
            omega)]
          exact hx03.blk k hk
      have hf4 : FP B F pl w4 (.slice (some ⟨gf, 0, none⟩) F.length cf) := ((HX.out.2.2.1.kx (Kx.new (own := own) (T := TFr) HK2.out) (by decide) (by decide)).kx hx3 (by decide) (by decide)).grow hk4 (fun x hx => (hS x hx).2) HUB.out.1 HUB.out.2
      have hb4 : w4.heap[b]? = some (.cells #[.slice D m d, .int .i64 0, .int .i64 0] 43 (0, 0)) := by
        refine hk4.heap (hx3.cells (HK2.out.heap HX.out.2.2.2.2.2 (by simp)) (by decide)) (fun hm => ?_)
        obtain ⟨⟨cs', fr', hc⟩, _⟩ := hS b hm
        rw [hx3.cells (HK2.out.heap HX.out.2.2.2.2.2 (by simp)) (by decide)] at hc
        simp at hc
      have HR4 := Go.Lib.hid hr4
      have HE4 : Hid (w4.ownsRow N 5 1 v4 ((ansL (F.take (i + 1)) nx).flatMap Frm.enc).length (by8 ((ansL (F.take (i + 1)) nx).flatMap Frm.enc)) ∧ HubIs own h (nx + (i + 1)) (mr + (i + 1)) ⟨L, N⟩ (lastOf last (F.take (i + 1))) w4 ∧ FP B F pl w4 (.slice (some ⟨gf, 0, none⟩) F.length cf) ∧ Kx own TFr w w4 ∧ N ≤ w4.heap.size ∧ w4.heap[b]? = some (.cells #[.slice D m d, .int .i64 0, .int .i64 0] 43 (0, 0))) := Go.Lib.hid (by
        have ht : F.take (i + 1) = F.take i ++ [f] := by rw [List.take_add_one, hf]; rfl
        have htl : (F.take i).length = i := by simp [List.length_take]; omega
        rw [ht, ansL_snoc, lastOf_snoc, htl, List.flatMap_append, List.length_append]
        rw [HN6.out, hn3] at ho4
        exact ⟨ho4, hh4, hf4, hx4, Nat.le_trans hN3 hg4.size, hb4⟩)
      obtain ⟨f5, n1, n2, n3⟩ := HE4.out.2.1.at_
      have HN3 := Go.Lib.hid n3
      clear hn3 ho3 hh3 hx3 ho6 hN3 hlen hr4 ho4 hg4 hk4 hS hh4 hx4 hf4 hb4 n2 n3 HX HFR
      go_wp2_with (at_builtin; refine wpList_append_run (by rfl) (by rfl) HR4.out ?_)
      refine HN3.out.mono ?_
      rintro e w5 ⟨rfl, hw5⟩
      rw [hw5]
      clear hw5 HN3
      go_wp2_with fail
      exact ⟨⟨i + 1, by omega, by go_num, HE4⟩, by simp [intOf]; omega⟩
    · obtain rfl : i = F.length := by omega
      obtain ⟨f5, n1, n2, n3⟩ := HX.out.2.1.at_
      obtain ⟨t0, t1, t2, _⟩ := cells3 HX.out.2.2.2.2.2
      have HN3 := Go.Lib.hid n3
      clear n2 n3
      go_wp2_with fail
      refine HN3.out.mono ?_
      rintro e w5 ⟨rfl, hw5⟩
      rw [hw5]
      clear hw5 HN3
      go_wp2_with fail
      go_loopw [6, 90] (fun s6 s90 wx => s6 = .slice A6 n6 c6 ∧ s90 = .int .i64 0 ∧ wx = wr) (fun _ _ _ => 0)
      case atStart => exact ⟨rfl, rfl, rfl⟩
      case round =>
        obtain ⟨rfl, rfl, rfl⟩ := hrel
        go_wp2_with fail
        go_ret2
        refine ⟨N, _, N, rfl, hNw, ?_, ?_, HX.out.2.2.2.1⟩
        · have := HO1.out
          have e6 := HN6.out
          rw [List.take_length] at e6 this
          rw [← e6]
          exact this
        · have := HX.out.2.1
          rwa [List.take_length] at this
end Go.Proofs.YtkhalpnonijogaaGreat
namespace Go.Proofs.YtkhalpnonijogaaGreat
open Go.RowKit

theorem HubIs.wide {own own' : Nat → Prop} {h nx mr : Nat} {L : Lft} {last : Option Nat} {w : World} (H : HubIs own h nx mr L last w) (ho : ∀ k, own k → own' k) : HubIs own' h nx mr L last w := by
  obtain ⟨arr, f, r, k, t, ws, cnt, g1, g2, g3, g4, g5, g6, g7, g8, g9, g10, g11, g12⟩ := H.ex
  obtain ⟨rows, m, Lr, h1, h2, h3, h4⟩ := g10.ex
  obtain ⟨ev, cap, wh, now, arr2, t1, t2, t3, t4⟩ := g12.ex
  exact ⟨⟨arr, f, r, k, t, ws, cnt, g1, g2, g3, g4, g5, g6, g7, g8, g9, ⟨⟨rows, m, Lr, h1, h2, h3, fun g e => ho g (h4 g e)⟩, ho r g10.own⟩, ⟨g11.ex, ho k g11.own⟩, ⟨ev, cap, wh, now, arr2, t1, t2, t3, fun i hi => by
    obtain ⟨c, buf, s, r, e1, e2, e3, e4⟩ := t4 i hi
    exact ⟨c, buf, s, r, e1, e2, e3, ho c e4⟩⟩⟩, ho h H.own⟩
/-- What another hub turns leaves a hub. -/
theorem HubIs.apart {own own' : Nat → Prop} {h nx mr : Nat} {L : Lft} {last : Option Nat} {w w' : World} (H : HubIs own h nx mr L last w) (hk : Kx own' TFr w w') (hd : ∀ k, own k → k < w.heap.size → ¬ own' k) : HubIs own h nx mr L last w' := by
  obtain ⟨arr, f, r, k, t, ws, cnt, g1, g2, g3, g4, g5, g6, g7, g8, g9, g10, g11, g12⟩ := H.ex
  obtain ⟨rows, m, Lr, h1, h2, h3, h4⟩ := g10.ex
  obtain ⟨left, bad, lv, l1, l2, l3⟩ := g11.ex
  obtain ⟨ev, cap, wh, now, arr2, t1, t2, t3, t4⟩ := g12.ex
  have far : ∀ {k : Nat} {o : Obj}, w.heap[k]? = some o → own k → w'.heap[k]? = some o := fun e ho => hk.far e (hd _ ho (lt_of_block e))
  have hrows : w'.ownsRow 0 323 7 rows m (ints Lr) := by
    rcases h3.2 with ⟨e1, e2⟩ | ⟨g, cap, cur, e1, e2, e3, e4⟩
    · exact ⟨h3.1, .inl ⟨e1, e2⟩⟩
    · exact ⟨h3.1, .inr ⟨g, cap, cur, e1, e2, far e3 (h4 g (by rw [e1]; rfl)), e4⟩⟩
  have hleft : OwnL w' left L := ⟨own_kept l2.1 (fun i cs fr hi => hk.cells hi (by decide)), l2.2⟩
  have hlast : lastIs last w' lv := by
    cases last with
    | none => exact l3
    | some s =>
      obtain ⟨q, c1, c2, c3, e1, e2⟩ := l3
      exact ⟨q, c1, c2, c3, e1, hk.cells e2 (by decide)⟩
  exact ⟨⟨arr, f, r, k, t, ws, cnt, far g1 H.own, g2, g3, g4, g5, g6, g7, g8, hk.cells g9 (by decide), ⟨⟨rows, m, Lr, h1, far h2 g10.own, hrows, h4⟩, g10.own⟩, ⟨⟨left, bad, lv, far l1 g11.own, hleft, hlast⟩, g11.own⟩,
    ⟨ev, cap, wh, now, arr2, hk.cells t1 (by decide), t2, hk.cells t3 (by decide), fun i hi => by
      obtain ⟨c, buf, s, r, e1, e2, e3, e4⟩ := t4 i hi
      exact ⟨c, buf, s, r, e1, far e2 e4, e3, e4⟩⟩⟩, H.own⟩

/-- Bytes behind a row of the call's own; where the row lies then. -/
theorem app8a {w : World} {B : Nat} {v : Value} {k : Nat} {xs : List (BitVec 8)} (hown : w.ownsRow B 5 1 v k (by8 xs)) {A : Option Addr} {n c : Nat} {l : List (BitVec 8)} (hA : Byts w A l) (hn : n = l.length) (hs : Src A n c) (hl : k + n ≤ 10000000) (hB : B ≤ w.heap.size) :
    ∃ v' w', (Builtin.append_ #[37, 37] 37 #[v, .slice A n c]).run Tryz.prog w = .ok v' w' ∧ w'.ownsRow B 5 1 v' (k + n) (by8 (xs ++ l)) ∧ w.grownBy w' v.ownBlock ∧ (v'.ownBlock = v.ownBlock ∨ v'.ownBlock = some w.heap.size) := by
  obtain ⟨i0, hi, hz0, hz1, hz2⟩ := info5
  cases A with
  | none =>
    obtain ⟨h1, h2⟩ := hs rfl
    subst h1 h2
    obtain rfl : l = [] := List.eq_nil_of_length_eq_zero hn.symm
    exact ⟨v, w, run_append_owned_none (P := Tryz.prog) (w := w) B 37 37 5 i0 1 Tryz.underlying37 hi v k _ hown, by simpa using hown, ⟨rfl, rfl, rfl, Nat.le_refl _, fun _ _ _ => rfl⟩, .inl rfl⟩
  | some a =>
    obtain ⟨v', w', h1, h2, h3, _, h5⟩ := run_append_own_at (P := Tryz.prog) w B 37 37 5 i0 (.int .u8 0) 1 1 Tryz.underlying37 hi hz0 hz1 hz2 rfl (by omega) v k _ hown a n c (by8 l) (by rw [by8_len, hn, Nat.mul_one]) (fun j u hj => by
      obtain ⟨x, hx⟩ : ∃ x, l[j]? = some x := ⟨_, List.getElem?_eq_getElem (by rw [← by8_len]; exact (List.getElem?_eq_some_iff.1 hj).1)⟩
      rw [by8_get hx] at hj
      obtain rfl := Option.some.inj hj
      obtain ⟨a', ha', hc⟩ := hA j x hx
      obtain rfl := Option.some.inj ha'
      exact hc) (by8_one l) (by unfold maxLen; omega) (by omega) hB
    exact ⟨v', w', h1, by rw [by8_append]; exact h2, h3, h5⟩
/-- Two rows of bytes, apart from each other. -/
structure Two (w0 w : World) (u v : Value) (x y : List (BitVec 8)) : Prop where
  one : w.ownsRow w0.heap.size 5 1 u x.length (by8 x)
  two : w.ownsRow w0.heap.size 5 1 v y.length (by8 y)
  apart : ∀ g, u.ownBlock = some g → v.ownBlock ≠ some g
  keeps : Keeps [] w0 w
theorem own_lt {w : World} {B E sz n : Nat} {v : Value} {xs : List Value} (h : w.ownsRow B E sz v n xs) {g : Nat} (e : v.ownBlock = some g) : g < w.heap.size := (h.lt g e).2
theorem Two.new {w0 w w' : World} {u v : Value} {x y : List (BitVec 8)} (h : Two w0 w u v x y) (hk : Keeps [] w w') : Two w0 w' u v x y :=
  ⟨own_new h.one hk, own_new h.two hk, h.apart, h.keeps.trans hk⟩
theorem own_grown {w w' : World} {B n : Nat} {u v : Value} {ys : List Value} (hg : w.grownBy w' u.ownBlock) (hv : w.ownsRow B 5 1 v n ys) (ha : ∀ g, u.ownBlock = some g → v.ownBlock ≠ some g) : w'.ownsRow B 5 1 v n ys := by
  rcases hv.2 with ⟨e1, e2⟩ | ⟨g, cap, cur, e1, e2, e3, e4⟩
  · exact ⟨hv.1, .inl ⟨e1, e2⟩⟩
  · refine ⟨hv.1, .inr ⟨g, cap, cur, e1, e2, ?_, e4⟩⟩
    rw [hg.block g (lt_of_block e3) (fun e => ha g e.symm (by rw [e1]; rfl))]
    exact e3
theorem Two.grow1 {w0 w : World} {u v : Value} {x y : List (BitVec 8)} (h : Two w0 w u v x y) {A : Option Addr} {n c : Nat} {l : List (BitVec 8)} (hA : Byts w A l) (hn : n = l.length) (hs : Src A n c) (hl : x.length + n ≤ 10000000) :
    ∃ u' w', (Builtin.append_ #[37, 37] 37 #[u, .slice A n c]).run Tryz.prog w = .ok u' w' ∧ Two w0 w' u' v (x ++ l) y := by
  obtain ⟨u', w', h1, h2, h3, h4⟩ := app8a h.one hA hn hs hl h.keeps.size
  refine ⟨u', w', h1, ⟨by rw [List.length_append, ← hn]; exact h2, own_grown h3 h.two h.apart, fun g e => ?_, keeps_grow h.keeps h.one h3⟩⟩
  rcases h4 with h4 | h4
  · rw [h4] at e; exact h.apart g e
  · rw [h4] at e
    obtain rfl := Option.some.inj e
    intro e2
    have := own_lt h.two e2
    omega
theorem Two.swap {w0 w : World} {u v : Value} {x y : List (BitVec 8)} (h : Two w0 w u v x y) : Two w0 w v u y x := ⟨h.two, h.one, fun g e1 e2 => h.apart g e2 e1, h.keeps⟩
theorem Two.grow2 {w0 w : World} {u v : Value} {x y : List (BitVec 8)} (h : Two w0 w u v x y) {A : Option Addr} {n c : Nat} {l : List (BitVec 8)} (hA : Byts w A l) (hn : n = l.length) (hs : Src A n c) (hl : y.length + n ≤ 10000000) :
    ∃ v' w', (Builtin.append_ #[37, 37] 37 #[v, .slice A n c]).run Tryz.prog w = .ok v' w' ∧ Two w0 w' u v' x (y ++ l) := by
  obtain ⟨v', w', h1, h2⟩ := h.swap.grow1 hA hn hs hl
  exact ⟨v', w', h1, h2.swap⟩
end Go.Proofs.YtkhalpnonijogaaGreat
