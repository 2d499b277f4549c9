/- link.Feed, Asked. No condition but the link's. | cmd.good, Decode of a subscription's payload and of a status'. No condition but the numbers' bounds. -/
import Derived.Test.YtkhalpnonijogaaGreatX18
import Derived.Test.YtkhalpnonijogaaGreatX01
import Derived.Deep.RegionHeld3
import Derived.Test.YtkhalpnonijogaaGreatX19
namespace Go.Proofs.YtkhalpnonijogaaGreat
open Go.RowKit

theorem src_of_own {B : Nat} {w : World} {A : Option Addr} {n c E sz : Nat} {xs : List Value} (h : w.ownsRow B E sz (.slice A n c) n xs) : Src A n c := by
  intro hA
  subst hA
  rcases h.2 with ⟨hv, h0⟩ | ⟨g, cap, cur, hv, _⟩
  · simp only [Value.slice.injEq, true_and] at hv
    exact ⟨h0, hv.2⟩
  · simp at hv
def lastIs (last : Option Nat) (w : World) (v : Value) : Prop := match last with
  | none => v = .pointer none
  | some s => ∃ q c1 c2 c3, v = .pointer (some ⟨q, 0, none⟩) ∧ w.heap[q]? = some (.cells #[.int .i64 s, c1, c2, c3] 248 (0, 0))
/-- Bytes left over, and a bound of their block. -/
structure Lft where
  l : List (BitVec 8)
  ub : Nat
def OwnL (w : World) (v : Value) (L : Lft) : Prop := w.ownsRow 0 5 1 v L.l.length (by8 L.l) ∧ ∀ g, v.ownBlock = some g → g < L.ub
/-- A link: what is left, the next number, the last frame's number. -/
structure LinkIs (own : Nat → Prop) (w : World) (k nx : Nat) (L : Lft) (last : Option Nat) : Prop where
  ex : ∃ (left : Value) (bad : Int) (lv : Value), w.heap[k]? = some (.cells (lkA left bad nx lv) 150 (0, 0)) ∧ OwnL w left L ∧ lastIs last w lv
  own : own k
theorem lastIs.keeps {last : Option Nat} {S : List Nat} {w w' : World} {v : Value} (h : lastIs last w v) (hk : Keeps S w w') (hS : ∀ x ∈ S, ∀ cs t fr, w.heap[x]? = some (.cells cs t fr) → t ≠ 248) : lastIs last w' v := by
  cases last with
  | none => exact h
  | some s =>
    obtain ⟨q, c1, c2, c3, e1, e2⟩ := h
    exact ⟨q, c1, c2, c3, e1, hk.heap e2 (fun hm => hS _ hm _ _ _ e2 rfl)⟩
theorem only_of {w : World} {k : Nat} {cs : Array Value} {t : TypeId} {fr : Nat × Nat} (h : w.heap[k]? = some (.cells cs t fr)) : ∀ x ∈ [k], ∀ cs' t' fr', w.heap[x]? = some (.cells cs' t' fr') → t' = t := by
  intro x hx cs' t' fr' h'
  rw [List.mem_singleton.1 hx, h] at h'
  simp only [Option.some.injEq, Obj.cells.injEq] at h'
  exact h'.2.1.symm
theorem LinkIs.keeps {own : Nat → Prop} {S : List Nat} {w w' : World} {k nx : Nat} {L : Lft} {last : Option Nat} (h : LinkIs own w k nx L last) (hk : Keeps S w w') (hS : ∀ x ∈ S, ∀ cs t fr, w.heap[x]? = some (.cells cs t fr) → t ≠ 150 ∧ t ≠ 5 ∧ t ≠ 248) : LinkIs own w' k nx L last := by
  obtain ⟨left, bad, lv, h1, h2, h3⟩ := h.ex
  exact ⟨⟨left, bad, lv, hk.heap h1 (fun hm => (hS _ hm _ _ _ h1).1 rfl), ⟨own_kept h2.1 (fun i cs fr hi => hk.heap hi (fun hm => (hS _ hm _ _ _ hi).2.1 rfl)), h2.2⟩, h3.keeps hk (fun x hx cs t fr h => (hS x hx cs t fr h).2.2)⟩, h.own⟩

set_option maxHeartbeats 1600000 in
theorem feed_ok {own : Nat → Prop} {k0 nx : Nat} {left : Lft} {last : Option Nat} {F : List Frm} {L h : List (BitVec 8)} {w : World} (hl : LinkIs own w k0 nx left last) (hs : Scn (left.l ++ h) F L) (hF : ∀ f ∈ F, f.pay ≠ []) (hlen : (left.l ++ h).length ≤ 100000) {D : Option Addr} {m d : Nat} (hD : Byts w D h) (hm : m = h.length) (hsD : Src D m d) (hm9 : m ≤ 70000) (hl9 : left.l.length ≤ 70000) :
    Calls Tryz.prog 30 #[.pointer (some ⟨k0, 0, none⟩), .slice D m d] w fun e w' => ∃ vf, e = .returned vf ∧ FrmsIs w.heap.size F w' vf ∧ LinkIs own w' k0 nx ⟨L, w'.heap.size⟩ last ∧ Keeps [k0] w w' := by
  obtain ⟨lv, bad, pv, h1, ⟨h2, _⟩, h3⟩ := hl.ex
  obtain ⟨A, c, rfl⟩ := own_form h2
  have p0 := (cell_at h1 (p := 0) rfl).1
  have HC := Go.Lib.hid (take_ok hs hF hlen (Byts.of_own h2) hD rfl hm (src_of_own h2) hsD hl9 hm9)
  have H1 := Go.Lib.hid h1
  have HL := Go.Lib.hid hl
  have H3 := Go.Lib.hid h3
  clear hs hF hlen hD hm hsD h1 h2 h3 hl
  go_enter Tryz.func30, Tryz.ntmps30
  go_wp2_with fail
  refine HC.out.mono ?_
  rintro e w1 ⟨vf, vl, bad1, rfl, hb1, hf1, ho1, hk1⟩
  have h11 := hk1.heap H1.out (by simp)
  obtain ⟨A1, c1, rfl⟩ := own_form ho1
  have q0 : w1.cell? ⟨k0, 0, none⟩ = some (.slice A left.l.length c) := (cell_at h11 rfl).1
  have q0' := (cell_at h11 (p := 0) rfl).2
  have q1 : w1.cell? ⟨k0, 1, none⟩ = some (.int .i64 bad) := (cell_at h11 rfl).1
  have q1' := (cell_at h11 (p := 1) rfl).2
  have HF1 := Go.Lib.hid hf1
  have HO1 := Go.Lib.hid ho1
  have HK1 := Go.Lib.hid hk1
  have H11 := Go.Lib.hid h11
  clear hf1 ho1 hk1 h11 HC hb1 p0
  go_wp2_with fail
  go_ret
  have hw : ∀ W, W = (w1.setCell ⟨k0, 0, none⟩ (.slice A1 L.length c1)).setCell ⟨k0, 1, none⟩ (.int .i64 (wrap64 (bad + bad1))) → Keeps [k0] w1 W ∧ W.heap[k0]? = some (.cells (lkA (.slice A1 L.length c1) (wrap64 (bad + bad1)) nx pv) 150 (0, 0)) := by
    rintro W rfl
    exact ⟨((Keeps.refl _ _).setCell (by simp) _).setCell (by simp) _, (heap_setCell_self (heap_setCell_self H11.out)).trans (by simp [lkA])⟩
  obtain ⟨hkS, hWk⟩ := hw _ rfl
  have ho := only_of H11.out
  refine ⟨vf, rfl, HF1.out.keeps hkS (fun x hx cs t fr h => by rw [ho x hx cs t fr h]; decide), ⟨⟨_, _, _, hWk, ⟨own_kept (own_down HO1.out (Nat.zero_le _)) (fun i cs fr hi => hkS.heap hi (fun hm => by have := ho i hm _ _ _ hi; simp at this)), fun g e => Nat.lt_of_lt_of_le (HO1.out.lt g e).2 hkS.size⟩, ?_⟩, HL.out.own⟩, (HK1.out.mono (by simp)).trans hkS⟩
  exact (H3.out.keeps HK1.out (by simp)).keeps hkS (fun x hx cs t fr h => by rw [ho x hx cs t fr h]; decide)

/-- What a cell holds, whatever it is: a fact that a store leaves true. -/
def held (w : World) (a : Addr) : Value := (w.cell? a).getD undef
abbrev StOk (w : World) (a : Addr) : Prop := w.cell? a = some (held w a) ∧ w.frozen? a = false
theorem st_ok {w : World} {a : Addr} {u : Value} (h : w.cell? a = some u) (h' : w.frozen? a = false) : StOk w a := ⟨by simp [held, h], h'⟩
set_option maxHeartbeats 1600000 in
theorem asked_ok {own : Nat → Prop} {k0 nx : Nat} {left : Lft} {last : Option Nat} {f : Frm} {x : List (BitVec 8)} {A B : Option Addr} {c d m : Nat} {w : World} (hl : LinkIs own w k0 nx left last) (hA : Byts w A f.pay) (hsA : Src A f.pay.length c) (hp : f.pay.length ≤ 256) (hB : Byts w B x) (hm : m = x.length) (hsB : Src B m d) (hx : m ≤ 1000) :
    Calls Tryz.prog 59 #[.pointer (some ⟨k0, 0, none⟩), .agg #[.int .i64 f.seq.toNat, .int .i64 f.kind.toNat, .slice A f.pay.length c], .slice B m d] w fun e w' => (∃ v, e = .returned v) ∧ LinkIs own w' k0 nx left (some f.seq.toNat) ∧ Keeps [k0] w w' := by
  obtain ⟨lv, bad, pv, h1, h2, h3⟩ := hl.ex
  have HA := Go.Lib.hid hA
  have HSA := Go.Lib.hid hsA
  have HB := Go.Lib.hid hB
  have HM := Go.Lib.hid hm
  have HSB := Go.Lib.hid hsB
  have H1 := Go.Lib.hid h1
  have H2 := Go.Lib.hid h2
  have H3 := Go.Lib.hid h3
  have HL := Go.Lib.hid hl
  clear hA hsA hB hm hsB h1 h2 h3 hl
  go_enter Tryz.func59, Tryz.ntmps59
  go_upto_region 1 with fail
  obtain ⟨b, hb⟩ : ∃ b, b = w.heap.size := ⟨_, rfl⟩
  obtain ⟨w0, hw0⟩ : ∃ w0, w0 = w.alloc (.cells #[.int .i64 f.seq.toNat, .int .i64 f.kind.toNat, .slice A f.pay.length c] 63) := ⟨_, rfl⟩
  rw [← hw0, ← hb]
  have hk0 : Keeps [] w w0 := by rw [hw0]; exact (Keeps.refl _ _).alloc _
  have hx0 : w0.heap[b]? = some (.cells #[.int .i64 f.seq.toNat, .int .i64 f.kind.toNat, .slice A f.pay.length c] 63 (0, 0)) := by rw [hw0, hb]; exact heap_alloc_new _ _
  have kc : ∀ (W : World) (p' : Value), W.heap[b]? = some (.cells #[.int .i64 f.seq.toNat, .int .i64 f.kind.toNat, .slice A f.pay.length c] 63 (0, 0)) → W.heap[k0]? = some (.cells (lkA lv bad nx p') 150 (0, 0)) →
      W.cell? ⟨b, 0, none⟩ = some (.int .i64 f.seq.toNat) ∧ W.cell? ⟨b, 1, none⟩ = some (.int .i64 f.kind.toNat) ∧ W.cell? ⟨b, 2, none⟩ = some (.slice A f.pay.length c) ∧ StOk W ⟨k0, 3, none⟩ := fun _ _ h1 h2 =>
    ⟨(cells3 h1).1, (cells3 h1).2.1, (cells3 h1).2.2.1, st_ok (cell_at h2 (p := 3) rfl).1 (cell_at h2 (p := 3) rfl).2⟩
  have h10 := hk0.heap H1.out (by simp)
  have KC := Go.Lib.hid kc
  have HP0 := Go.Lib.hid (And.intro hx0 h10)
  have HBK : Hid (b ∉ [k0]) := Go.Lib.hid (by
    rw [List.mem_singleton]
    exact block_ne hx0 h10 (by simp))
  clear kc h10
  have hkd : Keeps [] w w0.drew := hk0.drew
  have HKD := Go.Lib.hid hkd
  clear hw0 hb hk0 hx0 hkd
  go_region_held3 (fun wx => wx.cell? ⟨b, 0, none⟩ = some (.int .i64 f.seq.toNat) ∧ wx.cell? ⟨b, 1, none⟩ = some (.int .i64 f.kind.toNat) ∧ wx.cell? ⟨b, 2, none⟩ = some (.slice A f.pay.length c) ∧ wx.cell? ⟨k0, 3, none⟩ = some (held wx ⟨k0, 3, none⟩) ∧ wx.frozen? ⟨k0, 3, none⟩ = false)
    (first | exact KC.out _ _ HP0.out.1 HP0.out.2 | exact KC.out _ _ HP1.out.1 HP1.out.2 | exact KC.out _ _ HP2.out.1 HP2.out.2 | exact KC.out _ _ (((Keeps.refl [] w2).alloc _).heap HP2.out.1 (by simp)) (((Keeps.refl [] w2).alloc _).heap HP2.out.2 (by simp)) | exact KC.out _ _ (((((Keeps.refl [k0] w2).alloc _).setCell (by simp) _)).heap HP2.out.1 HBK.out) (heap_setCell_self (((Keeps.refl [] w2).alloc _).heap HP2.out.2 (by simp))) | fail)
    (first
      | (go_at_call 97; (refine (clone_any (HB.out.keeps0 ((HKD.out.trans HK1.out))) HM.out HSB.out (by omega)).mono ?_; rintro e w2 ⟨v2, rfl, ho2, hk2⟩); obtain ⟨A2, c2, rfl⟩ := own_form ho2; have HO2 := Go.Lib.hid ho2; have HK2 := Go.Lib.hid hk2; have HP2 := Go.Lib.hid (And.intro (HK2.out.heap HP1.out.1 (by simp)) (HK2.out.heap HP1.out.2 (by simp))); clear ho2 hk2)
      | (go_at_call 97; (refine (clone_any (HA.out.keeps0 HKD.out) rfl HSA.out (by omega)).mono ?_; rintro e w1 ⟨v1, rfl, ho1, hk1⟩); obtain ⟨A1, c1, rfl⟩ := own_form ho1; have HO1 := Go.Lib.hid ho1; have HK1 := Go.Lib.hid hk1; have HP1 := Go.Lib.hid (And.intro (HK1.out.heap HP0.out.1 (by simp)) (HK1.out.heap HP0.out.2 (by simp))); clear ho1 hk1))
  go_wp2_with fail
  go_end0
  have hk2 : Keeps [] w w2 := (HKD.out.trans HK1.out).trans HK2.out
  have hlt := lt_of_block H1.out
  have hw : ∀ W, W = (w2.alloc (.cells #[.int .i64 f.seq.toNat, .int .i64 f.kind.toNat, .slice A1 f.pay.length c1, .slice A2 x.length c2] 248)).setCell ⟨k0, 3, none⟩ (.pointer (some ⟨w2.heap.size, 0, none⟩)) → Keeps [k0] w W ∧ W.heap[k0]? = some (.cells (lkA lv bad nx (.pointer (some ⟨w2.heap.size, 0, none⟩))) 150 (0, 0)) ∧ W.heap[w2.heap.size]? = some (.cells #[.int .i64 f.seq.toNat, .int .i64 f.kind.toNat, .slice A1 f.pay.length c1, .slice A2 x.length c2] 248 (0, 0)) := by
    rintro W rfl
    refine ⟨((hk2.mono (by simp)).alloc _).setCell (by simp) _, (heap_setCell_self ((hk2.alloc _).heap H1.out (by simp))).trans (by simp [lkA]), ?_⟩
    rw [Below.heap_setCell _ _ _ _ (by have := hk2.size; simp; omega)]
    exact heap_alloc_new _ _
  obtain ⟨hkS, hWk, hWq⟩ := hw _ rfl
  have ho := only_of H1.out
  exact ⟨⟨_, rfl⟩, ⟨⟨_, _, _, hWk, ⟨own_kept H2.out.1 (fun i cs fr hi => hkS.heap hi (fun hm => by have := ho i hm _ _ _ hi; simp at this)), H2.out.2⟩, ⟨_, _, _, _, rfl, hWq⟩⟩, HL.out.own⟩, hkS⟩
end Go.Proofs.YtkhalpnonijogaaGreat
namespace Go.Proofs.YtkhalpnonijogaaGreat
open Go.RowKit

section
variable {w : World} {g : Nat} {c0 c1 c2 c3 c4 c5 c6 c7 : Value} {t : TypeId}
theorem cells8 (h : w.heap[g]? = some (.cells #[c0, c1, c2, c3, c4, c5, c6, c7] t (0, 0))) : w.cell? ⟨g, 0, none⟩ = some c0 ∧ w.cell? ⟨g, 1, none⟩ = some c1 ∧ w.cell? ⟨g, 2, none⟩ = some c2 ∧ w.cell? ⟨g, 3, none⟩ = some c3 ∧ w.cell? ⟨g, 4, none⟩ = some c4 ∧ w.cell? ⟨g, 5, none⟩ = some c5 ∧ w.cell? ⟨g, 6, none⟩ = some c6 ∧ w.cell? ⟨g, 7, none⟩ = some c7 := by
  simp [World.cell?, h]
theorem free8 (h : w.heap[g]? = some (.cells #[c0, c1, c2, c3, c4, c5, c6, c7] t (0, 0))) : w.frozen? ⟨g, 0, none⟩ = false ∧ w.frozen? ⟨g, 1, none⟩ = false ∧ w.frozen? ⟨g, 2, none⟩ = false ∧ w.frozen? ⟨g, 3, none⟩ = false ∧ w.frozen? ⟨g, 4, none⟩ = false ∧ w.frozen? ⟨g, 5, none⟩ = false ∧ w.frozen? ⟨g, 6, none⟩ = false ∧ w.frozen? ⟨g, 7, none⟩ = false := by
  simp [World.frozen?, h]
end
set_option maxHeartbeats 1600000 in
set_option maxRecDepth 100000 in
theorem good_sub {x : Sb} (hx : x.Ok) (w : World) :
    Calls Tryz.prog 154 #[.agg #[.int .i64 1, .int .i64 x.c, .int .i64 x.s, .int .i64 x.p, .int .i64 x.l, .int .i64 0, .slice none 0 0, .int .i64 x.c]] w (IsTrue w) := by
  have HC := Go.Lib.hid (client_yes hx.c)
  have HS := Go.Lib.hid (fun W => csub_yes hx W)
  have hne := sub_ne x.c x.s x.p x.l (by have := hx.s1; omega)
  obtain ⟨b, hb⟩ : ∃ b, b = w.heap.size := ⟨_, rfl⟩
  obtain ⟨w0, hw0⟩ : ∃ w0, w0 = w.alloc (.cells #[.int .i64 1, .int .i64 x.c, .int .i64 x.s, .int .i64 x.p, .int .i64 x.l, .int .i64 0, .slice none 0 0, .int .i64 x.c] 59) := ⟨_, rfl⟩
  have hk0 : Keeps [] w w0 := by rw [hw0]; exact (Keeps.refl _ _).alloc _
  have hx0 : w0.heap[b]? = some (.cells #[.int .i64 1, .int .i64 x.c, .int .i64 x.s, .int .i64 x.p, .int .i64 x.l, .int .i64 0, .slice none 0 0, .int .i64 x.c] 59 (0, 0)) := by rw [hw0, hb]; exact heap_alloc_new _ _
  obtain ⟨p0, p1, p2, p3, p4, p5, p6, p7⟩ := cells8 hx0
  have HK0 := Go.Lib.hid hk0
  have HX0 := Go.Lib.hid hx0
  have HW := Go.Lib.hid hw0
  have HB := Go.Lib.hid hb
  clear hb hw0 hk0 hx0 hx
  go_enter Tryz.func154, Tryz.ntmps154
  go_upto_region 1 with fail
  rw [← HW.out, ← HB.out]
  go_wp2_with (go_at_call 160; refine (HC.out _).mono ?_; rintro e w' ⟨rfl, rfl⟩)
  go_quiet (fail)
  go_wp2_with fail
  refine (HS.out _).mono ?_
  rintro e w1 ⟨rfl, hk1⟩
  obtain ⟨q0, q1, q2, q3, q4, q5, q6, q7⟩ := cells8 (hk1.heap HX0.out (by simp))
  have HK1 := Go.Lib.hid ((HK0.out.drewN _).trans hk1)
  clear hk1 p0 p1 p2 p3 p4 p5 p6 p7
  go_wp2_with fail
  go_ret
  exact ⟨rfl, HK1.out⟩
set_option maxHeartbeats 1600000 in
set_option maxRecDepth 100000 in
theorem good_stat (w : World) :
    Calls Tryz.prog 154 #[.agg #[.int .i64 6, .int .i64 0, .int .i64 0, .int .i64 0, .int .i64 0, .int .i64 0, .slice none 0 0, .int .i64 0]] w (IsTrue w) := by
  have HC := Go.Lib.hid (client_yes (n := 0) (by omega))
  have hne : ∀ W, (Go.binOp .eql 30 (.agg #[.int .i64 0, .int .i64 0, .int .i64 0, .int .i64 0]) (.agg #[.int .i64 0, .int .i64 0, .int .i64 0, .int .i64 0])).run Tryz.prog W = .ok (.bool true) W := fun W => by kernel_rfl
  obtain ⟨b, hb⟩ : ∃ b, b = w.heap.size := ⟨_, rfl⟩
  obtain ⟨w0, hw0⟩ : ∃ w0, w0 = w.alloc (.cells #[.int .i64 6, .int .i64 0, .int .i64 0, .int .i64 0, .int .i64 0, .int .i64 0, .slice none 0 0, .int .i64 0] 59) := ⟨_, rfl⟩
  have hk0 : Keeps [] w w0 := by rw [hw0]; exact (Keeps.refl _ _).alloc _
  have hx0 : w0.heap[b]? = some (.cells #[.int .i64 6, .int .i64 0, .int .i64 0, .int .i64 0, .int .i64 0, .int .i64 0, .slice none 0 0, .int .i64 0] 59 (0, 0)) := by rw [hw0, hb]; exact heap_alloc_new _ _
  obtain ⟨p0, p1, p2, p3, p4, p5, p6, p7⟩ := cells8 hx0
  have HK0 := Go.Lib.hid hk0
  have HX0 := Go.Lib.hid hx0
  have HW := Go.Lib.hid hw0
  have HB := Go.Lib.hid hb
  clear hb hw0 hk0 hx0
  go_enter Tryz.func154, Tryz.ntmps154
  go_upto_region 1 with fail
  rw [← HW.out, ← HB.out]
  go_wp2_with (go_at_call 160; refine (HC.out _).mono ?_; rintro e w' ⟨rfl, rfl⟩)
  go_quiet (fail)
  go_wp2_with fail
  go_ret
  exact ⟨rfl, HK0.out.drewN _⟩
end Go.Proofs.YtkhalpnonijogaaGreat
