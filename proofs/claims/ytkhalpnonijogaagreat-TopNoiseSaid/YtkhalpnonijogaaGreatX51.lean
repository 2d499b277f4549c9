/- TopNoise: the walk. No condition but the argument's form. -/
import Derived.Test.YtkhalpnonijogaaGreatX50
import Derived.Test.YtkhalpnonijogaaGreatX33
import Derived.Test.YtkhalpnonijogaaGreatX34
import Derived.Deep.CutRange
namespace Go.Proofs.YtkhalpnonijogaaGreat
open Go.RowKit

def fld (a : Addr) (k : Nat) : Addr := ⟨a.block, a.off + k, none⟩
/-- Subscriptions, wherever they lie. -/
def Subs (w : World) (B : Option Addr) (ss : List Sx) : Prop := ∀ i x, ss[i]? = some x → ∃ a, B = some a ∧ w.cell? (a.add (i * 4)) = some (.int .i64 x.c) ∧ w.cell? (fld (a.add (i * 4)) 1) = some (.int .i64 x.s) ∧ w.cell? (fld (a.add (i * 4)) 2) = some (.int .i64 x.p) ∧ w.cell? (fld (a.add (i * 4)) 3) = some (.int .i64 x.l)
theorem Subs.keeps {w w' : World} {B : Option Addr} {ss : List Sx} (h : Subs w B ss) (hk : Keeps [] w w') : Subs w' B ss := by
  intro i x hx
  obtain ⟨a, ha, h1, h2, h3, h4⟩ := h i x hx
  exact ⟨a, ha, hk.cell h1 (by simp), hk.cell h2 (by simp), hk.cell h3 (by simp), hk.cell h4 (by simp)⟩
theorem other_grown {w w' : World} {B n : Nat} {u u' v : Value} {ys : List Value} (hg : w.grownBy w' u.ownBlock) (h4 : u'.ownBlock = u.ownBlock ∨ u'.ownBlock = some w.heap.size) (hv : w.ownsRow B 5 1 v n ys) (ha : ∀ g, v.ownBlock = some g → u.ownBlock ≠ some g) : w'.ownsRow B 5 1 v n ys ∧ ∀ g, v.ownBlock = some g → u'.ownBlock ≠ some g := by
  refine ⟨own_grown hg hv (fun g e1 e2 => ha g e2 e1), fun g e1 e2 => ?_⟩
  rcases h4 with h4 | h4
  · rw [h4] at e2; exact ha g e1 e2
  · rw [h4] at e2
    obtain rfl := Option.some.inj e2
    have := own_lt hv e1
    omega
theorem Two.grow2x {w0 w : World} {u v : Value} {x y : List (BitVec 8)} (h : Two w0 w u v x y) {A : Option Addr} {n c : Nat} {l : List (BitVec 8)} (hA : Byts w A l) (hn : n = l.length) (hs : Src A n c) (hl : y.length + n ≤ 10000000) :
    ∃ v' w', (Builtin.append_ #[37, 37] 37 #[v, .slice A n c]).run Tryz.prog w = .ok v' w' ∧ Two w0 w' u v' x (y ++ l) ∧ w.grownBy w' v.ownBlock ∧ (v'.ownBlock = v.ownBlock ∨ v'.ownBlock = some w.heap.size) := by
  obtain ⟨v', w', h1, h2, h3, h4⟩ := app8a h.two hA hn hs hl h.keeps.size
  obtain ⟨h5, h6⟩ := other_grown h3 h4 h.one h.apart
  exact ⟨v', w', h1, ⟨h5, by rw [List.length_append, ← hn]; exact h2, h6, keeps_grow h.keeps h.two h3⟩, h3, h4⟩
theorem Two.grow1x {w0 w : World} {u v : Value} {x y : List (BitVec 8)} (h : Two w0 w u v x y) {A : Option Addr} {n c : Nat} {l : List (BitVec 8)} (hA : Byts w A l) (hn : n = l.length) (hs : Src A n c) (hl : x.length + n ≤ 10000000) :
    ∃ u' w', (Builtin.append_ #[37, 37] 37 #[u, .slice A n c]).run Tryz.prog w = .ok u' w' ∧ Two w0 w' u' v (x ++ l) y ∧ w.grownBy w' u.ownBlock ∧ (u'.ownBlock = u.ownBlock ∨ u'.ownBlock = some w.heap.size) := by
  obtain ⟨u', w', h1, h2, h3, h4⟩ := h.swap.grow2x hA hn hs hl
  exact ⟨u', w', h1, h2.swap, h3, h4⟩
theorem src_own {w : World} {B n c : Nat} {A : Option Addr} {xs : List Value} (h : w.ownsRow B 5 1 (.slice A n c) n xs) : Src A n c := fun e => by
  subst e
  rcases h.2 with ⟨e1, e2⟩ | ⟨g, cap, cur, e1, _⟩
  · simp only [Value.slice.injEq, true_and] at e1
    exact ⟨e2, e1.2⟩
  · simp at e1
theorem wpList_append_guard {P : Program} {ops : Array Oper} {rest : List Oper} {a : Go.Act} {w w' : World} {Q : Exit → Go.Act → World → Prop} {d : Option Tmp} {x y : Operand} {T : Array TypeId} {ty : TypeId} {pos : String} {af : Array Edge} {gd : Option (Nat × Bool)} {v s v' : Value}
    (hw : Region.wanted { dst := d, op := Op.call { callee := Callee.builtin Builtin.append, args := #[x, y], argTypes := T }, type := ty, pos := pos, after := af, guard := gd } (yielded ops a.tmps) = true)
    (h1 : a.eval x = v) (h2 : a.eval y = s) (hr : (Builtin.append_ T ty #[v, s]).run P w = .ok v' w') (h : wpList P ops Q rest (a.put d v') w') :
    wpList P ops Q ({ dst := d, op := Op.call { callee := Callee.builtin Builtin.append, args := #[x, y], argTypes := T }, type := ty, pos := pos, after := af, guard := gd } :: rest) a w :=
  wpList_step fun _ hK => by
    rw [if_pos hw]
    unfold Oper.wp execOp
    simp only [resolve, invoke, builtin, Sem.run_bind, Sem.run_pure, Result.andThen_ok, List.map_toArray, List.map_cons, List.map_nil, h1, h2, hr]
    exact hK _ _ h
theorem scn_left {t : List (BitVec 8)} {F : List Frm} {L : List (BitVec 8)} (h : Scn t F L) : L.length ≤ t.length := by
  induction h with
  | done f p t hf h ht => exact Nat.le_refl _
  | skip hc h ih => simp only [List.length_cons]; omega
  | take hf h ih => simp only [List.length_append]; omega
set_option maxHeartbeats 12800000 in
set_option maxRecDepth 100000 in
theorem noise_ok {A B : Option Addr} {n m c d : Nat} {bs : List (BitVec 8)} {ss : List Sx} {N : Int} {w : World} (hA : Byts w A bs) (hn : n = bs.length) (hB : Subs w B ss) (hm : m = ss.length) :
    Calls Tryz.prog 6 #[.agg #[.slice A n c, .slice B m d, .int .i64 N]] w fun e w' => e = .returned (.bool true) ∧ Keeps [] w w' := by
  have HA := Go.Lib.hid hA
  have HB := Go.Lib.hid hB
  have HN := Go.Lib.hid hn
  have HM := Go.Lib.hid hm
  clear hA hB hn hm
  go_enter Tryz.func6, Tryz.ntmps6
  go_upto_region 1 with fail
  obtain ⟨x, hx⟩ : ∃ x, x = w.heap.size := ⟨_, rfl⟩
  obtain ⟨w0, hw0⟩ : ∃ w0, w0 = w.alloc (.cells #[.slice A n c, .slice B m d, .int .i64 N] 66) := ⟨_, rfl⟩
  rw [← hw0, ← hx]
  have hk0 : Keeps [] w w0 := by rw [hw0]; exact (Keeps.refl _ _).alloc _
  have hx0 : w0.heap[x]? = some (.cells #[.slice A n c, .slice B m d, .int .i64 N] 66 (0, 0)) := by rw [hw0, hx]; exact heap_alloc_new _ _
  have HK0 := Go.Lib.hid hk0
  have HX0 := Go.Lib.hid hx0
  obtain ⟨q0, q1, q2, _⟩ := cells3 hx0
  clear hx hw0 hk0 hx0
  by_cases hn300 : 300 < n
  · have d1 : decide ((300 : Int) < (n : Int)) = true := decide_eq_true (by omega)
    go_wp2_with fail
    go_ret
    exact ⟨rfl, HK0.out⟩
  have d1 : decide ((300 : Int) < (n : Int)) = false := decide_eq_false (by omega)
  by_cases hm12 : 12 < m
  · have d2 : decide ((12 : Int) < (m : Int)) = true := decide_eq_true (by omega)
    go_wp2_with fail
    go_ret
    exact ⟨rfl, HK0.out⟩
  have d2 : decide ((12 : Int) < (m : Int)) = false := decide_eq_false (by omega)
  go_wp2_with fail
  refine (made_ok _).mono ?_
  rintro e w1 ⟨ha, ba, fa, rfl, hha, hk1⟩
  have HHA := Go.Lib.hid hha
  have HK1 := Go.Lib.hid hk1
  clear hha hk1 q0 q1 q2
  go_wp2_with fail
  refine (made_ok _).mono ?_
  rintro e w2 ⟨hb, bb, fb, rfl, hhb, hk2⟩
  have HHB := Go.Lib.hid hhb
  have HK2 := Go.Lib.hid hk2
  clear hhb hk2 d1 d2
  go_wp2_with fail
  go_loopw [11, 12, 13] (fun s11 s12 s13 wx => ∃ i : Nat, i ≤ m ∧ s13 = .int .i64 i ∧ Hid (Two w2 wx s11 s12 (noisy (cleaned (items bs ss i))) (noisy (items bs ss i)))) (fun _ _ s13 _ => m - (intOf s13).toNat)
  case atStart => exact ⟨0, by omega, rfl, Go.Lib.hid ⟨World.ownsRow_nil _ _ _ _, World.ownsRow_nil _ _ _ _, fun g e => by simp [Value.ownBlock] at e, Keeps.refl _ _⟩⟩
  case round =>
    obtain ⟨i, hi, rfl, HT⟩ := hrel
    have c1 := (cell_at ((HK1.out.trans (HK2.out.trans HT.out.keeps)).heap HX0.out (by simp)) (p := 1) rfl).1
    by_cases him : i < m
    · have d3 : decide ((i : Int) < (m : Int)) = true := decide_eq_true (by omega)
      obtain ⟨y, hy⟩ : ∃ y, ss[i]? = some y := ⟨_, List.getElem?_eq_getElem (by rw [← HM.out]; exact him)⟩
      obtain ⟨aB, rfl, y0, y1, y2, y3⟩ := (HB.out.keeps (HK0.out.trans (HK1.out.trans (HK2.out.trans HT.out.keeps)))) i y hy
      unfold fld at y1 y2 y3
      go_wp2_with fail
      refine (maysub_ok _ _ _ _ _).mono ?_
      rintro e w3 ⟨rfl, hk3⟩
      have HT3 := Go.Lib.hid (HT.out.new hk3)
      have q1 := (cell_at ((HK1.out.trans (HK2.out.trans HT3.out.keeps)).heap HX0.out (by simp)) (p := 1) rfl).1
      obtain ⟨z0, z1, z2, z3⟩ := And.intro (hk3.cell y0 (by simp)) (And.intro (hk3.cell y1 (by simp)) (And.intro (hk3.cell y2 (by simp)) (hk3.cell y3 (by simp))))
      clear hk3 y0 y1 y2 y3 c1
      obtain ⟨my, hmy⟩ : ∃ my, maySub y.c y.s y.p y.l = my := ⟨_, rfl⟩
      rw [hmy]
      cases my with
      | false =>
        have hit : items bs ss (i + 1) = items bs ss i := by
          have : y.may = false := hmy
          simp [items, item, hy, this]
        have HE : Hid (Two w2 w3 u11 u12 (noisy (cleaned (items bs ss (i + 1)))) (noisy (items bs ss (i + 1)))) := Go.Lib.hid (by rw [hit]; exact HT3.out)
        go_wp2_with fail
        exact ⟨⟨i + 1, by omega, by go_num, HE⟩, by simp [intOf]; omega⟩
      | true =>
        obtain ⟨hsb, e0, e1, e2, e3⟩ := Sx.may_ok (x := y) hmy
        have HSUB := Go.Lib.hid (sub_ok hsb (s := i) (by omega) w3)
        rw [e0, e1, e2, e3] at HSUB
        go_wp2_with fail
        refine HSUB.out.mono ?_
        rintro e w4 ⟨v4, rfl, ho4, hk4⟩
        obtain ⟨A4, c4, rfl⟩ := own_form ho4
        obtain ⟨fr, hfr⟩ : ∃ fr, fr = y.sb.frm i := ⟨_, rfl⟩
        rw [← hfr] at ho4 ⊢
        have hfl : fr.enc.length ≤ 30 := by rw [hfr, Frm.enc_len]; simp [Sb.frm, Sb.pay]
        obtain ⟨L4, hL4⟩ : ∃ L4, L4 = fr.enc.length := ⟨_, rfl⟩
        rw [← hL4] at ho4 ⊢
        have hT4 := HT3.out.new hk4
        have hil := items_noisy_len bs ss i
        have ha4 : ∀ g, (Value.slice A4 L4 c4).ownBlock = some g → w3.heap.size ≤ g := fun g e => (ho4.lt g e).1
        obtain ⟨u5, w5, hr5, hT5, hg5, ho5⟩ := hT4.grow1x (Byts.of_own ho4) hL4 (src_own ho4) (by omega)
        obtain ⟨hv5, hb5⟩ := other_grown hg5 ho5 ho4 (fun g e1 e2 => by
          have a := ha4 g e1
          have b := own_lt HT3.out.one e2
          omega)
        have HI : Hid (items bs ss (i + 1) = items bs ss i ++ [(nz bs i 5, fr)]) := Go.Lib.hid (by
          have : y.may = true := hmy
          rw [hfr]
          simp [items, item, hy, this])
        have HR5 := Go.Lib.hid hr5
        have HL4 := Go.Lib.hid (And.intro hL4 hfl)
        have HIL := Go.Lib.hid hil
        have HJ : Hid (Two w2 w5 u5 u12 (noisy (cleaned (items bs ss i)) ++ fr.enc) (noisy (items bs ss i)) ∧ w5.ownsRow w2.heap.size 5 1 (.slice A4 L4 c4) L4 (by8 fr.enc) ∧ ∀ g, (Value.slice A4 L4 c4).ownBlock = some g → u12.ownBlock ≠ some g) := Go.Lib.hid ⟨hT5, own_down hv5 HT3.out.keeps.size, fun g e1 e2 => by
          have a := ha4 g e1
          have b := own_lt HT3.out.two e2
          omega⟩
        clear ho4 hfr hfl hL4 hT4 hil ha4 hr5 hT5 hg5 ho5 hv5 hb5 hk4 hsb e0 e1 e2 e3 z0 z1 z2 z3 HSUB hmy
        go_wp2_with (at_builtin; refine wpList_append_run (by rfl) (by rfl) HR5.out ?_)
        go_loopw [12, 15] (fun s12 s15 wx => ∃ k : Nat, k ≤ 5 ∧ s15 = .int .i64 k ∧ Hid (Two w2 wx u5 s12 (noisy (cleaned (items bs ss i)) ++ fr.enc) (noisy (items bs ss i) ++ nz bs i k) ∧ wx.ownsRow w2.heap.size 5 1 (.slice A4 L4 c4) L4 (by8 fr.enc) ∧ ∀ g, (Value.slice A4 L4 c4).ownBlock = some g → s12.ownBlock ≠ some g)) (fun _ s15 _ => 5 - (intOf s15).toNat)
        case atStart => exact ⟨0, by omega, rfl, Go.Lib.hid ⟨by rw [nz_zero, List.append_nil]; exact HJ.out.1, HJ.out.2⟩⟩
        case round =>
          obtain ⟨k, hk5, rfl, HK⟩ := hrel
          have hkw := HK1.out.trans (HK2.out.trans HK.out.1.keeps)
          have q0 := (cell_at (hkw.heap HX0.out (by simp)) (p := 0) rfl).1
          have hnl := HN.out
          obtain ⟨A12, n12, c12, rfl⟩ : ∃ A12 n12 c12, u12 = .slice A12 n12 c12 := by
            obtain ⟨A12, c12, e⟩ := own_form HK.out.1.two
            exact ⟨A12, _, c12, e⟩
          by_cases hc : k < 5 ∧ 5 * i + k < n
          · obtain ⟨hk, hb⟩ := hc
            obtain ⟨b, hbb⟩ : ∃ b, bs[5 * i + k]? = some b := ⟨_, List.getElem?_eq_getElem (by omega)⟩
            obtain ⟨a, rfl, hca⟩ := (HA.out.keeps0 (HK0.out.trans hkw)) (5 * i + k) b hbb
            have d4 : decide ((k : Int) < 5) = true := decide_eq_true (by omega)
            have d5 : decide (5 * (i : Int) + (k : Int) < (n : Int)) = true := decide_eq_true (by omega)
            have d6 : (0 : Int) ≤ 5 * (i : Int) + (k : Int) := by omega
            have d7 : (5 * (i : Int) + (k : Int)).toNat = 5 * i + k := by omega
            have HNZ := Go.Lib.hid (nz_succ hbb)
            by_cases hb7 : b = 0x7e#8
            · have d8 : ((b.toNat : Int) != 126) = false := by rw [hb7]; rfl
              have HE : Hid (Two w2 wr u5 (.slice A12 n12 c12) (noisy (cleaned (items bs ss i)) ++ fr.enc) (noisy (items bs ss i) ++ nz bs i (k + 1)) ∧ wr.ownsRow w2.heap.size 5 1 (.slice A4 L4 c4) L4 (by8 fr.enc) ∧ ∀ g, (Value.slice A4 L4 c4).ownBlock = some g → (Value.slice A12 n12 c12).ownBlock ≠ some g) := Go.Lib.hid (by rw [HNZ.out, if_pos hb7, List.append_nil]; exact HK.out)
              clear hkw hbb hb7 hnl
              go_wp2_with fail
              exact ⟨⟨k + 1, by omega, by go_num, HE⟩, by simp [intOf]; omega⟩
            · have d8 : ((b.toNat : Int) != 126) = true := by
                have : b.toNat ≠ 126 := fun e => hb7 (BitVec.eq_of_toNat_eq (by rw [e]; rfl))
                simp; omega
              obtain ⟨w6, hw6⟩ : ∃ w6, w6 = wr.alloc (.cells #[.int .u8 b.toNat] 5) := ⟨_, rfl⟩
              have hk6 : Keeps [] wr w6 := by rw [hw6]; exact (Keeps.refl _ _).alloc _
              have hz6 : w6.heap[wr.heap.size]? = some (.cells #[.int .u8 b.toNat] 5 (0, 0)) := by rw [hw6]; exact heap_alloc_new _ _
              have hB6 : Byts w6 (some ⟨wr.heap.size, 0, none⟩) [b] := by
                intro j b' hj
                cases j with
                | zero =>
                  obtain rfl : b = b' := by simpa using hj
                  exact ⟨_, rfl, (cell_at hz6 (p := 0) rfl).1⟩
                | succ j => simp at hj
              have hlen : (noisy (items bs ss i) ++ nz bs i k).length + 1 ≤ 10000000 := by
                have h1 := HIL.out.1
                have h2 := nz_len bs i k
                rw [List.length_append]
                omega
              obtain ⟨v7, w7, hr7, hT7, hg7, ho7⟩ := (HK.out.1.new hk6).grow2x (n := 1) (c := 1) hB6 rfl (fun h => by simp at h) hlen
              obtain ⟨hv7, hb7'⟩ := other_grown hg7 ho7 (own_new HK.out.2.1 hk6) HK.out.2.2
              have HR7 : Hid ((Builtin.append_ #[37, 37] 37 #[.slice A12 n12 c12, .slice (some ⟨wr.heap.size, 0, none⟩) 1 1]).run Tryz.prog (wr.alloc (.cells #[.int .u8 b.toNat] 5)) = .ok v7 w7) := Go.Lib.hid (by rw [← hw6]; exact hr7)
              have HE : Hid (Two w2 w7 u5 v7 (noisy (cleaned (items bs ss i)) ++ fr.enc) (noisy (items bs ss i) ++ nz bs i (k + 1)) ∧ w7.ownsRow w2.heap.size 5 1 (.slice A4 L4 c4) L4 (by8 fr.enc) ∧ ∀ g, (Value.slice A4 L4 c4).ownBlock = some g → v7.ownBlock ≠ some g) := Go.Lib.hid (by rw [HNZ.out, if_neg hb7, ← List.append_assoc]; exact ⟨hT7, hv7, hb7'⟩)
              clear hkw hbb hb7 hnl hw6 hk6 hz6 hB6 hlen hr7 hT7 hg7 ho7 hv7 hb7'
              go_wp2_with (at_builtin; refine wpList_append_run (by rfl) (by rfl) HR7.out ?_)
              exact ⟨⟨k + 1, by omega, by go_num, HE⟩, by simp [intOf]; omega⟩
          · have hnz : nz bs i 5 = nz bs i k := by
              by_cases h5 : k = 5
              · rw [h5]
              · exact nz_end hk5 (by omega)
            have hlen : (noisy (items bs ss i) ++ nz bs i k).length + L4 ≤ 10000000 := by
              have h1 := HIL.out.1
              have h2 := nz_len bs i k
              have h3 := HL4.out.1
              have h4 := HL4.out.2
              rw [List.length_append]
              omega
            obtain ⟨v7, w7, hr7, hT7, _, _⟩ := HK.out.1.grow2x (Byts.of_own HK.out.2.1) HL4.out.1 (src_own HK.out.2.1) hlen
            have HR7 := Go.Lib.hid hr7
            have HE : Hid (Two w2 w7 u5 v7 (noisy (cleaned (items bs ss (i + 1)))) (noisy (items bs ss (i + 1)))) := Go.Lib.hid (by
              rw [HI.out, cleaned_append, noisy_append, noisy_append, hnz]
              simpa [noisy, cleaned, List.append_assoc] using hT7)
            have d5 : k < 5 → decide (5 * (i : Int) + (k : Int) < (n : Int)) = false := fun h => decide_eq_false (by omega)
            clear hkw hnz hlen hr7 hT7 hc hnl
            by_cases hk : k < 5
            · have d4 : decide ((k : Int) < 5) = true := decide_eq_true (by omega)
              have d6 := d5 hk
              clear d5
              go_wp2_with (at_builtin; refine wpList_append_run (by rfl) (by rfl) HR7.out ?_)
              exact ⟨⟨i + 1, by omega, by go_num, HE⟩, by simp [intOf]; omega⟩
            · have d4 : decide ((k : Int) < 5) = false := decide_eq_false (by omega)
              clear d5
              go_wp2_with (at_builtin; refine wpList_append_run (by rfl) (by rfl) HR7.out ?_)
              exact ⟨⟨i + 1, by omega, by go_num, HE⟩, by simp [intOf]; omega⟩
    · have d3 : decide ((i : Int) < (m : Int)) = false := decide_eq_false (by omega)
      obtain ⟨it, hit⟩ : ∃ it, it = items bs ss i := ⟨_, rfl⟩
      have hq := items_quiet bs ss i
      have hreq := items_req bs ss i
      have htn := turns_inc (items_inc bs ss i (by omega))
      have hfl : (it.map (·.2)).length ≤ 12 := by rw [hit, List.length_map]; have := items_len bs ss i; omega
      have hil := items_noisy_len bs ss i
      rw [← hit] at HT hq hreq htn hil
      have HQ := Go.Lib.hid hq
      have HRQ := Go.Lib.hid hreq
      have HTN := Go.Lib.hid htn
      have HFL := Go.Lib.hid hfl
      have HIL : Hid ((noisy it).length ≤ 360 ∧ (noisy (cleaned it)).length ≤ 360) := Go.Lib.hid ⟨by omega, by omega⟩
      clear hit hq hreq htn hfl hil
      obtain ⟨A11, e11, rfl⟩ := own_form HT.out.one
      obtain ⟨n11, hn11⟩ : ∃ n11, n11 = (noisy (cleaned it)).length := ⟨_, rfl⟩
      have ho11 := HT.out.one
      rw [← hn11] at ho11 ⊢
      have hwr := HK1.out.trans (HK2.out.trans HT.out.keeps)
      have HHa : Hid (HubIs (fun k => (w0.heap.size ≤ k ∧ k < w1.heap.size) ∨ wr.heap.size ≤ k) ha 0 0 ⟨[], 0⟩ none wr) := Go.Lib.hid ((HHA.out _ (fun k h1 h2 => .inl ⟨h1, h2⟩)).new (HK2.out.trans HT.out.keeps))
      have HHb : Hid (HubIs (fun k => w1.heap.size ≤ k ∧ k < w2.heap.size) hb 0 0 ⟨[], 0⟩ none wr) := Go.Lib.hid ((HHB.out _ (fun k h1 h2 => ⟨h1, h2⟩)).new HT.out.keeps)
      have hsc := scn_noisy (cleaned_quiet HQ.out)
      rw [cleaned_frames] at hsc
      have HSA := Go.Lib.hid (step_ok (m := n11) (d := e11) (F := it.map (·.2)) (data := noisy (cleaned it)) (L := []) (D := A11) HHa.out (fun k hk => .inr hk) (by simpa using hsc) HRQ.out HTN.out (by have := HFL.out; omega) (by have := HFL.out; omega) (by have := HIL.out.2; simp only [List.nil_append]; omega) (Byts.of_own ho11) hn11 (src_own ho11))
      have HKW := Go.Lib.hid (HK0.out.trans hwr)
      have HXR := Go.Lib.hid (hwr.heap HX0.out (by simp))
      clear ho11 hn11 hwr hsc
      go_wp2_with fail
      refine HSA.out.mono ?_
      rintro e w5 ⟨g5, v5, ub5, rfl, hg5, ho5, _, hk5⟩
      obtain ⟨A5, e5, rfl⟩ := own_form ho5
      obtain ⟨n5, hn5⟩ : ∃ n5, n5 = ((ansL (it.map (·.2)) 0).flatMap Frm.enc).length := ⟨_, rfl⟩
      rw [← hn5] at ho5 ⊢
      have HN5 := Go.Lib.hid hn5
      have HO5 := Go.Lib.hid ho5
      have HG5 := Go.Lib.hid hg5
      have HB5 : Hid (HubIs (fun k => w1.heap.size ≤ k ∧ k < w2.heap.size) hb 0 0 ⟨[], 0⟩ none w5) := Go.Lib.hid (HHb.out.apart hk5 (fun k h1 _ h3 => by
        have := HT.out.keeps.size
        rcases h3 with h3 | h3 <;> omega))
      have hz0 := HK0.out.size
      have hz1 := HK1.out.size
      have hz2 := HK2.out.size
      have hzr := HT.out.keeps.size
      have HK5 : Hid (Keeps [] w w5) := Go.Lib.hid (keeps_kx HKW.out hk5 (fun k h => by rcases h with h | h <;> omega))
      have HSZ : Hid (w.heap.size ≤ w0.heap.size ∧ w0.heap.size ≤ w1.heap.size ∧ w1.heap.size ≤ w2.heap.size ∧ w2.heap.size ≤ wr.heap.size ∧ wr.heap.size ≤ w5.heap.size) := Go.Lib.hid ⟨hz0, hz1, hz2, hzr, hk5.size⟩
      have HR12 := Go.Lib.hid (hk5.own5 HT.out.two (by decide))
      obtain ⟨n12, hn12⟩ : ∃ n12, n12 = (noisy it).length := ⟨_, rfl⟩
      rw [← hn12] at HR12
      have HN12 := Go.Lib.hid hn12
      have c2 := (cell_at (hk5.cells HXR.out (by decide)) (p := 2) rfl).1
      have hl12 : n12 ≤ 360 := by have := HIL.out.1; omega
      clear hn5 ho5 hg5 hz0 hz1 hz2 hzr hn12 hk5 HHa HHb HSA HXR HB HN HM
      obtain ⟨A12, e12, rfl⟩ := own_form HR12.out
      go_wp2_with fail
      refine (within_ok (by omega) (by omega) _).mono ?_
      rintro e w5' ⟨k, hk, rfl, rfl⟩
      have hkn : k ≤ n12 := by omega
      have hc12 : n12 ≤ e12 := by
        rcases HR12.out.2 with ⟨e1, e2⟩ | ⟨g, cap, cur, e1, _, _, e4, _⟩
        · simp only [Value.slice.injEq] at e1
          omega
        · simp only [Value.slice.injEq] at e1
          omega
      obtain ⟨F1, L1, F2, hs1, hs2, hF12⟩ := scn_cut HQ.out k
      have HS1 := Go.Lib.hid hs1
      have HS2 := Go.Lib.hid hs2
      have HF12 := Go.Lib.hid hF12
      have HRQ1 : Hid (∀ f ∈ F1, Req f) := Go.Lib.hid (fun f hf => HRQ.out f (by rw [← hF12]; exact List.mem_append_left _ hf))
      have HRQ2 : Hid (∀ f ∈ F2, Req f) := Go.Lib.hid (fun f hf => HRQ.out f (by rw [← hF12]; exact List.mem_append_right _ hf))
      have htn := HTN.out
      rw [← hF12] at htn
      have HT1 := Go.Lib.hid (turns_left htn)
      have HT2 := Go.Lib.hid (turns_right htn)
      have hfl := HFL.out
      rw [← hF12, List.length_append] at hfl
      have HFL2 := Go.Lib.hid hfl
      have hl1 := scn_left hs1
      rw [List.length_take] at hl1
      have HL1 : Hid (L1.length ≤ 360) := Go.Lib.hid (by have := HIL.out.1; omega)
      clear hs1 hs2 hF12 htn hfl hl1 c2 hk
      have hkI : (k : Int) ≤ (e12 : Int) := by omega
      have hkI2 : (k : Int) ≤ (n12 : Int) := by omega
      have hk0 : (0 : Int) ≤ (k : Int) := by omega
      have hncI : (n12 : Int) ≤ (e12 : Int) := by omega
      cases A12 with
      | none =>
        have hz : n12 = 0 ∧ e12 = 0 := src_own HR12.out rfl
        obtain ⟨rfl, rfl⟩ := hz
        obtain rfl : k = 0 := by omega
        have HD : ∀ W : World, W.ownsRow w2.heap.size 5 1 (.slice none 0 0) 0 (by8 (noisy it)) → Byts W none ((noisy it).take 0) ∧ Byts W none ((noisy it).drop 0) := fun W _ => by
          have : noisy it = [] := List.eq_nil_of_length_eq_zero HN12.out.symm
          rw [this]
          exact ⟨Byts.nil _ _, Byts.nil _ _⟩
        have HDD := Go.Lib.hid HD
        clear HD
        have HSB := Go.Lib.hid (step_ok (own := fun k => (w1.heap.size ≤ k ∧ k < w2.heap.size) ∨ w5.heap.size ≤ k) (m := 0) (d := 0) (F := F1) (data := (noisy it).take 0) (L := L1) (D := none) (HB5.out.wide (fun k h => .inl h)) (fun k hk => .inr hk) (by simpa using HS1.out) HRQ1.out HT1.out (by have := HFL2.out; omega) (by have := HFL2.out; omega) (by have := HIL.out.1; simp only [List.nil_append, List.length_take]; omega) (HDD.out w5 HR12.out).1 (by have := HN12.out; rw [List.length_take]; omega) (fun _ => ⟨rfl, rfl⟩))
        go_wp2_with fail
        refine HSB.out.mono ?_
        rintro e w6 ⟨g6, v6, ub6, rfl, hg6, ho6, hH6, hkx6⟩
        obtain ⟨A6, e6, rfl⟩ := own_form ho6
        obtain ⟨n6, hn6⟩ : ∃ n6, n6 = ((ansL F1 0).flatMap Frm.enc).length := ⟨_, rfl⟩
        rw [← hn6] at ho6 ⊢
        rw [Nat.zero_add] at hH6
        have HN6 := Go.Lib.hid hn6
        have HO6 := Go.Lib.hid ho6
        have HR6 := Go.Lib.hid (hkx6.own5 HR12.out (by decide))
        have HX6 := Go.Lib.hid (hkx6.own5 HO5.out (by decide))
        have HK6 : Hid (Keeps [] w w6) := Go.Lib.hid (keeps_kx HK5.out hkx6 (fun k h => by have := HSZ.out; rcases h with h | h <;> omega))
        have HSC := Go.Lib.hid (step_ok (own := fun k => (w1.heap.size ≤ k ∧ k < w2.heap.size) ∨ w5.heap.size ≤ k) (m := 0) (d := 0) (F := F2) (data := (noisy it).drop 0) (L := []) (D := none) hH6 (fun k hk => .inr (Nat.le_trans hkx6.size hk)) HS2.out HRQ2.out HT2.out (by have := HFL2.out; omega) (by have := HFL2.out; omega) (by have h1 := HIL.out.1; have h2 := HL1.out; simp only [List.length_append, List.length_drop]; omega) (HDD.out w6 HR6.out).2 (by have := HN12.out; rw [List.length_drop]; omega) (fun _ => ⟨rfl, rfl⟩))
        clear hn6 ho6 hg6 hH6 hkx6 HSB
        go_wp2_with fail
        refine HSC.out.mono ?_
        rintro e w7 ⟨g7, v7, ub7, rfl, hg7, ho7, _, hkx7⟩
        obtain ⟨A7, e7, rfl⟩ := own_form ho7
        obtain ⟨n7, hn7⟩ : ∃ n7, n7 = ((ansL F2 F1.length).flatMap Frm.enc).length := ⟨_, rfl⟩
        rw [← hn7] at ho7 ⊢
        have HN7 := Go.Lib.hid hn7
        have HO7 := Go.Lib.hid ho7
        have HX7 := Go.Lib.hid (hkx7.own5 HX6.out (by decide))
        have HY7 := Go.Lib.hid (hkx7.own5 HO6.out (by decide))
        have HK7 : Hid (Keeps [] w w7) := Go.Lib.hid (keeps_kx HK6.out hkx7 (fun k h => by have := HSZ.out; rcases h with h | h <;> omega))
        have hn56 : n5 = n6 + n7 := by
          rw [HN5.out, HN6.out, HN7.out, ← HF12.out, ansL_append, List.flatMap_append, List.length_append, Nat.zero_add]
        have hbn : n6 + n7 ≤ 1000 := by
          have h1 := ansL_len F1 0
          have h2 := ansL_len F2 F1.length
          have h3 := HFL2.out
          have h4 := HN6.out
          have h5 := HN7.out
          omega
        have HBN := Go.Lib.hid (And.intro hn56 hbn)
        clear hn7 ho7 hg7 hkx7 HSC hn56 hbn
        go_wp2_with fail
        refine (num_ok _ _).mono ?_
        rintro e w7' ⟨rfl, rfl⟩
        go_wp2_with fail
        refine (num_ok _ _).mono ?_
        rintro e w7' ⟨rfl, rfl⟩
        go_wp2_with fail
        refine (num_ok _ _).mono ?_
        rintro e w7' ⟨rfl, rfl⟩
        go_wp2_with fail
        refine (copy_ok (Byts.of_own HY7.out) HN6.out (by have := HBN.out; omega)).mono ?_
        rintro e w8 ⟨v8, rfl, ho8, hk8⟩
        rw [← HN6.out] at ho8
        obtain ⟨A8, e8, rfl⟩ := own_form ho8
        obtain ⟨v9, w9, hr9, ho9, hg9⟩ := app8 ho8 (Byts.of_own (own_new HO7.out hk8)) HN7.out (src_own (own_new HO7.out hk8)) (by have := HBN.out; omega) hk8.size
        have hk9 := keeps_grow hk8 ho8 hg9
        obtain ⟨A9, e9, rfl⟩ := own_form ho9
        have HR9 := Go.Lib.hid hr9
        have HX9 := Go.Lib.hid (own_new HX7.out hk9)
        have HO9 := Go.Lib.hid ho9
        have HK9 := Go.Lib.hid (HK7.out.trans hk9)
        have HEQ : Hid ((ansL (it.map (·.2)) 0).flatMap Frm.enc = (ansL F1 0).flatMap Frm.enc ++ (ansL F2 F1.length).flatMap Frm.enc) := Go.Lib.hid (by rw [← HF12.out, ansL_append, List.flatMap_append, Nat.zero_add])
        clear ho8 hr9 ho9 hg9 hk9 hk8
        obtain ⟨n9, hn9⟩ : ∃ n9, n9 = n6 + n7 := ⟨_, rfl⟩
        rw [← hn9] at HR9 HO9
        have HN9 := Go.Lib.hid hn9
        clear hn9
        go_wp2_with (at_builtin; refine wpList_append_guard (by rfl) (by rfl) (by rfl) HR9.out ?_)
        obtain rfl : n5 = n9 := by rw [HN9.out]; exact HBN.out.1
        refine (eqb_ok (Byts.of_own HX9.out) (by rw [HEQ.out]; exact Byts.of_own HO9.out) HN5.out (by have := HBN.out; omega)).mono ?_
        rintro e w10 ⟨rfl, hk10⟩
        have HK10 := Go.Lib.hid (HK9.out.trans hk10)
        clear hk10
        go_wp2_with fail
        refine (wakes_ok _).mono ?_
        rintro e w11 ⟨rfl, hk11⟩
        have HK11 := Go.Lib.hid (HK10.out.trans hk11)
        clear hk11
        go_wp2_with fail
        go_ret
        exact ⟨rfl, HK11.out⟩
      | some aN =>
        obtain ⟨gN, hgN⟩ : ∃ gN, aN = ⟨gN, 0, none⟩ := by
          rcases HR12.out.2 with ⟨e1, e2⟩ | ⟨g, cap, cur, e1, _⟩
          · simp at e1
          · simp only [Value.slice.injEq, Option.some.injEq] at e1
            exact ⟨g, e1.1⟩
        subst hgN
        have HDD : Hid (∀ W : World, W.ownsRow w2.heap.size 5 1 (.slice (some ⟨gN, 0, none⟩) n12 e12) n12 (by8 (noisy it)) → Byts W (some ⟨gN, 0, none⟩) ((noisy it).take k) ∧ Byts W (some ⟨gN, 0 + k, none⟩) ((noisy it).drop k)) := Go.Lib.hid (fun W h => ⟨(Byts.of_own h).take k, (Byts.of_own h).cut k⟩)
        by_cases hck : e12 = k
        · have hnk : n12 = k := by omega
          have HDZ : Hid (∀ W : World, W.ownsRow w2.heap.size 5 1 (.slice (some ⟨gN, 0, none⟩) n12 e12) n12 (by8 (noisy it)) → Byts W (some ⟨gN, 0, none⟩) ((noisy it).take k) ∧ Byts W (some ⟨gN, 0, none⟩) ((noisy it).drop k)) := Go.Lib.hid (fun W h => ⟨(HDD.out W h).1, by
            have : (noisy it).drop k = [] := List.drop_of_length_le (by have := HN12.out; omega)
            rw [this]
            exact Byts.nil _ _⟩)
          clear HDD
          subst hck
          subst hnk
          have HSB := Go.Lib.hid (step_ok (own := fun k => (w1.heap.size ≤ k ∧ k < w2.heap.size) ∨ w5.heap.size ≤ k) (m := n12) (d := n12) (F := F1) (data := (noisy it).take n12) (L := L1) (D := some ⟨gN, 0, none⟩) (HB5.out.wide (fun k h => .inl h)) (fun k hk => .inr hk) (by simpa using HS1.out) HRQ1.out HT1.out (by have := HFL2.out; omega) (by have := HFL2.out; omega) (by have := HIL.out.1; simp only [List.nil_append, List.length_take]; omega) (HDZ.out w5 HR12.out).1 (by have := HN12.out; rw [List.length_take]; omega) (fun e => by simp at e))
          go_wp2_with fail
          refine HSB.out.mono ?_
          rintro e w6 ⟨g6, v6, ub6, rfl, hg6, ho6, hH6, hkx6⟩
          obtain ⟨A6, e6, rfl⟩ := own_form ho6
          obtain ⟨n6, hn6⟩ : ∃ n6, n6 = ((ansL F1 0).flatMap Frm.enc).length := ⟨_, rfl⟩
          rw [← hn6] at ho6 ⊢
          rw [Nat.zero_add] at hH6
          have HN6 := Go.Lib.hid hn6
          have HO6 := Go.Lib.hid ho6
          have HR6 := Go.Lib.hid (hkx6.own5 HR12.out (by decide))
          have HX6 := Go.Lib.hid (hkx6.own5 HO5.out (by decide))
          have HK6 : Hid (Keeps [] w w6) := Go.Lib.hid (keeps_kx HK5.out hkx6 (fun k h => by have := HSZ.out; rcases h with h | h <;> omega))
          have HSC := Go.Lib.hid (step_ok (own := fun k => (w1.heap.size ≤ k ∧ k < w2.heap.size) ∨ w5.heap.size ≤ k) (m := 0) (d := 0) (F := F2) (data := (noisy it).drop n12) (L := []) (D := some ⟨gN, 0, none⟩) hH6 (fun k hk => .inr (Nat.le_trans hkx6.size hk)) HS2.out HRQ2.out HT2.out (by have := HFL2.out; omega) (by have := HFL2.out; omega) (by have h1 := HIL.out.1; have h2 := HL1.out; simp only [List.length_append, List.length_drop]; omega) (HDZ.out w6 HR6.out).2 (by have := HN12.out; rw [List.length_drop]; omega) (fun e => by simp at e))
          clear hn6 ho6 hg6 hH6 hkx6 HSB
          go_wp2_with fail
          refine HSC.out.mono ?_
          rintro e w7 ⟨g7, v7, ub7, rfl, hg7, ho7, _, hkx7⟩
          obtain ⟨A7, e7, rfl⟩ := own_form ho7
          obtain ⟨n7, hn7⟩ : ∃ n7, n7 = ((ansL F2 F1.length).flatMap Frm.enc).length := ⟨_, rfl⟩
          rw [← hn7] at ho7 ⊢
          have HN7 := Go.Lib.hid hn7
          have HO7 := Go.Lib.hid ho7
          have HX7 := Go.Lib.hid (hkx7.own5 HX6.out (by decide))
          have HY7 := Go.Lib.hid (hkx7.own5 HO6.out (by decide))
          have HK7 : Hid (Keeps [] w w7) := Go.Lib.hid (keeps_kx HK6.out hkx7 (fun k h => by have := HSZ.out; rcases h with h | h <;> omega))
          have hn56 : n5 = n6 + n7 := by
            rw [HN5.out, HN6.out, HN7.out, ← HF12.out, ansL_append, List.flatMap_append, List.length_append, Nat.zero_add]
          have hbn : n6 + n7 ≤ 1000 := by
            have h1 := ansL_len F1 0
            have h2 := ansL_len F2 F1.length
            have h3 := HFL2.out
            have h4 := HN6.out
            have h5 := HN7.out
            omega
          have HBN := Go.Lib.hid (And.intro hn56 hbn)
          clear hn7 ho7 hg7 hkx7 HSC hn56 hbn
          go_wp2_with fail
          refine (num_ok _ _).mono ?_
          rintro e w7' ⟨rfl, rfl⟩
          go_wp2_with fail
          refine (num_ok _ _).mono ?_
          rintro e w7' ⟨rfl, rfl⟩
          go_wp2_with fail
          refine (num_ok _ _).mono ?_
          rintro e w7' ⟨rfl, rfl⟩
          go_wp2_with fail
          refine (copy_ok (Byts.of_own HY7.out) HN6.out (by have := HBN.out; omega)).mono ?_
          rintro e w8 ⟨v8, rfl, ho8, hk8⟩
          rw [← HN6.out] at ho8
          obtain ⟨A8, e8, rfl⟩ := own_form ho8
          obtain ⟨v9, w9, hr9, ho9, hg9⟩ := app8 ho8 (Byts.of_own (own_new HO7.out hk8)) HN7.out (src_own (own_new HO7.out hk8)) (by have := HBN.out; omega) hk8.size
          have hk9 := keeps_grow hk8 ho8 hg9
          obtain ⟨A9, e9, rfl⟩ := own_form ho9
          have HR9 := Go.Lib.hid hr9
          have HX9 := Go.Lib.hid (own_new HX7.out hk9)
          have HO9 := Go.Lib.hid ho9
          have HK9 := Go.Lib.hid (HK7.out.trans hk9)
          have HEQ : Hid ((ansL (it.map (·.2)) 0).flatMap Frm.enc = (ansL F1 0).flatMap Frm.enc ++ (ansL F2 F1.length).flatMap Frm.enc) := Go.Lib.hid (by rw [← HF12.out, ansL_append, List.flatMap_append, Nat.zero_add])
          clear ho8 hr9 ho9 hg9 hk9 hk8
          obtain ⟨n9, hn9⟩ : ∃ n9, n9 = n6 + n7 := ⟨_, rfl⟩
          rw [← hn9] at HR9 HO9
          have HN9 := Go.Lib.hid hn9
          clear hn9
          go_wp2_with (at_builtin; refine wpList_append_guard (by rfl) (by rfl) (by rfl) HR9.out ?_)
          obtain rfl : n5 = n9 := by rw [HN9.out]; exact HBN.out.1
          refine (eqb_ok (Byts.of_own HX9.out) (by rw [HEQ.out]; exact Byts.of_own HO9.out) HN5.out (by have := HBN.out; omega)).mono ?_
          rintro e w10 ⟨rfl, hk10⟩
          have HK10 := Go.Lib.hid (HK9.out.trans hk10)
          clear hk10
          go_wp2_with fail
          refine (wakes_ok _).mono ?_
          rintro e w11 ⟨rfl, hk11⟩
          have HK11 := Go.Lib.hid (HK10.out.trans hk11)
          clear hk11
          go_wp2_with fail
          go_ret
          exact ⟨rfl, HK11.out⟩
        · have hck2 : ¬ (e12 : Int) = (k : Int) := by omega
          rw [Nat.zero_add] at HDD
          have HSB := Go.Lib.hid (step_ok (own := fun k => (w1.heap.size ≤ k ∧ k < w2.heap.size) ∨ w5.heap.size ≤ k) (m := k) (d := e12) (F := F1) (data := (noisy it).take k) (L := L1) (D := some ⟨gN, 0, none⟩) (HB5.out.wide (fun k h => .inl h)) (fun k hk => .inr hk) (by simpa using HS1.out) HRQ1.out HT1.out (by have := HFL2.out; omega) (by have := HFL2.out; omega) (by have := HIL.out.1; simp only [List.nil_append, List.length_take]; omega) (HDD.out w5 HR12.out).1 (by have := HN12.out; rw [List.length_take]; omega) (fun e => by simp at e))
          go_wp2_with fail
          refine HSB.out.mono ?_
          rintro e w6 ⟨g6, v6, ub6, rfl, hg6, ho6, hH6, hkx6⟩
          obtain ⟨A6, e6, rfl⟩ := own_form ho6
          obtain ⟨n6, hn6⟩ : ∃ n6, n6 = ((ansL F1 0).flatMap Frm.enc).length := ⟨_, rfl⟩
          rw [← hn6] at ho6 ⊢
          rw [Nat.zero_add] at hH6
          have HN6 := Go.Lib.hid hn6
          have HO6 := Go.Lib.hid ho6
          have HR6 := Go.Lib.hid (hkx6.own5 HR12.out (by decide))
          have HX6 := Go.Lib.hid (hkx6.own5 HO5.out (by decide))
          have HK6 : Hid (Keeps [] w w6) := Go.Lib.hid (keeps_kx HK5.out hkx6 (fun k h => by have := HSZ.out; rcases h with h | h <;> omega))
          have HSC := Go.Lib.hid (step_ok (own := fun k => (w1.heap.size ≤ k ∧ k < w2.heap.size) ∨ w5.heap.size ≤ k) (m := (n12 - k)) (d := (e12 - k)) (F := F2) (data := (noisy it).drop k) (L := []) (D := some ⟨gN, k, none⟩) hH6 (fun k hk => .inr (Nat.le_trans hkx6.size hk)) HS2.out HRQ2.out HT2.out (by have := HFL2.out; omega) (by have := HFL2.out; omega) (by have h1 := HIL.out.1; have h2 := HL1.out; simp only [List.length_append, List.length_drop]; omega) (HDD.out w6 HR6.out).2 (by have := HN12.out; rw [List.length_drop]; omega) (fun e => by simp at e))
          clear hn6 ho6 hg6 hH6 hkx6 HSB
          go_wp2_with fail
          refine HSC.out.mono ?_
          rintro e w7 ⟨g7, v7, ub7, rfl, hg7, ho7, _, hkx7⟩
          obtain ⟨A7, e7, rfl⟩ := own_form ho7
          obtain ⟨n7, hn7⟩ : ∃ n7, n7 = ((ansL F2 F1.length).flatMap Frm.enc).length := ⟨_, rfl⟩
          rw [← hn7] at ho7 ⊢
          have HN7 := Go.Lib.hid hn7
          have HO7 := Go.Lib.hid ho7
          have HX7 := Go.Lib.hid (hkx7.own5 HX6.out (by decide))
          have HY7 := Go.Lib.hid (hkx7.own5 HO6.out (by decide))
          have HK7 : Hid (Keeps [] w w7) := Go.Lib.hid (keeps_kx HK6.out hkx7 (fun k h => by have := HSZ.out; rcases h with h | h <;> omega))
          have hn56 : n5 = n6 + n7 := by
            rw [HN5.out, HN6.out, HN7.out, ← HF12.out, ansL_append, List.flatMap_append, List.length_append, Nat.zero_add]
          have hbn : n6 + n7 ≤ 1000 := by
            have h1 := ansL_len F1 0
            have h2 := ansL_len F2 F1.length
            have h3 := HFL2.out
            have h4 := HN6.out
            have h5 := HN7.out
            omega
          have HBN := Go.Lib.hid (And.intro hn56 hbn)
          clear hn7 ho7 hg7 hkx7 HSC hn56 hbn
          go_wp2_with fail
          refine (num_ok _ _).mono ?_
          rintro e w7' ⟨rfl, rfl⟩
          go_wp2_with fail
          refine (num_ok _ _).mono ?_
          rintro e w7' ⟨rfl, rfl⟩
          go_wp2_with fail
          refine (num_ok _ _).mono ?_
          rintro e w7' ⟨rfl, rfl⟩
          go_wp2_with fail
          refine (copy_ok (Byts.of_own HY7.out) HN6.out (by have := HBN.out; omega)).mono ?_
          rintro e w8 ⟨v8, rfl, ho8, hk8⟩
          rw [← HN6.out] at ho8
          obtain ⟨A8, e8, rfl⟩ := own_form ho8
          obtain ⟨v9, w9, hr9, ho9, hg9⟩ := app8 ho8 (Byts.of_own (own_new HO7.out hk8)) HN7.out (src_own (own_new HO7.out hk8)) (by have := HBN.out; omega) hk8.size
          have hk9 := keeps_grow hk8 ho8 hg9
          obtain ⟨A9, e9, rfl⟩ := own_form ho9
          have HR9 := Go.Lib.hid hr9
          have HX9 := Go.Lib.hid (own_new HX7.out hk9)
          have HO9 := Go.Lib.hid ho9
          have HK9 := Go.Lib.hid (HK7.out.trans hk9)
          have HEQ : Hid ((ansL (it.map (·.2)) 0).flatMap Frm.enc = (ansL F1 0).flatMap Frm.enc ++ (ansL F2 F1.length).flatMap Frm.enc) := Go.Lib.hid (by rw [← HF12.out, ansL_append, List.flatMap_append, Nat.zero_add])
          clear ho8 hr9 ho9 hg9 hk9 hk8
          obtain ⟨n9, hn9⟩ : ∃ n9, n9 = n6 + n7 := ⟨_, rfl⟩
          rw [← hn9] at HR9 HO9
          have HN9 := Go.Lib.hid hn9
          clear hn9
          go_wp2_with (at_builtin; refine wpList_append_guard (by rfl) (by rfl) (by rfl) HR9.out ?_)
          obtain rfl : n5 = n9 := by rw [HN9.out]; exact HBN.out.1
          refine (eqb_ok (Byts.of_own HX9.out) (by rw [HEQ.out]; exact Byts.of_own HO9.out) HN5.out (by have := HBN.out; omega)).mono ?_
          rintro e w10 ⟨rfl, hk10⟩
          have HK10 := Go.Lib.hid (HK9.out.trans hk10)
          clear hk10
          go_wp2_with fail
          refine (wakes_ok _).mono ?_
          rintro e w11 ⟨rfl, hk11⟩
          have HK11 := Go.Lib.hid (HK10.out.trans hk11)
          clear hk11
          go_wp2_with fail
          go_ret
          exact ⟨rfl, HK11.out⟩
end Go.Proofs.YtkhalpnonijogaaGreat
