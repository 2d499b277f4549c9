/- The walk of BatchExact: over every script that lies in memory it returns true. No condition. -/
import Derived.Test.YtldnnkceeeinlaaBRefY
import Derived.Test.YtldnnkceeeinlaaBBad
import Derived.Test.YtldnnkceeeinlaaBReady
import Derived.Deep.RegionHeld3
namespace Go.Proofs.Ytldnnkceeeinlaa
open Go.RowKit

/-- The copy of an act. -/
def actX (x : Act) (C D : Option Addr) (c d : Nat) : Array Value := #[.int .i64 x.d, .int .i64 x.e.s, .int .i64 x.e.t, .int .i64 x.e.v0, .int .i64 x.e.v1, .int .i64 x.e.v2, .int .i64 x.e.v3, .slice C x.cl.length c, .slice D x.ws.length d, .int .i64 x.n]
/-- Queue and reference hold the same. -/
structure Ex (w0 : World) (q r : Nat) (m : List It) (L : List Int) (i : Nat) (W : World) : Prop where
  ql : QL w0.heap.size W q m L
  rl : RL w0.heap.size W r m L
  keeps : Keeps [] w0 W
  lo : ∀ x ∈ L, 0 ≤ x ∧ x ≤ i
theorem Ex.new {w0 : World} {q r : Nat} {m : List It} {L : List Int} {i : Nat} {W W' : World} (h : Ex w0 q r m L i W) (hk : Keeps [] W W') : Ex w0 q r m L i W' := ⟨h.ql.new hk, h.rl.new hk, h.keeps.trans hk, h.lo⟩
theorem Ex.up {w0 : World} {q r : Nat} {m : List It} {L : List Int} {i : Nat} {W : World} (h : Ex w0 q r m L i W) : Ex w0 q r m L (i + 1) W := ⟨h.ql, h.rl, h.keeps, fun x hx => by have := h.lo x hx; omega⟩

theorem Ex.sp {w0 : World} {q r : Nat} {m : List It} {L : List Int} {i : Nat} {W W' : World} {M : Nat} (h : Ex w0 q r m L i W) (hs : Sp M W W') (hM : w0.heap.size ≤ M) : Ex w0 q r m L i W' :=
  ⟨QL.tame h.ql (fun j o ho hf => hs.keep j o ho (.inr (fun cs fr e => by subst e; simp [alien] at hf))), h.rl.keep (fun j o ho hf => hs.keep j o ho (.inr (fun cs fr e => by subst e; simp [far] at hf))), hs.keeps h.keeps hM, h.lo⟩
theorem sa_of {w : World} {ba : Nat} {x : Act} {C D : Option Addr} {c7 c8 : Nat} (h : w.heap[ba]? = some (.cells (actX x C D c7 c8) 37 (0, 0))) : w.cell? ⟨ba, 1, none⟩ = some (.int .i64 x.e.s) ∧ w.cell? ⟨ba, 2, none⟩ = some (.int .i64 x.e.t) ∧ w.cell? ⟨ba, 3, none⟩ = some (.int .i64 x.e.v0) ∧ w.cell? ⟨ba, 4, none⟩ = some (.int .i64 x.e.v1) ∧ w.cell? ⟨ba, 5, none⟩ = some (.int .i64 x.e.v2) ∧ w.cell? ⟨ba, 6, none⟩ = some (.int .i64 x.e.v3) ∧ w.cell? ⟨ba, 7, none⟩ = some (.slice C x.cl.length c7) ∧ w.cell? ⟨ba, 8, none⟩ = some (.slice D x.ws.length c8) :=
  ⟨(cell_at h (p := 1) rfl).1, (cell_at h (p := 2) rfl).1, (cell_at h (p := 3) rfl).1, (cell_at h (p := 4) rfl).1, (cell_at h (p := 5) rfl).1, (cell_at h (p := 6) rfl).1, (cell_at h (p := 7) rfl).1, (cell_at h (p := 8) rfl).1⟩
theorem lo_big {L : List Int} {i : Nat} (h : ∀ x ∈ L, 0 ≤ x ∧ x ≤ i) (hi : i ≤ 1000) : ∀ x ∈ L, 0 ≤ x ∧ x < 1152921504606846976 := fun x hx => by have := h x hx; omega
theorem lo_lost (m : List It) {L : List Int} {i : Nat} (h : ∀ x ∈ L, 0 ≤ x ∧ x ≤ i) : ∀ x ∈ lostM m L, 0 ≤ x ∧ x ≤ ((i + 1 : Nat) : Int) := by
  intro x hx
  unfold lostM at hx
  split at hx
  · have := h x hx; omega
  · obtain ⟨j, hj⟩ := List.mem_iff_getElem?.1 hx
    rw [bump, bumpTo_get] at hj
    split at hj
    · obtain ⟨y, hy, rfl⟩ := Option.map_eq_some_iff.1 hj
      have := h y (List.mem_of_getElem? hy)
      omega
    · have := h x (List.mem_of_getElem? hj)
      omega
theorem r_put_none {e : Ev} {A D : Option Addr} {n k c0 c1 : Nat} {w : World} (r : Nat) (hn : n = 0) (hk : k = 0) :
    Calls Try.prog 28 #[.pointer (some ⟨r, 0, none⟩), evA e, .slice A n c0, .slice D k c1] w fun e' w' => (∃ v, e' = .returned v) ∧ Keeps [] w w' := by
  subst hn hk
  unfold evA
  have f0 : (((0 : Nat) : Int) == 0) = true := rfl
  go_enter Try.func28, Try.ntmps28
  go_wp2_with fail
  refine bodyPost_ret (results_none rfl _ _ _) rfl ?_
  exact ⟨⟨_, rfl⟩, (Keeps.refl _ _).alloc _⟩
theorem put_zero {w : World} {e : Ev} {A D : Option Addr} {n m c0 c1 : Nat} (q : Nat) (hn : n = 0) (hm : m = 0) (ht0 : 0 ≤ e.t) (ht1 : e.t ≤ 1099511627776) :
    Calls Try.prog 9 #[.pointer (some ⟨q, 0, none⟩), evA e, .slice A n c0, .slice D m c1] w fun e' w' => e' = .returned (.int .i64 0) ∧ Keeps [] w w' := by
  subst hn hm
  exact put_none q ht0 ht1
theorem lo_set {L : List Int} {b : Int} (h : ∀ x ∈ L, 0 ≤ x ∧ x ≤ b) (c : Nat) : ∀ x ∈ L.set c 0, 0 ≤ x ∧ x ≤ b := by
  intro x hx
  rcases List.mem_or_eq_of_mem_set hx with h1 | rfl
  · exact h x h1
  · cases L with
    | nil => simp at hx
    | cons y t => have := h y (by simp); omega

set_option maxHeartbeats 8000000 in
set_option maxRecDepth 100000 in
theorem exact {A : Option Addr} {len0 cap0 : Nat} {l : List Act} (hlen : len0 = l.length) (w : World) (hl : Acts w A l) :
    Calls Try.prog 6 #[.slice A len0 cap0] w fun e w' => e = .returned (.bool true) ∧ Keeps [] w w' := by
  have HL := Go.Lib.hid hlen
  have HA := Go.Lib.hid hl
  clear hlen hl
  go_enter Try.func6, Try.ntmps6
  go_wp2_with fail
  refine (q_new _).mono ?_
  rintro e w1 ⟨q, rfl, hq, hk⟩
  have HQ := Go.Lib.hid hq
  have HK := Go.Lib.hid hk
  clear hq hk
  go_upto_region 6 with fail
  obtain ⟨r, hb⟩ : ∃ r, r = w1.heap.size := ⟨_, rfl⟩
  obtain ⟨w2, hw2⟩ : ∃ w2, w2 = w1.alloc (.cells (rA (.slice none 0 0) zeros) 55) := ⟨_, rfl⟩
  rw [show (w1.alloc (.cells #[.slice none 0 0, .int .i64 0, .int .i64 0, .int .i64 0, .int .i64 0, .int .i64 0, .int .i64 0, .int .i64 0, .int .i64 0] 55)) = w2 from hw2.symm, ← hb]
  have hk2 : Keeps [] w1 w2 := by rw [hw2]; exact (Keeps.refl _ _).alloc _
  have HE0 : Hid (Ex w q r [] zeros 0 w2) := by
    refine ⟨HQ.out.new hk2, ⟨.slice none 0 0, ?_, .inl ⟨rfl, rfl⟩, by simp, rfl, by simp, by have := HK.out.size; omega⟩, HK.out.trans hk2, by simp [zeros]⟩
    rw [hw2, hb]; exact heap_alloc_new _ _
  clear hw2 hb hk2 HQ HK
  go_loopw [5] (fun si wr => ∃ (i : Nat) (m : List It) (L : List Int), si = .int .i64 i ∧ i ≤ 160 ∧ Hid (Ex w q r m L i wr)) (fun si _ => 160 - (intOf si).toNat)
  case atStart => exact ⟨0, [], zeros, rfl, by omega, HE0⟩
  case round =>
    clear HE0
    obtain ⟨i, m, L, rfl, hi160, HE⟩ := hrel
    obtain ⟨w3, hw3⟩ : ∃ w3, w3 = wr := ⟨_, rfl⟩
    subst hw3
    have HW := Go.Lib.hid (wakes w3)
    by_cases hlt : i < len0 ∧ i < 160
    · obtain ⟨h1, h2⟩ := hlt
      have d1 : decide (i < len0) = true := decide_eq_true h1
      have d2 : decide (i < 160) = true := decide_eq_true h2
      have d3 : decide ((i : Int) < 160) = true := decide_eq_true (by omega)
      obtain ⟨x, hx⟩ : ∃ x, l[i]? = some x := ⟨_, List.getElem?_eq_getElem (by have := HL.out; omega)⟩
      obtain ⟨a, rfl, hay⟩ := HA.out i x hx
      have hax := hay.keeps HE.out.keeps
      obtain ⟨C, c7, z7, _, n7⟩ := hay.cl
      obtain ⟨D, c8, z8, _, n8⟩ := hay.ws
      have y7 := HE.out.keeps.cell z7 (by simp)
      have y8 := HE.out.keeps.cell z8 (by simp)
      have N7 := Go.Lib.hid n7
      have N8 := Go.Lib.hid n8
      have y0 := hax.d
      have y1 := hax.s
      have y2 := hax.t
      have y3 := hax.v0
      have y4 := hax.v1
      have y5 := hax.v2
      have y6 := hax.v3
      have y9 := hax.n
      simp only [fld] at y1 y2 y3 y4 y5 y6 y7 y8 y9
      clear hax hay hx z7 z8 n7 n8
      go_upto_region 9 with fail
      obtain ⟨ba, hba⟩ : ∃ ba, ba = w3.heap.size := ⟨_, rfl⟩
      obtain ⟨w4, hw4⟩ : ∃ w4, w4 = w3.alloc (.cells (actX x C D c7 c8) 37) := ⟨_, rfl⟩
      rw [show w3.alloc (.cells #[.int .i64 x.d, .int .i64 x.e.s, .int .i64 x.e.t, .int .i64 x.e.v0, .int .i64 x.e.v1, .int .i64 x.e.v2, .int .i64 x.e.v3, .slice C x.cl.length c7, .slice D x.ws.length c8, .int .i64 x.n] 37) = w4 from hw4.symm, ← hba]
      have hk4 : Keeps [] w3 w4 := by rw [hw4]; exact (Keeps.refl _ _).alloc _
      have hbx : w4.heap[ba]? = some (.cells (actX x C D c7 c8) 37 (0, 0)) := by rw [hw4, hba]; exact heap_alloc_new _ _
      have HE4 := Go.Lib.hid (HE.out.new hk4)
      have HBX := Go.Lib.hid hbx
      have HBA : Hid (w.heap.size ≤ ba) := by have := HE.out.keeps.size; show w.heap.size ≤ ba; omega
      have z0 : w4.cell? ⟨ba, 0, none⟩ = some (.int .i64 x.d) := (cell_at hbx (p := 0) rfl).1
      have z1 : w4.cell? ⟨ba, 1, none⟩ = some (.int .i64 x.e.s) := (cell_at hbx (p := 1) rfl).1
      have z2 : w4.cell? ⟨ba, 2, none⟩ = some (.int .i64 x.e.t) := (cell_at hbx (p := 2) rfl).1
      have z3 : w4.cell? ⟨ba, 3, none⟩ = some (.int .i64 x.e.v0) := (cell_at hbx (p := 3) rfl).1
      have z4 : w4.cell? ⟨ba, 4, none⟩ = some (.int .i64 x.e.v1) := (cell_at hbx (p := 4) rfl).1
      have z5 : w4.cell? ⟨ba, 5, none⟩ = some (.int .i64 x.e.v2) := (cell_at hbx (p := 5) rfl).1
      have z6 : w4.cell? ⟨ba, 6, none⟩ = some (.int .i64 x.e.v3) := (cell_at hbx (p := 6) rfl).1
      have z7 : w4.cell? ⟨ba, 7, none⟩ = some (.slice C x.cl.length c7) := (cell_at hbx (p := 7) rfl).1
      have z8 : w4.cell? ⟨ba, 8, none⟩ = some (.slice D x.ws.length c8) := (cell_at hbx (p := 8) rfl).1
      have z9 : w4.cell? ⟨ba, 9, none⟩ = some (.int .i64 x.n) := (cell_at hbx (p := 9) rfl).1
      clear hw4 hba hk4 hbx HE y0 y1 y2 y3 y4 y5 y6 y7 y8 y9 HW
      by_cases hl7 : x.cl.length ≤ 100
      · have f7 : decide (100 < x.cl.length) = false := decide_eq_false (by omega)
        have f7' : decide ((100 : Int) < x.cl.length) = false := decide_eq_false (by omega)
        by_cases hl8 : x.ws.length ≤ 100
        · have f8 : decide (100 < x.ws.length) = false := decide_eq_false (by omega)
          have f8' : decide ((100 : Int) < x.ws.length) = false := decide_eq_false (by omega)
          go_upto_region 12 with fail
          go_cut [8] from 57 to 62 (fun s8 wx => ((s8 = .bool true ∧ 0 ≤ x.n ∧ x.n < 8) ∨ (s8 = .bool false ∧ ¬ (0 ≤ x.n ∧ x.n < 8))) ∧ wx = w4)
          case first =>
            by_cases c0 : 0 ≤ x.n
            · have g0 : decide (0 ≤ x.n) = true := decide_eq_true c0
              by_cases c1 : x.n < 8
              · have g1 : decide (x.n < 8) = true := decide_eq_true c1
                go_wp2
                go_meet
                case rel => exact ⟨.inl ⟨rfl, c0, c1⟩, rfl⟩
              · have g1 : decide (x.n < 8) = false := decide_eq_false c1
                go_wp2
                go_meet
                case rel => exact ⟨.inr ⟨rfl, fun h => by omega⟩, rfl⟩
            · have g0 : decide (0 ≤ x.n) = false := decide_eq_false c0
              go_wp2
              go_meet
              case rel => exact ⟨.inr ⟨rfl, fun h => by omega⟩, rfl⟩
          case rest =>
            obtain ⟨hmay, rfl⟩ := hcut
            have HM1 := Go.Lib.hid hmay
            obtain ⟨mb, rfl⟩ : ∃ mb, u8 = .bool mb := by
              rcases hmay with ⟨rfl, _⟩ | ⟨rfl, _⟩
              · exact ⟨_, rfl⟩
              · exact ⟨_, rfl⟩
            clear hmay
            go_upto_if 63 with fail
            go_cut [9] from 63 to 63 (fun s9 wx => s9 = .int .i64 (if mb = true then 0 else 1) ∧ wx = wc)
            case first =>
              cases mb with
              | true =>
                go_wp2
                go_meet
                case rel => exact ⟨rfl, rfl⟩
              | false =>
                go_wp2
                go_meet
                case rel => exact ⟨rfl, rfl⟩
            case rest =>
            obtain ⟨hfm, rfl⟩ := hcut
            obtain ⟨fm, HF, rfl⟩ : ∃ fm : Int, Hid (fm = if mb = true then 0 else 1) ∧ u9 = .int .i64 fm := ⟨_, Go.Lib.hid rfl, hfm⟩
            have HMAY : Hid ((mb = true ∧ fm = 0 ∧ 0 ≤ x.n ∧ x.n < 8) ∨ (mb = false ∧ fm = 1 ∧ ¬ (0 ≤ x.n ∧ x.n < 8))) := Go.Lib.hid (by
              have h1 := HF.out
              rcases HM1.out with ⟨h2, h3⟩ | ⟨h2, h3⟩
              · obtain rfl : mb = true := by simpa using h2
                exact .inl ⟨rfl, h1, h3⟩
              · obtain rfl : mb = false := by simpa using h2
                exact .inr ⟨rfl, h1, h3⟩)
            clear hfm HF HM1
            go_wp2_with fail
            refine (within x.d 10 (by omega) (by omega) _).mono ?_
            rintro e w' ⟨rfl, rfl⟩
            obtain ⟨dd, hdd⟩ : ∃ dd : Int, wthn x.d 10 = dd := ⟨_, rfl⟩
            have hd9 : 0 ≤ dd ∧ dd < 10 := by rw [← hdd]; exact wthn_range x.d (by omega)
            rw [hdd]
            clear hdd
            by_cases dTake : dd = 5 ∨ dd = 6
            · as_aux_lemma =>
              obtain ⟨tn, htn⟩ : ∃ tn : Int, wthn x.e.t 7 = tn := ⟨_, rfl⟩
              have htb : 0 ≤ tn ∧ tn < 7 := by rw [← htn]; exact wthn_range x.e.t (by omega)
              obtain ⟨t0, t7⟩ := htb
              have HTN := Go.Lib.hid htn
              obtain ⟨k, hk⟩ : ∃ k : Nat, (1 + tn : Int) = k := ⟨(1 + tn).toNat, by omega⟩
              have hk1 : 1 ≤ k := by omega
              have hk7 : k ≤ 7 := by omega
              have HKN := Go.Lib.hid hk
              clear htn hk
              go_upto_if 95 with fail
              go_cut [95] from 96 to 97 (fun s95 wx => s95 = .bool true ∧ wx = wc)
              case first =>
                rcases dTake with rfl | rfl
                · go_wp2
                  go_meet
                  case rel => exact ⟨rfl, rfl⟩
                · go_wp2
                  go_meet
                  case rel => exact ⟨rfl, rfl⟩
              case rest =>
              obtain ⟨rfl, rfl⟩ := hcut
              clear dTake
              go_wp2_with fail
              refine (within x.e.t 7 (by omega) (by omega) _).mono ?_
              rintro e w' ⟨rfl, rfl⟩
              rw [HTN.out]
              by_cases h5 : k ≤ 5
              · have e5 : decide (5 < 1 + tn) = false := decide_eq_false (by have := HKN.out; omega)
                have e5' : decide (4 < tn) = false := decide_eq_false (by have := HKN.out; omega)
                rcases HMAY.out with ⟨rfl, rfl, c0, c1⟩ | ⟨rfl, rfl, hno⟩
                · obtain ⟨cn, hcn⟩ : ∃ cn : Nat, x.n = cn := ⟨x.n.toNat, by omega⟩
                  have HCN := Go.Lib.hid hcn
                  have hc8 : cn < 8 := by omega
                  clear hcn
                  obtain ⟨z, hz⟩ : ∃ z, L[cn]? = some z := ⟨_, List.getElem?_eq_getElem (by rw [HE4.out.ql.base.2.1]; exact hc8)⟩
                  have HZ := Go.Lib.hid hz
                  clear hz
                  go_wp2_with fail
                  rw [HCN.out, HKN.out]
                  obtain ⟨b12, hb12⟩ : ∃ b12, b12 = wc.heap.size := ⟨_, rfl⟩
                  obtain ⟨wa, hwa⟩ : ∃ wa, wa = wc.alloc (.cells #[.int .i64 0, .int .i64 0, .slice none 0 0] 40) := ⟨_, rfl⟩
                  rw [← hwa, ← hb12]
                  have hka : Keeps [] wc wa := by rw [hwa]; exact (Keeps.refl _ _).alloc _
                  have hxa : wa.heap[b12]? = some (.cells #[.int .i64 0, .int .i64 0, .slice none 0 0] 40 (0, 0)) := by rw [hwa, hb12]; exact heap_alloc_new _ _
                  have HEA := Go.Lib.hid (HE4.out.new hka)
                  have HXA := Go.Lib.hid hxa
                  have HB12 : Hid (w.heap.size ≤ b12) := by have := HE4.out.keeps.size; show w.heap.size ≤ b12; omega
                  clear hwa hb12 hka hxa
                  refine (r_take HEA.out.rl hc8 hk1 h5 HZ.out).mono ?_
                  rintro e w5 ⟨v5, rfl, ho5, hr5, hk5⟩
                  obtain ⟨ev, hev⟩ : ∃ ev, ev = takeM cn k m := ⟨_, rfl⟩
                  have hlen5 : ev.1.length ≤ 64 := by
                    have h1 := congrArg List.length (takeR_evs cn m k)
                    rw [← takeM_eq, ← hev, List.length_map, List.length_take] at h1
                    have h2 := HE4.out.ql.base.2.2.1
                    omega
                  rw [← hev] at ho5 hr5
                  have hx5 := hk5.keep _ _ HXA.out (.inr rfl)
                  obtain ⟨A5, k5, rfl⟩ := row_len ho5 rfl
                  obtain ⟨p0, p0'⟩ := cell_at hx5 (p := 0) rfl
                  obtain ⟨p1, p1'⟩ := cell_at hx5 (p := 1) rfl
                  obtain ⟨p2, p2'⟩ := cell_at hx5 (p := 2) rfl
                  have HX5 := Go.Lib.hid hx5
                  have HO5 := Go.Lib.hid ho5
                  have HR5 := Go.Lib.hid hr5
                  have HK5 := Go.Lib.hid hk5
                  have HEV := Go.Lib.hid hev
                  clear hx5 ho5 hr5 hk5 hev
                  go_wp2_with fail
                  obtain ⟨wb, hwb⟩ : ∃ wb, wb = ((w5.setCell ⟨b12, 0, none⟩ (.int .i64 cn)).setCell ⟨b12, 1, none⟩ (.int .i64 z)).setCell ⟨b12, 2, none⟩ (.slice A5 ev.1.length k5) := ⟨_, rfl⟩
                  rw [← hwb]
                  have hks : Keeps [b12] w5 wb := by rw [hwb]; exact (((Keeps.refl _ _).setCell (by simp) _).setCell (by simp) _).setCell (by simp) _
                  have hxb : wb.heap[b12]? = some (.cells #[.int .i64 cn, .int .i64 z, .slice A5 ev.1.length k5] 40 (0, 0)) := by
                    have s1 := heap_setCell_self (off := 0) (v := .int .i64 cn) HX5.out
                    have s2 := heap_setCell_self (off := 1) (v := .int .i64 z) s1
                    have s3 := heap_setCell_self (off := 2) (v := .slice A5 ev.1.length k5) s2
                    rw [hwb, s3]
                    simp
                  have hkw : Keeps [] w wb := by rw [hwb]; exact (((HK5.out.keeps HEA.out.keeps (Nat.le_refl _)).setNew HB12.out _).setNew HB12.out _).setNew HB12.out _
                  have hqb : QL w.heap.size wb q m L := QL.tame (HEA.out.ql.rk HK5.out) (fun j o ho hf => hks.heap ho (by simp; rintro rfl; rw [HX5.out] at ho; obtain rfl := Option.some.inj ho; simp [alien] at hf))
                  have hrb : RL w.heap.size wb r (sweepM ev.2) (L.set cn 0) := HR5.out.keep (fun j o ho hf => hks.heap ho (by simp; rintro rfl; rw [HX5.out] at ho; obtain rfl := Option.some.inj ho; simp [far] at hf))
                  have hob : wb.ownsRow wa.heap.size 31 6 (.slice A5 ev.1.length k5) ev.1.length (ev.1.flatMap evs) := row31_kept HO5.out (fun j cs fr hj => hks.heap hj (by simp; exact block_ne hj HX5.out (by simp)))
                  have HXB := Go.Lib.hid hxb
                  have HKW := Go.Lib.hid hkw
                  have HQB := Go.Lib.hid hqb
                  have HRB := Go.Lib.hid hrb
                  have HOB := Go.Lib.hid hob
                  clear hwb hks hxb hkw hqb hrb hob p0 p1 p2 p0' p1' p2' HX5 HO5 HR5 HK5
                  refine (q_take HQB.out hc8 hk1 h5 HZ.out).mono ?_
                  rintro e w6 ⟨v6, rfl, ho6, hq6, hb6⟩
                  rw [← HEV.out] at ho6 hq6
                  obtain ⟨A6, k6, rfl⟩ := row_len ho6 rfl
                  have hx6 := hb6.keep _ _ HXB.out (.inr rfl)
                  have ho5 := row31_kept HOB.out (fun j cs fr hj => hb6.keep _ _ hj (.inr rfl))
                  have p0 := (cell_at hx6 (p := 0) rfl).1
                  have p1 := (cell_at hx6 (p := 1) rfl).1
                  have p2 := (cell_at hx6 (p := 2) rfl).1
                  have hz6 := hb6.size
                  have HE6 : Hid (Ex w q r (sweepM ev.2) (L.set cn 0) (i + 1) w6) := ⟨hq6, HRB.out.bk hb6, hb6.keeps HKW.out (Nat.le_refl _), lo_set HE4.out.up.lo cn⟩
                  have HO5 := Go.Lib.hid ho5
                  have HO6 := Go.Lib.hid ho6
                  clear ho6 hq6 hb6 hx6 ho5 HRB HQB HOB HXB
                  go_wp2_with fail
                  obtain ⟨b13, hb13⟩ : ∃ b13, b13 = w6.heap.size := ⟨_, rfl⟩
                  obtain ⟨wd, hwd⟩ : ∃ wd, wd = w6.alloc (.cells #[.int .i64 cn, .int .i64 z, .slice A6 ev.1.length k6] 40) := ⟨_, rfl⟩
                  rw [← hwd, ← hb13]
                  have hkd : Keeps [] w6 wd := by rw [hwd]; exact (Keeps.refl _ _).alloc _
                  have hxd : wd.heap[b13]? = some (.cells #[.int .i64 cn, .int .i64 z, .slice A6 ev.1.length k6] 40 (0, 0)) := by rw [hwd, hb13]; exact heap_alloc_new _ _
                  have HED := Go.Lib.hid (HE6.out.new hkd)
                  have r0 := (cell_at hxd (p := 0) rfl).1
                  have r1 := (cell_at hxd (p := 1) rfl).1
                  have r2 := (cell_at hxd (p := 2) rfl).1
                  have s0 := hkd.cell p0 (by simp)
                  have s1 := hkd.cell p1 (by simp)
                  have s2 := hkd.cell p2 (by simp)
                  have HO5d := Go.Lib.hid (row31_kept HO5.out (fun j cs fr hj => hkd.heap hj (by simp)))
                  have HO6d := Go.Lib.hid (row31_kept HO6.out (fun j cs fr hj => hkd.heap hj (by simp)))
                  have hzd := hkd.size
                  clear hwd hb13 hkd hxd p0 p1 p2 HO5 HO6
                  refine (num _ _).mono ?_
                  rintro e w' ⟨rfl, rfl⟩
                  go_wp2_with fail
                  have HE5v : Hid (Evts wd A5 ev.1) := Go.Lib.hid (by
                    obtain ⟨A', c', he, hv⟩ := Evts.of_own HO5d.out rfl
                    simp only [Value.slice.injEq] at he
                    obtain ⟨rfl, _, rfl⟩ := he
                    exact hv)
                  have HE6v : Hid (Evts wd A6 ev.1) := Go.Lib.hid (by
                    obtain ⟨A', c', he, hv⟩ := Evts.of_own HO6d.out rfl
                    simp only [Value.slice.injEq] at he
                    obtain ⟨rfl, _, rfl⟩ := he
                    exact hv)
                  refine (eqpack rfl rfl HE6v.out HE5v.out (by omega)).mono ?_
                  rintro e w8 ⟨rfl, hk8⟩
                  have q2 := hk8.cell r2 (by simp)
                  have HE8 := Go.Lib.hid (HED.out.new hk8)
                  have HO8 := Go.Lib.hid (row31_kept HO6d.out (fun j cs fr hj => hk8.heap hj (by simp)))
                  have hsz8 := HKW.out.size
                  have hsz9 : wb.heap.size ≤ w8.heap.size := by have := hk8.size; omega
                  clear hk8
                  go_wp2_with fail
                  refine (spoil HO8.out (by omega) hsz9).mono ?_
                  rintro e w7 ⟨⟨v7, rfl⟩, hs7⟩
                  obtain ⟨m5, L5, HE5⟩ : ∃ m5 L5, Hid (Ex w q r m5 L5 (i + 1) w7) := ⟨_, _, HE8.out.sp hs7 hsz8⟩
                  clear hs7 q2 r0 r1 r2 s0 s1 s2
                  go_wp2_with fail
                  refine (q_len HE5.out.ql).mono ?_
                  rintro e w' ⟨rfl, rfl⟩
                  go_wp2_with fail
                  refine (r_len HE5.out.rl).mono ?_
                  rintro e w' ⟨rfl, rfl⟩
                  go_wp2_with fail
                  exact ⟨⟨i + 1, m5, L5, by go_num, by omega, HE5⟩, by simp [intOf]; omega⟩
                · go_wp2_with fail
                  obtain ⟨b12, hb12⟩ : ∃ b12, b12 = wc.heap.size := ⟨_, rfl⟩
                  obtain ⟨wa, hwa⟩ : ∃ wa, wa = wc.alloc (.cells #[.int .i64 0, .int .i64 0, .slice none 0 0] 40) := ⟨_, rfl⟩
                  rw [← hwa, ← hb12]
                  have hka : Keeps [] wc wa := by rw [hwa]; exact (Keeps.refl _ _).alloc _
                  have hxa : wa.heap[b12]? = some (.cells #[.int .i64 0, .int .i64 0, .slice none 0 0] 40 (0, 0)) := by rw [hwa, hb12]; exact heap_alloc_new _ _
                  have HEA := Go.Lib.hid (HE4.out.new hka)
                  have HXA := Go.Lib.hid hxa
                  clear hwa hb12 hka hxa
                  refine (take_bad q (by have := HKN.out; omega) (.inl hno) (by have := HKN.out; omega)).mono ?_
                  rintro e w5 ⟨rfl, hk5⟩
                  have HE5a := Go.Lib.hid (HEA.out.new hk5)
                  have hx5 := hk5.heap HXA.out (by simp)
                  have p0 := (cell_at hx5 (p := 0) rfl).1
                  have p1 := (cell_at hx5 (p := 1) rfl).1
                  have p2 := (cell_at hx5 (p := 2) rfl).1
                  clear hk5 hx5
                  go_wp2_with fail
                  obtain ⟨b13, hb13⟩ : ∃ b13, b13 = w5.heap.size := ⟨_, rfl⟩
                  obtain ⟨wb, hwb⟩ : ∃ wb, wb = w5.alloc (.cells #[.int .i64 0, .int .i64 0, .slice none 0 0] 40) := ⟨_, rfl⟩
                  rw [← hwb, ← hb13]
                  have hkb : Keeps [] w5 wb := by rw [hwb]; exact (Keeps.refl _ _).alloc _
                  have hxb : wb.heap[b13]? = some (.cells #[.int .i64 0, .int .i64 0, .slice none 0 0] 40 (0, 0)) := by rw [hwb, hb13]; exact heap_alloc_new _ _
                  have HEB := Go.Lib.hid (HE5a.out.new hkb)
                  have HXB := Go.Lib.hid hxb
                  have r0 := (cell_at hxb (p := 0) rfl).1
                  have r1 := (cell_at hxb (p := 1) rfl).1
                  have r2 := (cell_at hxb (p := 2) rfl).1
                  have s0 := hkb.cell p0 (by simp)
                  have s1 := hkb.cell p1 (by simp)
                  have s2 := hkb.cell p2 (by simp)
                  clear hwb hb13 hkb hxb p0 p1 p2
                  refine (num _ _).mono ?_
                  rintro e w' ⟨rfl, rfl⟩
                  go_wp2_with fail
                  refine (eqpack (l := []) rfl rfl (fun i x h => by simp at h) (fun i x h => by simp at h) (by simp)).mono ?_
                  rintro e w6 ⟨rfl, hk6⟩
                  have q2 := hk6.cell r2 (by simp)
                  have HE6 := Go.Lib.hid (HEB.out.new hk6)
                  clear hk6
                  go_wp2_with fail
                  have hM6 := HE6.out.keeps.size
                  refine (spoil (M := w6.heap.size) (n := 0) (World.ownsRow_nil _ _ _ _) (by omega) (Nat.le_refl _)).mono ?_
                  rintro e w7 ⟨⟨v7, rfl⟩, hs7⟩
                  obtain ⟨m5, L5, HE5⟩ : ∃ m5 L5, Hid (Ex w q r m5 L5 (i + 1) w7) := ⟨_, _, (HE6.out.new (hs7.keeps (Keeps.refl _ _) (Nat.le_refl _))).up⟩
                  clear hs7 q2 r0 r1 r2 s0 s1 s2
                  go_wp2_with fail
                  refine (q_len HE5.out.ql).mono ?_
                  rintro e w' ⟨rfl, rfl⟩
                  go_wp2_with fail
                  refine (r_len HE5.out.rl).mono ?_
                  rintro e w' ⟨rfl, rfl⟩
                  go_wp2_with fail
                  exact ⟨⟨i + 1, m5, L5, by go_num, by omega, HE5⟩, by simp [intOf]; omega⟩
              · have e5 : decide (5 < 1 + tn) = true := decide_eq_true (by have := HKN.out; omega)
                have e5' : decide (4 < tn) = true := decide_eq_true (by have := HKN.out; omega)
                go_wp2_with fail
                obtain ⟨b12, hb12⟩ : ∃ b12, b12 = wc.heap.size := ⟨_, rfl⟩
                obtain ⟨wa, hwa⟩ : ∃ wa, wa = wc.alloc (.cells #[.int .i64 0, .int .i64 0, .slice none 0 0] 40) := ⟨_, rfl⟩
                rw [← hwa, ← hb12]
                have hka : Keeps [] wc wa := by rw [hwa]; exact (Keeps.refl _ _).alloc _
                have hxa : wa.heap[b12]? = some (.cells #[.int .i64 0, .int .i64 0, .slice none 0 0] 40 (0, 0)) := by rw [hwa, hb12]; exact heap_alloc_new _ _
                have HEA := Go.Lib.hid (HE4.out.new hka)
                have HXA := Go.Lib.hid hxa
                clear hwa hb12 hka hxa
                refine (take_bad q (by have := HKN.out; omega) (.inr (by have := HKN.out; omega)) (by have := HKN.out; omega)).mono ?_
                rintro e w5 ⟨rfl, hk5⟩
                have HE5a := Go.Lib.hid (HEA.out.new hk5)
                have hx5 := hk5.heap HXA.out (by simp)
                have p0 := (cell_at hx5 (p := 0) rfl).1
                have p1 := (cell_at hx5 (p := 1) rfl).1
                have p2 := (cell_at hx5 (p := 2) rfl).1
                clear hk5 hx5
                go_wp2_with fail
                obtain ⟨b13, hb13⟩ : ∃ b13, b13 = w5.heap.size := ⟨_, rfl⟩
                obtain ⟨wb, hwb⟩ : ∃ wb, wb = w5.alloc (.cells #[.int .i64 0, .int .i64 0, .slice none 0 0] 40) := ⟨_, rfl⟩
                rw [← hwb, ← hb13]
                have hkb : Keeps [] w5 wb := by rw [hwb]; exact (Keeps.refl _ _).alloc _
                have hxb : wb.heap[b13]? = some (.cells #[.int .i64 0, .int .i64 0, .slice none 0 0] 40 (0, 0)) := by rw [hwb, hb13]; exact heap_alloc_new _ _
                have HEB := Go.Lib.hid (HE5a.out.new hkb)
                have HXB := Go.Lib.hid hxb
                have r0 := (cell_at hxb (p := 0) rfl).1
                have r1 := (cell_at hxb (p := 1) rfl).1
                have r2 := (cell_at hxb (p := 2) rfl).1
                have s0 := hkb.cell p0 (by simp)
                have s1 := hkb.cell p1 (by simp)
                have s2 := hkb.cell p2 (by simp)
                clear hwb hb13 hkb hxb p0 p1 p2
                refine (num _ _).mono ?_
                rintro e w' ⟨rfl, rfl⟩
                go_wp2_with fail
                refine (eqpack (l := []) rfl rfl (fun i x h => by simp at h) (fun i x h => by simp at h) (by simp)).mono ?_
                rintro e w6 ⟨rfl, hk6⟩
                have q2 := hk6.cell r2 (by simp)
                have HE6 := Go.Lib.hid (HEB.out.new hk6)
                clear hk6
                go_wp2_with fail
                have hM6 := HE6.out.keeps.size
                refine (spoil (M := w6.heap.size) (n := 0) (World.ownsRow_nil _ _ _ _) (by omega) (Nat.le_refl _)).mono ?_
                rintro e w7 ⟨⟨v7, rfl⟩, hs7⟩
                obtain ⟨m5, L5, HE5⟩ : ∃ m5 L5, Hid (Ex w q r m5 L5 (i + 1) w7) := ⟨_, _, (HE6.out.new (hs7.keeps (Keeps.refl _ _) (Nat.le_refl _))).up⟩
                clear hs7 q2 r0 r1 r2 s0 s1 s2
                go_wp2_with fail
                refine (q_len HE5.out.ql).mono ?_
                rintro e w' ⟨rfl, rfl⟩
                go_wp2_with fail
                refine (r_len HE5.out.rl).mono ?_
                rintro e w' ⟨rfl, rfl⟩
                go_wp2_with fail
                exact ⟨⟨i + 1, m5, L5, by go_num, by omega, HE5⟩, by simp [intOf]; omega⟩
            · by_cases dForget : dd = 7
              · as_aux_lemma =>
                obtain rfl : dd = 7 := dForget
                rcases HMAY.out with ⟨rfl, rfl, c0, c1⟩ | ⟨rfl, rfl, hno⟩
                · obtain ⟨cn, hcn⟩ : ∃ cn : Nat, x.n = cn := ⟨x.n.toNat, by omega⟩
                  have HCN := Go.Lib.hid hcn
                  have hc8 : cn < 8 := by omega
                  clear hcn
                  go_wp2_with fail
                  rw [HCN.out]
                  refine (r_forget HE4.out.rl hc8).mono ?_
                  rintro e w5 ⟨⟨v, rfl⟩, hr5, hk5⟩
                  have HR5 := Go.Lib.hid hr5
                  have HK5 := Go.Lib.hid hk5
                  have HQ5 := Go.Lib.hid (HE4.out.ql.rk hk5)
                  clear hr5 hk5
                  go_wp2_with fail
                  refine (q_forget HQ5.out hc8).mono ?_
                  rintro e w6 ⟨rfl, hq6, hb6⟩
                  obtain ⟨m5, L5, HE5⟩ : ∃ m5 L5, Hid (Ex w q r m5 L5 (i + 1) w6) := ⟨_, _, hq6, HR5.out.bk hb6, hb6.keeps (HK5.out.keeps HE4.out.keeps (Nat.le_refl _)) (Nat.le_refl _), lo_set HE4.out.up.lo cn⟩
                  clear hq6 hb6
                  go_wp2_with fail
                  refine (num _ _).mono ?_
                  rintro e w' ⟨rfl, rfl⟩
                  go_wp2_with fail
                  refine (q_len HE5.out.ql).mono ?_
                  rintro e w' ⟨rfl, rfl⟩
                  go_wp2_with fail
                  refine (r_len HE5.out.rl).mono ?_
                  rintro e w' ⟨rfl, rfl⟩
                  go_wp2_with fail
                  exact ⟨⟨i + 1, m5, L5, by go_num, by omega, HE5⟩, by simp [intOf]; omega⟩
                · go_wp2_with fail
                  refine (forget_bad q hno).mono ?_
                  rintro e w6 ⟨rfl, hk6⟩
                  obtain ⟨m5, L5, HE5⟩ : ∃ m5 L5, Hid (Ex w q r m5 L5 (i + 1) w6) := ⟨_, _, (HE4.out.new hk6).up⟩
                  clear hk6
                  go_wp2_with fail
                  refine (num _ _).mono ?_
                  rintro e w' ⟨rfl, rfl⟩
                  go_wp2_with fail
                  refine (q_len HE5.out.ql).mono ?_
                  rintro e w' ⟨rfl, rfl⟩
                  go_wp2_with fail
                  refine (r_len HE5.out.rl).mono ?_
                  rintro e w' ⟨rfl, rfl⟩
                  go_wp2_with fail
                  exact ⟨⟨i + 1, m5, L5, by go_num, by omega, HE5⟩, by simp [intOf]; omega⟩
              · by_cases dReady : dd = 8
                · as_aux_lemma =>
                  obtain rfl : dd = 8 := dReady
                  by_cases htm : 0 ≤ x.e.t ∧ x.e.t ≤ 1099511627776
                  · obtain ⟨t0, t1⟩ := htm
                    go_wp2_with fail
                    refine (ztime_yes t0 t1 _).mono ?_
                    rintro e w' ⟨rfl, rfl⟩
                    go_wp2_with fail
                    refine (r_ready HE4.out.rl x.e.t).mono ?_
                    rintro e w5 ⟨D5, k5, rfl, hn5, hk5⟩
                    have HE5 := Go.Lib.hid (HE4.out.new hk5)
                    have zt : w5.cell? ⟨ba, 2, none⟩ = some (.int .i64 x.e.t) := hk5.cell z2 (by simp)
                    obtain ⟨R, hR⟩ : ∃ R, R = readyTo x.e.t m L 8 := ⟨_, rfl⟩
                    have hR8 : R.length ≤ 8 := by rw [hR]; exact readyTo_len _ _ _ _
                    rw [← hR] at hn5
                    rw [← hR]
                    have HN5 := Go.Lib.hid hn5
                    have HR := Go.Lib.hid hR
                    clear hn5 hk5 hR
                    go_wp2_with fail
                    refine (q_ready HE5.out.ql t0 t1).mono ?_
                    rintro e w6 ⟨v, rfl, ho6, hk6⟩
                    rw [← HR.out] at ho6
                    obtain ⟨D6, k6, rfl, hn6⟩ := Nums.of_own ho6 rfl
                    have HN6 := Go.Lib.hid hn6
                    have HN5' := Go.Lib.hid (HN5.out.keeps0 hk6)
                    have HE6 := Go.Lib.hid (HE5.out.new hk6)
                    clear ho6 hn6 hk6 HE5
                    go_wp2_with fail
                    refine (num _ _).mono ?_
                    rintro e w' ⟨rfl, rfl⟩
                    go_wp2_with fail
                    refine (eqnums2 rfl rfl HN6.out HN5'.out (by omega)).mono ?_
                    rintro e w7 ⟨rfl, hk7⟩
                    obtain ⟨m5, L5, HE5⟩ : ∃ m5 L5, Hid (Ex w q r m5 L5 (i + 1) w7) := ⟨_, _, (HE6.out.new hk7).up⟩
                    clear hk7
                    go_wp2_with fail
                    refine (q_len HE5.out.ql).mono ?_
                    rintro e w' ⟨rfl, rfl⟩
                    go_wp2_with fail
                    refine (r_len HE5.out.rl).mono ?_
                    rintro e w' ⟨rfl, rfl⟩
                    go_wp2_with fail
                    exact ⟨⟨i + 1, m5, L5, by go_num, by omega, HE5⟩, by simp [intOf]; omega⟩
                  · have HT := Go.Lib.hid (show x.e.t < 0 ∨ 1099511627776 < x.e.t by omega)
                    clear htm
                    go_wp2_with fail
                    refine (ztime_no HT.out _).mono ?_
                    rintro e w' ⟨rfl, rfl⟩
                    go_wp2_with fail
                    refine (ready_bad q HT.out).mono ?_
                    rintro e w' ⟨rfl, rfl⟩
                    go_wp2_with fail
                    refine (num _ _).mono ?_
                    rintro e w' ⟨rfl, rfl⟩
                    go_wp2_with fail
                    refine (eqnums2 (l := []) rfl rfl (fun i x h => by simp at h) (fun i x h => by simp at h) (by simp)).mono ?_
                    rintro e w7 ⟨rfl, hk7⟩
                    obtain ⟨m5, L5, HE5⟩ : ∃ m5 L5, Hid (Ex w q r m5 L5 (i + 1) w7) := ⟨_, _, (HE4.out.new hk7).up⟩
                    clear hk7
                    go_wp2_with fail
                    refine (q_len HE5.out.ql).mono ?_
                    rintro e w' ⟨rfl, rfl⟩
                    go_wp2_with fail
                    refine (r_len HE5.out.rl).mono ?_
                    rintro e w' ⟨rfl, rfl⟩
                    go_wp2_with fail
                    exact ⟨⟨i + 1, m5, L5, by go_num, by omega, HE5⟩, by simp [intOf]; omega⟩
                · by_cases dPend : dd = 9
                  · as_aux_lemma =>
                    obtain rfl : dd = 9 := dPend
                    rcases HMAY.out with ⟨rfl, rfl, c0, c1⟩ | ⟨rfl, rfl, hno⟩
                    · obtain ⟨cn, hcn⟩ : ∃ cn : Nat, x.n = cn := ⟨x.n.toNat, by omega⟩
                      have HCN := Go.Lib.hid hcn
                      have hc8 : cn < 8 := by omega
                      clear hcn
                      obtain ⟨z, hz⟩ : ∃ z, L[cn]? = some z := ⟨_, List.getElem?_eq_getElem (by rw [HE4.out.ql.base.2.1]; exact hc8)⟩
                      have HZ := Go.Lib.hid hz
                      clear hz
                      go_wp2_with fail
                      rw [HCN.out]
                      refine (r_pending HE4.out.rl hc8).mono ?_
                      rintro e w' ⟨rfl, rfl⟩
                      obtain ⟨p, hp⟩ : ∃ p, p = (pend cn m).1 := ⟨_, rfl⟩
                      rw [← hp]
                      have HP := Go.Lib.hid hp
                      clear hp
                      go_wp2_with fail
                      refine (r_losses HE4.out.rl HZ.out).mono ?_
                      rintro e w' ⟨rfl, rfl⟩
                      go_wp2_with fail
                      refine (q_Pending HE4.out.ql hc8).mono ?_
                      rintro e w6 ⟨rfl, hk6⟩
                      rw [← HP.out]
                      obtain ⟨m5, L5, HE5, HZ5⟩ : ∃ m5 L5, Hid (Ex w q r m5 L5 (i + 1) w6) ∧ Hid (L5[cn]? = some z) := ⟨_, _, (HE4.out.new hk6).up, HZ⟩
                      clear hk6
                      go_wp2_with fail
                      refine (q_losses HE5.out.ql HZ5.out).mono ?_
                      rintro e w' ⟨rfl, rfl⟩
                      go_wp2_with fail
                      refine (num _ _).mono ?_
                      rintro e w' ⟨rfl, rfl⟩
                      go_wp2_with fail
                      refine (num _ _).mono ?_
                      rintro e w' ⟨rfl, rfl⟩
                      go_wp2_with fail
                      refine (q_len HE5.out.ql).mono ?_
                      rintro e w' ⟨rfl, rfl⟩
                      go_wp2_with fail
                      refine (r_len HE5.out.rl).mono ?_
                      rintro e w' ⟨rfl, rfl⟩
                      go_wp2_with fail
                      exact ⟨⟨i + 1, m5, L5, by go_num, by omega, HE5⟩, by simp [intOf]; omega⟩
                    · obtain ⟨m5, L5, HE5⟩ : ∃ m5 L5, Hid (Ex w q r m5 L5 (i + 1) wc) := ⟨_, _, HE4.out.up⟩
                      go_wp2_with fail
                      refine (pending_bad q hno).mono ?_
                      rintro e w' ⟨rfl, rfl⟩
                      go_wp2_with fail
                      refine (losses_bad q hno).mono ?_
                      rintro e w' ⟨rfl, rfl⟩
                      go_wp2_with fail
                      refine (num _ _).mono ?_
                      rintro e w' ⟨rfl, rfl⟩
                      go_wp2_with fail
                      refine (num _ _).mono ?_
                      rintro e w' ⟨rfl, rfl⟩
                      go_wp2_with fail
                      refine (q_len HE5.out.ql).mono ?_
                      rintro e w' ⟨rfl, rfl⟩
                      go_wp2_with fail
                      refine (r_len HE5.out.rl).mono ?_
                      rintro e w' ⟨rfl, rfl⟩
                      go_wp2_with fail
                      exact ⟨⟨i + 1, m5, L5, by go_num, by omega, HE5⟩, by simp [intOf]; omega⟩
                  · as_aux_lemma =>
                    have f5 : (dd == 5) = false := by simp; omega
                    have f6 : (dd == 6) = false := by simp; omega
                    have f7a : (dd == 7) = false := by simp; omega
                    have f8a : (dd == 8) = false := by simp; omega
                    have f9 : (dd == 9) = false := by simp; omega
                    clear dTake dForget dReady dPend
                    have hN7c := N7.out.keeps0 HE4.out.keeps
                    have hN8c := N8.out.keeps0 HE4.out.keeps
                    go_wp2_with fail
                    refine (mayput (e := x.e) (cl := x.cl) (ws := x.ws) rfl rfl hN7c hN8c hl7 hl8).mono ?_
                    rintro e w5 ⟨rfl, hk5⟩
                    have HB5 := Go.Lib.hid (hk5.heap HBX.out (by simp))
                    have HE5a := Go.Lib.hid (HE4.out.new hk5)
                    have HKW5 := Go.Lib.hid (HE4.out.keeps.trans hk5)
                    have y1 := hk5.cell z1 (by simp)
                    have y2 := hk5.cell z2 (by simp)
                    have y3 := hk5.cell z3 (by simp)
                    have y4 := hk5.cell z4 (by simp)
                    have y5 := hk5.cell z5 (by simp)
                    have y6 := hk5.cell z6 (by simp)
                    have y7 := hk5.cell z7 (by simp)
                    have y8 := hk5.cell z8 (by simp)
                    clear hk5 hN7c hN8c z0 z1 z2 z3 z4 z5 z6 z7 z8 z9
                    by_cases hmp : MayPut x.e x.cl x.ws
                    · rw [mayB_yes hmp]
                      obtain ⟨hri, tm0, tm1⟩ := hmp
                      have HRI := Go.Lib.hid hri
                      have HLO := Go.Lib.hid HE5a.out.lo
                      clear hri
                      by_cases hc0 : 0 < x.cl.length
                      · go_wp2_with fail
                        refine (r_put (e := x.e) rfl rfl HE5a.out.rl N7.out N8.out HKW5.out (Nat.le_refl _) HRI.out hl7 hc0 tm0 tm1 (lo_big HLO.out (by omega)) (HKW5.out.size)).mono ?_
                        rintro e w4 ⟨⟨v4, rfl⟩, hr4, hk4⟩
                        have HR4 := Go.Lib.hid hr4
                        have HQ4 := Go.Lib.hid (HE5a.out.ql.rk hk4)
                        have HKW4 := Go.Lib.hid (hk4.keeps HKW5.out (Nat.le_refl _))
                        have HB4 := Go.Lib.hid (hk4.keep _ _ HB5.out (.inr rfl))
                        clear hr4 hk4 HE4 HE5a y1 y2 y3 y4 y5 y6 y7 y8
                        have hk5d : Keeps [] w4 w4.drew := (Keeps.refl _ _).drew
                        have hb5 := HB4.out
                        have hs5 := sa_of hb5
                        have hkw5 := HKW4.out
                        have hN7 : Nums w4.drew C x.cl := N7.out.keeps0 (hkw5.trans hk5d)
                        have hN8 : Nums w4.drew D x.ws := N8.out.keeps0 (hkw5.trans hk5d)
                        go_upto_region 21 with fail
                        go_region_held3 (fun wx => wx.cell? ⟨ba, 1, none⟩ = some (.int .i64 x.e.s) ∧ wx.cell? ⟨ba, 2, none⟩ = some (.int .i64 x.e.t) ∧ wx.cell? ⟨ba, 3, none⟩ = some (.int .i64 x.e.v0) ∧ wx.cell? ⟨ba, 4, none⟩ = some (.int .i64 x.e.v1) ∧ wx.cell? ⟨ba, 5, none⟩ = some (.int .i64 x.e.v2) ∧ wx.cell? ⟨ba, 6, none⟩ = some (.int .i64 x.e.v3) ∧ wx.cell? ⟨ba, 7, none⟩ = some (.slice C x.cl.length c7) ∧ wx.cell? ⟨ba, 8, none⟩ = some (.slice D x.ws.length c8))
                          (first | exact hs5 | exact hs6 | exact hs7 | exact hs8)
                          (first
                            | (go_at_call 8; refine (num _ _).mono ?_; rintro e w' ⟨rfl, rfl⟩)
                            | (go_at_call 9; (refine (q_put (e := x.e) (HQ4.out.new ((hk5d.trans hk6).trans hk7)) rfl rfl (hn6.keeps0 hk7) hn7 HRI.out hl7 hc0 tm0 tm1 (lo_big HLO.out (by omega))).mono ?_); rintro e w8 ⟨rfl, hq8, hk8⟩; have hb8 := hk8.keep _ _ hb7 (.inr rfl); have hs8 := sa_of hb8)
                            | (go_at_call 29; ((with_reducible refine (copynums (l := x.cl) (A := C) rfl _ hN7 hl7).mono ?_); rintro e w6 ⟨D6, k6, rfl, hn6, hk6⟩); have hb6 := hk6.heap (hk5d.heap hb5 (by simp)) (by simp); have hs6 := sa_of hb6)
                            | (go_at_call 29; ((with_reducible refine (copynums (l := x.ws) (A := D) rfl _ (hN8.keeps0 hk6) hl8).mono ?_); rintro e w7 ⟨D7, k7, rfl, hn7, hk7⟩); have hb7 := hk7.heap hb6 (by simp); have hs7 := sa_of hb7))
                        obtain ⟨m5, L5, HE5⟩ : ∃ m5 L5, Hid (Ex w q r m5 L5 (i + 1) w8) := ⟨_, _, hq8, (HR4.out.new ((hk5d.trans hk6).trans hk7)).bk hk8, hk8.keeps (HKW4.out.trans ((hk5d.trans hk6).trans hk7)) (Nat.le_refl _), lo_lost m HLO.out⟩
                        clear hs6 hs7 hs8 hs5 hb5 hb6 hb7 hb8 hn6 hn7 hN7 hN8 hk5d hk6 hk7 hk8 hkw5 hq8
                        go_wp2_with fail
                        refine (q_len HE5.out.ql).mono ?_
                        rintro e w' ⟨rfl, rfl⟩
                        go_wp2_with fail
                        refine (r_len HE5.out.rl).mono ?_
                        rintro e w' ⟨rfl, rfl⟩
                        go_wp2_with fail
                        exact ⟨⟨i + 1, m5, L5, by go_num, by omega, HE5⟩, by simp [intOf]; omega⟩
                      · have hlc : x.cl.length = 0 := by omega
                        have hlw : x.ws.length = 0 := by have := HRI.out.1; omega
                        have HLC := Go.Lib.hid hlc
                        have HLW := Go.Lib.hid hlw
                        clear hlc hlw
                        go_wp2_with fail
                        refine (r_put_none r HLC.out HLW.out).mono ?_
                        rintro e w4 ⟨⟨v4, rfl⟩, hk4⟩
                        have HE5b := Go.Lib.hid (HE5a.out.new hk4)
                        have HKW4 := Go.Lib.hid (HKW5.out.trans hk4)
                        have HB4 := Go.Lib.hid (hk4.heap HB5.out (by simp))
                        clear hk4 HE4 HE5a y1 y2 y3 y4 y5 y6 y7 y8
                        have hk5d : Keeps [] w4 w4.drew := (Keeps.refl _ _).drew
                        have hb5 := HB4.out
                        have hs5 := sa_of hb5
                        have hkw5 := HKW4.out
                        have hN7 : Nums w4.drew C x.cl := N7.out.keeps0 (hkw5.trans hk5d)
                        have hN8 : Nums w4.drew D x.ws := N8.out.keeps0 (hkw5.trans hk5d)
                        go_upto_region 21 with fail
                        go_region_held3 (fun wx => wx.cell? ⟨ba, 1, none⟩ = some (.int .i64 x.e.s) ∧ wx.cell? ⟨ba, 2, none⟩ = some (.int .i64 x.e.t) ∧ wx.cell? ⟨ba, 3, none⟩ = some (.int .i64 x.e.v0) ∧ wx.cell? ⟨ba, 4, none⟩ = some (.int .i64 x.e.v1) ∧ wx.cell? ⟨ba, 5, none⟩ = some (.int .i64 x.e.v2) ∧ wx.cell? ⟨ba, 6, none⟩ = some (.int .i64 x.e.v3) ∧ wx.cell? ⟨ba, 7, none⟩ = some (.slice C x.cl.length c7) ∧ wx.cell? ⟨ba, 8, none⟩ = some (.slice D x.ws.length c8))
                          (first | exact hs5 | exact hs6 | exact hs7 | exact hs8)
                          (first
                            | (go_at_call 8; refine (num _ _).mono ?_; rintro e w' ⟨rfl, rfl⟩)
                            | (go_at_call 9; (refine (put_zero (e := x.e) q HLC.out HLW.out tm0 tm1).mono ?_); rintro e w8 ⟨rfl, hk8⟩; have hb8 := hk8.heap hb7 (by simp); have hs8 := sa_of hb8)
                            | (go_at_call 29; ((with_reducible refine (copynums (l := x.cl) (A := C) rfl _ hN7 hl7).mono ?_); rintro e w6 ⟨D6, k6, rfl, hn6, hk6⟩); have hb6 := hk6.heap (hk5d.heap hb5 (by simp)) (by simp); have hs6 := sa_of hb6)
                            | (go_at_call 29; ((with_reducible refine (copynums (l := x.ws) (A := D) rfl _ (hN8.keeps0 hk6) hl8).mono ?_); rintro e w7 ⟨D7, k7, rfl, hn7, hk7⟩); have hb7 := hk7.heap hb6 (by simp); have hs7 := sa_of hb7))
                        obtain ⟨m5, L5, HE5⟩ : ∃ m5 L5, Hid (Ex w q r m5 L5 (i + 1) w8) := ⟨_, _, (HE5b.out.new (((hk5d.trans hk6).trans hk7).trans hk8)).up⟩
                        clear hs6 hs7 hs8 hs5 hb5 hb6 hb7 hb8 hn6 hn7 hN7 hN8 hk5d hk6 hk7 hk8 hkw5
                        go_wp2_with fail
                        refine (q_len HE5.out.ql).mono ?_
                        rintro e w' ⟨rfl, rfl⟩
                        go_wp2_with fail
                        refine (r_len HE5.out.rl).mono ?_
                        rintro e w' ⟨rfl, rfl⟩
                        go_wp2_with fail
                        exact ⟨⟨i + 1, m5, L5, by go_num, by omega, HE5⟩, by simp [intOf]; omega⟩
                    · rw [mayB_no hmp]
                      have HNP := Go.Lib.hid hmp
                      clear hmp
                      have hk5d : Keeps [] w5 w5.drew := (Keeps.refl _ _).drew
                      have hb5 := HB5.out
                      have hs5 := sa_of hb5
                      have hkw5 := HKW5.out
                      have hN7 : Nums w5.drew C x.cl := N7.out.keeps0 (hkw5.trans hk5d)
                      have hN8 : Nums w5.drew D x.ws := N8.out.keeps0 (hkw5.trans hk5d)
                      go_upto_region 21 with fail
                      go_region_held3 (fun wx => wx.cell? ⟨ba, 1, none⟩ = some (.int .i64 x.e.s) ∧ wx.cell? ⟨ba, 2, none⟩ = some (.int .i64 x.e.t) ∧ wx.cell? ⟨ba, 3, none⟩ = some (.int .i64 x.e.v0) ∧ wx.cell? ⟨ba, 4, none⟩ = some (.int .i64 x.e.v1) ∧ wx.cell? ⟨ba, 5, none⟩ = some (.int .i64 x.e.v2) ∧ wx.cell? ⟨ba, 6, none⟩ = some (.int .i64 x.e.v3) ∧ wx.cell? ⟨ba, 7, none⟩ = some (.slice C x.cl.length c7) ∧ wx.cell? ⟨ba, 8, none⟩ = some (.slice D x.ws.length c8))
                        (first | exact hs5 | exact hs6 | exact hs7 | exact hs8)
                        (first
                          | (go_at_call 8; refine (num _ _).mono ?_; rintro e w' ⟨rfl, rfl⟩)
                          | (go_at_call 9; (refine (put_no (e := x.e) q rfl rfl (hn6.keeps0 hk7) hn7 HNP.out hl7).mono ?_); rintro e w8 ⟨rfl, hk8⟩; have hb8 := hk8.heap hb7 (by simp); have hs8 := sa_of hb8)
                          | (go_at_call 29; ((with_reducible refine (copynums (l := x.cl) (A := C) rfl _ hN7 hl7).mono ?_); rintro e w6 ⟨D6, k6, rfl, hn6, hk6⟩); have hb6 := hk6.heap (hk5d.heap hb5 (by simp)) (by simp); have hs6 := sa_of hb6)
                          | (go_at_call 29; ((with_reducible refine (copynums (l := x.ws) (A := D) rfl _ (hN8.keeps0 hk6) hl8).mono ?_); rintro e w7 ⟨D7, k7, rfl, hn7, hk7⟩); have hb7 := hk7.heap hb6 (by simp); have hs7 := sa_of hb7))
                      obtain ⟨m5, L5, HE5⟩ : ∃ m5 L5, Hid (Ex w q r m5 L5 (i + 1) w8) := ⟨_, _, (HE5a.out.new (((hk5d.trans hk6).trans hk7).trans hk8)).up⟩
                      clear hs6 hs7 hs8 hs5 hb5 hb6 hb7 hb8 hn6 hn7 hN7 hN8 hk5d hk6 hk7 hk8 hkw5
                      go_wp2_with fail
                      refine (q_len HE5.out.ql).mono ?_
                      rintro e w' ⟨rfl, rfl⟩
                      go_wp2_with fail
                      refine (r_len HE5.out.rl).mono ?_
                      rintro e w' ⟨rfl, rfl⟩
                      go_wp2_with fail
                      exact ⟨⟨i + 1, m5, L5, by go_num, by omega, HE5⟩, by simp [intOf]; omega⟩
        · have f8 : decide (100 < x.ws.length) = true := decide_eq_true (by omega)
          have f8' : decide ((100 : Int) < x.ws.length) = true := decide_eq_true (by omega)
          go_wp2_with fail
          go_ret
          exact ⟨rfl, HE4.out.keeps⟩
      · have f7 : decide (100 < x.cl.length) = true := decide_eq_true (by omega)
        have f7' : decide ((100 : Int) < x.cl.length) = true := decide_eq_true (by omega)
        go_wp2_with fail
        go_ret
        exact ⟨rfl, HE4.out.keeps⟩
    · by_cases h1 : i < len0
      · have d1 : decide (i < len0) = true := decide_eq_true h1
        have h2 : ¬ i < 160 := fun h => hlt ⟨h1, h⟩
        have d2 : decide (i < 160) = false := decide_eq_false h2
        have d3 : decide ((i : Int) < 160) = false := decide_eq_false (by omega)
        go_wp2_with fail
        refine HW.out.mono ?_
        rintro e w' ⟨rfl, hk'⟩
        have HK' := Go.Lib.hid (HE.out.keeps.trans hk')
        clear hk'
        go_wp2
        go_ret
        exact ⟨rfl, HK'.out⟩
      · have d1 : decide (i < len0) = false := decide_eq_false h1
        go_wp2_with fail
        refine HW.out.mono ?_
        rintro e w' ⟨rfl, hk'⟩
        have HK' := Go.Lib.hid (HE.out.keeps.trans hk')
        clear hk'
        go_wp2
        go_ret
        exact ⟨rfl, HK'.out⟩
end Go.Proofs.Ytldnnkceeeinlaa
