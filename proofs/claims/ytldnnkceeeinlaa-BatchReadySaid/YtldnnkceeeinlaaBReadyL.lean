/- The walk of BatchReady: over every script that lies in memory it returns true. No condition. -/
import Derived.Test.YtldnnkceeeinlaaBReadyM
import Derived.Test.YtldnnkceeeinlaaBDrops
namespace Go.Proofs.Ytldnnkceeeinlaa
open Go.RowKit

/-- A row of numbers that Ready has handed out. -/
theorem Nums.of_row {B : Nat} {w : World} {v : Value} {l : List Int} (h : w.ownsRow B 3 1 v l.length (ints l)) : ∃ A c, v = .slice A l.length c ∧ Nums w A l := by
  rcases h.2 with ⟨rfl, h0⟩ | ⟨g', cap, cur, rfl, e2, e3, e4⟩
  · obtain rfl := List.eq_nil_of_length_eq_zero h0
    exact ⟨none, 0, rfl, fun i x hx => by simp at hx⟩
  · refine ⟨_, _, rfl, fun i x hx => ⟨_, rfl, ?_⟩⟩
    have := h.cells (g := g') rfl i _ (ints_get hx)
    exact this

/-- A queue kept. -/
structure Rq (w : World) (q : Nat) (m : List It) (lost : List Int) (W : World) : Prop where
  own : QL w.heap.size W q m lost
  keeps : Keeps [] w W
theorem Rq.new {w W W' : World} {q : Nat} {m : List It} {lost : List Int} (h : Rq w q m lost W) (hk : Keeps [] W W') : Rq w q m lost W' := ⟨h.own.new hk, h.keeps.trans hk⟩
theorem Rq.bk {w W W' : World} {q : Nat} {m m' : List It} {lost lost' : List Int} (h : Rq w q m lost W) (hb : BK w.heap.size W W') (hq : QL w.heap.size W' q m' lost') : Rq w q m' lost' W' := ⟨hq, hb.keeps h.keeps (Nat.le_refl _)⟩

theorem rising_36 : Rising [3, 6] [60000, 60000] := by
  refine ⟨rfl, fun i hi => ?_⟩
  rcases (show i = 0 ∨ i = 1 by simp at hi; omega) with rfl | rfl
  · exact ⟨3, 60000, rfl, rfl, by omega, by omega, by omega, by omega, fun y hy => by omega⟩
  · exact ⟨6, 60000, rfl, rfl, by omega, by omega, by omega, by omega, fun y _ hy => by
      obtain rfl : 3 = y := by simpa using hy
      omega⟩

set_option maxHeartbeats 4000000 in
set_option maxRecDepth 100000 in
theorem readys {A : Option Addr} {len0 cap0 : Nat} {l : List Act} (hlen : len0 = l.length) (w : World) (hl : Acts w A l) :
    Calls Try.prog 5 #[.slice A len0 cap0] w fun e w' => e = .returned (.bool true) ∧ Keeps [] w w' := by
  have HL := Go.Lib.hid hlen
  have HA := Go.Lib.hid hl
  clear hlen hl
  go_enter Try.func5, Try.ntmps5
  go_upto_region 2 with fail
  go_loopw [3] (fun i wr => ∃ k : Nat, i = .int .i64 k ∧ k ≤ 6 ∧ k ≤ len0 ∧ Hid (Keeps [] w wr)) (fun i _ => 6 - (intOf i).toNat)
  case atStart => exact ⟨0, rfl, by omega, by omega, Keeps.refl _ _⟩
  case round =>
    obtain ⟨k, rfl, hk6, hkl, HK⟩ := hrel
    obtain ⟨w0, hw0⟩ : ∃ w0, w0 = wr := ⟨_, rfl⟩
    subst hw0
    have HW := Go.Lib.hid (wakes w0)
    by_cases hlt : k < len0 ∧ k < 6
    · obtain ⟨h1, h2⟩ := hlt
      have d1 : decide (k < len0) = true := decide_eq_true h1
      have d2 : decide (k < 6) = true := decide_eq_true h2
      have d3 : decide ((k : Int) < 6) = true := decide_eq_true (by omega)
      obtain ⟨x, hx⟩ : ∃ x, l[k]? = some x := ⟨_, List.getElem?_eq_getElem (by have := HL.out; omega)⟩
      obtain ⟨a, rfl, ha0⟩ := HA.out k x hx
      have HX := Go.Lib.hid ha0
      clear ha0 hx
      go_wp2_with fail
      refine (q_new _).mono ?_
      rintro e w1 ⟨q, rfl, hq, hk1⟩
      have HQ : Hid (Rq w0 q [] zeros w1) := ⟨hq, hk1⟩
      have hx1 := HX.out.keeps (HK.out.trans hk1)
      obtain ⟨C, c, hc1, hc2, hc3⟩ := hx1.ws
      simp only [fld] at hc1
      clear hq hk1 hx1
      go_upto_region 8 with fail
      go_cut [59] from 32 to 59 (fun s59 wx => ((s59 = .bool false) ∨ (s59 = .bool true ∧ ∃ y, x.ws[0]? = some y ∧ 0 < y ∧ y ≤ 60000)) ∧ wx = w1)
      case first =>
        by_cases hl0 : 0 < x.ws.length
        · have e1 : decide (0 < x.ws.length) = true := decide_eq_true hl0
          have e1' : decide ((0 : Int) < x.ws.length) = true := decide_eq_true (by omega)
          obtain ⟨y, hy⟩ : ∃ y, x.ws[0]? = some y := ⟨_, List.getElem?_eq_getElem hl0⟩
          obtain ⟨d, rfl, hd⟩ := hc3 0 y hy
          have HY := Go.Lib.hid hy
          rw [show d.add 0 = d from by simp [Addr.add]] at hd
          clear hy hc3
          by_cases y1 : 0 < y
          · have f1 : decide (0 < y) = true := decide_eq_true y1
            by_cases y2 : y ≤ 60000
            · have f2 : decide (y ≤ 60000) = true := decide_eq_true y2
              go_wp2
              go_meet
              case rel => exact ⟨.inr ⟨rfl, y, HY.out, y1, y2⟩, rfl⟩
            · have f2 : decide (y ≤ 60000) = false := decide_eq_false y2
              go_wp2
              go_meet
              case rel => exact ⟨.inl rfl, rfl⟩
          · have f1 : decide (0 < y) = false := decide_eq_false y1
            go_wp2
            go_meet
            case rel => exact ⟨.inl rfl, rfl⟩
        · have e1 : decide (0 < x.ws.length) = false := decide_eq_false hl0
          have e1' : decide ((0 : Int) < x.ws.length) = false := decide_eq_false (by omega)
          go_wp2
          go_meet
          case rel => exact ⟨.inl rfl, rfl⟩
      case rest =>
        obtain ⟨hc59, rfl⟩ := hcut
        go_upto_if 59 with fail
        go_cut [5] from 59 to 66 (fun s5 wx => (∃ wt : Int, s5 = .int .i64 wt ∧ 1 ≤ wt ∧ wt ≤ 60000) ∧ wx = wc)
        case first =>
          rcases hc59 with rfl | ⟨rfl, y, hy, y1, y2⟩
          · go_wp2
            go_meet
            case rel => exact ⟨⟨10, rfl, by omega, by omega⟩, rfl⟩
          · obtain ⟨d, rfl, hd⟩ := hc3 0 y hy
            have hl0 : 0 < x.ws.length := (List.getElem?_eq_some_iff.1 hy).1
            rw [show d.add 0 = d from by simp [Addr.add]] at hd
            clear hy hc3
            go_wp2
            go_meet
            case rel => exact ⟨⟨y, rfl, by omega, y2⟩, rfl⟩
        case rest =>
          obtain ⟨⟨wt, rfl, w1', w2'⟩, rfl⟩ := hcut
          clear hc59 hc1 hc2 hc3 HX
          go_upto_region 10 with fail
          go_wp2_with fail
          obtain ⟨w3a, hw3⟩ : ∃ w3, w3 = (wc.alloc (.cells #[.int .i64 3] 3)).alloc (.cells #[.int .i64 wt] 3) := ⟨_, rfl⟩
          obtain ⟨b3a, hb3⟩ : ∃ b3, b3 = wc.heap.size := ⟨_, rfl⟩
          rw [← hw3, ← hb3]
          have hk3 : Keeps [] wc w3a := by rw [hw3]; exact ((Keeps.refl _ _).alloc _).alloc _
          have hx3 : w3a.heap[b3a]? = some (.cells (ints [3]).toArray 3 (0, 0)) := by rw [hw3, hb3, Below.heap_alloc _ _ _ (by simp)]; exact heap_alloc_new _ _
          have hx4 : w3a.heap[b3a + 1]? = some (.cells (ints [wt]).toArray 3 (0, 0)) := by
            rw [hw3, hb3]
            have := heap_alloc_new (wc.alloc (.cells #[.int .i64 3] 3)) (.cells #[.int .i64 wt] 3)
            rwa [World.size_alloc] at this
          have HQ3a := Go.Lib.hid (HQ.out.new hk3)
          have HP := Go.Lib.hid (fun c0 c1 => q_put (c0 := c0) (c1 := c1) (n := 1) (k := 1) (e := ⟨5, 100, 0, 0, 0, 0⟩) (cl := [3]) (ws := [wt]) HQ3a.out.own rfl rfl (Nums.of_block hx3) (Nums.of_block hx4) (Rising.one (by omega) (by omega) (by omega) w2') (by simp) (by simp) (by simp) (by simp) (by simp [zeros]))
          clear hw3 hb3 hx3 hx4 hk3
          refine (HP.out _ _).mono ?_
          rintro e w4a ⟨rfl, hq4, hb4⟩
          have HQ4a : Hid (Rq w0 q (rm wt 0) zeros w4a) := HQ3a.out.bk hb4 (row_back hq4 rfl rfl)
          clear hq4 hb4 HP HQ3a
          go_wp2_with fail
          refine (num _ _).mono ?_
          rintro e w' ⟨rfl, rfl⟩
          go_wp2_with fail
          refine (q_ready HQ4a.out.own (now := 100 + wt - 1) (by omega) (by omega)).mono ?_
          rintro e wrb ⟨v, rfl, hrow, hkr⟩
          rw [r_before wt w1' w2'] at hrow
          obtain ⟨Ab, ccb, rfl, hN⟩ := Nums.of_row hrow
          have HNb := Go.Lib.hid hN
          have HQrb : Hid (Rq w0 q (rm wt 0) zeros wrb) := HQ4a.out.new hkr
          clear hrow hkr hN
          go_wp2_with fail
          refine (q_ready HQrb.out.own (now := 100 + wt) (by omega) (by omega)).mono ?_
          rintro e wrc ⟨v, rfl, hrow, hkr⟩
          rw [r_at wt w1' w2'] at hrow
          obtain ⟨Ac, ccc, rfl, hN⟩ := Nums.of_row hrow
          have HNc := Go.Lib.hid hN
          have HQrc : Hid (Rq w0 q (rm wt 0) zeros wrc) := HQrb.out.new hkr
          clear hrow hkr hN
          go_wp2_with fail
          refine (num _ _).mono ?_
          rintro e w' ⟨rfl, rfl⟩
          go_wp2_with fail
          refine (num _ _).mono ?_
          rintro e w' ⟨rfl, rfl⟩
          go_wp2_with fail
          obtain ⟨wec, hwe⟩ : ∃ we, we = wrc.alloc (.cells #[.int .i64 3] 3) := ⟨_, rfl⟩
          obtain ⟨bec, hbe⟩ : ∃ be, be = wrc.heap.size := ⟨_, rfl⟩
          rw [← hwe, ← hbe]
          have hke : Keeps [] wrc wec := by rw [hwe]; exact (Keeps.refl _ _).alloc _
          have hxe : wec.heap[bec]? = some (.cells (ints [3]).toArray 3 (0, 0)) := by rw [hwe, hbe]; exact heap_alloc_new _ _
          have HEc := Go.Lib.hid (fun n m c0 c1 (hn : n = 1) (hm : m = 1) => eqnums (l := [3]) (n := n) (m := m) (c0 := c0) (c1 := c1) hn hm (HNc.out.keeps0 hke) (Nums.of_block hxe) (by simp))
          have HQec := Go.Lib.hid (HQrc.out.new hke)
          clear hwe hbe hke hxe HNc
          refine (HEc.out _ _ _ _ rfl rfl).mono ?_
          rintro e wfc ⟨rfl, hkf⟩
          have HQfc := Go.Lib.hid (HQec.out.new hkf)
          clear hkf HEc HQec
          go_upto_region 17 with fail
          go_loopw [10] (fun si wx => ∃ j i : Nat, si = .int .i64 j ∧ Hid (j = i + 1) ∧ j ≤ 8 ∧ Hid (Rq w0 q (rm wt i) zeros wx)) (fun si _ => 8 - (intOf si).toNat)
          case atStart => exact ⟨1, 0, rfl, rfl, by omega, HQfc⟩
          case round =>
            clear HQfc HQrc HQrb HQ4a
            obtain ⟨j, i, rfl, HJ, hj8, HQ⟩ := hrel
            by_cases hltj : j < 8
            · have j1 : decide (j < 8) = true := decide_eq_true hltj
              have j2 : decide ((j : Int) < 8) = true := decide_eq_true (by omega)
              have hi7 : i < 7 := by have := HJ.out; omega
              go_wp2_with fail
              refine (q_ready HQ.out.own (now := 100) (by omega) (by omega)).mono ?_
              rintro e wrd ⟨v, rfl, hrow, hkr⟩
              rw [r_few wt i w1' w2' hi7] at hrow
              obtain ⟨Ad, ccd, rfl, hN⟩ := Nums.of_row hrow
              have HNd := Go.Lib.hid hN
              have HQrd : Hid (Rq w0 q (rm wt i) zeros wrd) := HQ.out.new hkr
              clear hrow hkr hN
              go_wp2_with fail
              obtain ⟨w3d, hw3⟩ : ∃ w3, w3 = (wrd.alloc (.cells #[.int .i64 3, .int .i64 6] 3)).alloc (.cells #[.int .i64 60000, .int .i64 60000] 3) := ⟨_, rfl⟩
              obtain ⟨b3d, hb3⟩ : ∃ b3, b3 = wrd.heap.size := ⟨_, rfl⟩
              rw [← hw3, ← hb3]
              have hk3 : Keeps [] wrd w3d := by rw [hw3]; exact ((Keeps.refl _ _).alloc _).alloc _
              have hx3 : w3d.heap[b3d]? = some (.cells (ints [3, 6]).toArray 3 (0, 0)) := by rw [hw3, hb3, Below.heap_alloc _ _ _ (by simp)]; exact heap_alloc_new _ _
              have hx4 : w3d.heap[b3d + 1]? = some (.cells (ints [60000, 60000]).toArray 3 (0, 0)) := by
                rw [hw3, hb3]
                have := heap_alloc_new (wrd.alloc (.cells #[.int .i64 3, .int .i64 6] 3)) (.cells #[.int .i64 60000, .int .i64 60000] 3)
                rwa [World.size_alloc] at this
              have HQ3d := Go.Lib.hid (HQrd.out.new hk3)
              have HP := Go.Lib.hid (fun c0 c1 => q_put (c0 := c0) (c1 := c1) (n := 2) (k := 2) (e := ⟨5, 100, 0, 0, 0, 0⟩) (cl := [3, 6]) (ws := [60000, 60000]) HQ3d.out.own rfl rfl (Nums.of_block hx3) (Nums.of_block hx4) rising_36 (by simp) (by simp) (by simp) (by simp) (by simp [zeros]))
              clear hw3 hb3 hx3 hx4 hk3
              refine (HP.out _ _).mono ?_
              rintro e w4d ⟨rfl, hq4, hb4⟩
              have HQ4d : Hid (Rq w0 q (rm wt (i + 1)) zeros w4d) := HQ3d.out.bk hb4 (row_back hq4 (rm_put wt i hi7).1 (rm_put wt i hi7).2)
              clear hq4 hb4 HP HQ3d
              go_wp2_with fail
              refine (num _ _).mono ?_
              rintro e w' ⟨rfl, rfl⟩
              go_wp2_with fail
              refine (num _ _).mono ?_
              rintro e w' ⟨rfl, rfl⟩
              go_wp2_with fail
              have HJ2 : Hid (j + 1 = (i + 1) + 1) := Go.Lib.hid (by have := HJ.out; omega)
              exact ⟨⟨j + 1, i + 1, by go_num, HJ2, by omega, HQ4d⟩, by simp [intOf]; omega⟩
            · have hi : i = 7 := by have := HJ.out; omega
              have HQ7 : Hid (Rq w0 q (rm wt 7) zeros wr) := by rw [← hi]; exact HQ
              have j1 : decide (j < 8) = false := decide_eq_false hltj
              have j2 : decide ((j : Int) < 8) = false := decide_eq_false (by omega)
              clear hi HQ
              go_wp2_with fail
              refine (q_ready HQ7.out.own (now := 100) (by omega) (by omega)).mono ?_
              rintro e wre ⟨v, rfl, hrow, hkr⟩
              rw [r_full wt w1' w2'] at hrow
              obtain ⟨Ae, cce, rfl, hN⟩ := Nums.of_row hrow
              have HNe := Go.Lib.hid hN
              have HQre : Hid (Rq w0 q (rm wt 7) zeros wre) := HQ7.out.new hkr
              clear hrow hkr hN
              go_wp2_with fail
              refine (num _ _).mono ?_
              rintro e w' ⟨rfl, rfl⟩
              go_wp2_with fail
              obtain ⟨wee, hwe⟩ : ∃ we, we = wre.alloc (.cells #[.int .i64 3] 3) := ⟨_, rfl⟩
              obtain ⟨bee, hbe⟩ : ∃ be, be = wre.heap.size := ⟨_, rfl⟩
              rw [← hwe, ← hbe]
              have hke : Keeps [] wre wee := by rw [hwe]; exact (Keeps.refl _ _).alloc _
              have hxe : wee.heap[bee]? = some (.cells (ints [3]).toArray 3 (0, 0)) := by rw [hwe, hbe]; exact heap_alloc_new _ _
              have HEe := Go.Lib.hid (fun n m c0 c1 (hn : n = 1) (hm : m = 1) => eqnums (l := [3]) (n := n) (m := m) (c0 := c0) (c1 := c1) hn hm (HNe.out.keeps0 hke) (Nums.of_block hxe) (by simp))
              have HQee := Go.Lib.hid (HQre.out.new hke)
              clear hwe hbe hke hxe HNe
              refine (HEe.out _ _ _ _ rfl rfl).mono ?_
              rintro e wfe ⟨rfl, hkf⟩
              have HQfe := Go.Lib.hid (HQee.out.new hkf)
              clear hkf HEe HQee
              go_wp2_with fail
              refine (q_forget HQfe.out.own (c := 3) (by omega)).mono ?_
              rintro e wg ⟨rfl, hqg, hbg⟩
              have HQg : Hid (Rq w0 q (List.replicate 7 g3) zeros wg) := HQfe.out.bk hbg (row_back hqg (r_forget wt).1 (r_forget wt).2)
              clear hqg hbg
              go_wp2_with fail
              refine (num _ _).mono ?_
              rintro e w' ⟨rfl, rfl⟩
              go_wp2_with fail
              refine (q_ready HQg.out.own (now := 1099511627776) (by omega) (by omega)).mono ?_
              rintro e wrf ⟨v, rfl, hrow, hkr⟩
              rw [r_rest.1] at hrow
              obtain ⟨Af, ccf, rfl, hN⟩ := Nums.of_row hrow
              have HNf := Go.Lib.hid hN
              have HQrf : Hid (Rq w0 q (List.replicate 7 g3) zeros wrf) := HQg.out.new hkr
              clear hrow hkr hN
              go_wp2_with fail
              refine (q_Pending HQrf.out.own (c := 3) (by omega)).mono ?_
              rintro e wp ⟨rfl, hkp⟩
              rw [r_rest.2]
              have HQp := Go.Lib.hid (HQrf.out.new hkp)
              have HNf := Go.Lib.hid (HNf.out.keeps0 hkp)
              clear hkp
              go_wp2_with fail
              refine (num _ _).mono ?_
              rintro e w' ⟨rfl, rfl⟩
              go_wp2_with fail
              refine (num _ _).mono ?_
              rintro e w' ⟨rfl, rfl⟩
              go_wp2_with fail
              obtain ⟨wef, hwe⟩ : ∃ we, we = wp.alloc (.cells #[.int .i64 6] 3) := ⟨_, rfl⟩
              obtain ⟨bef, hbe⟩ : ∃ be, be = wp.heap.size := ⟨_, rfl⟩
              rw [← hwe, ← hbe]
              have hke : Keeps [] wp wef := by rw [hwe]; exact (Keeps.refl _ _).alloc _
              have hxe : wef.heap[bef]? = some (.cells (ints [6]).toArray 3 (0, 0)) := by rw [hwe, hbe]; exact heap_alloc_new _ _
              have HEf := Go.Lib.hid (fun n m c0 c1 (hn : n = 1) (hm : m = 1) => eqnums (l := [6]) (n := n) (m := m) (c0 := c0) (c1 := c1) hn hm (HNf.out.keeps0 hke) (Nums.of_block hxe) (by simp))
              have HQef := Go.Lib.hid (HQp.out.new hke)
              clear hwe hbe hke hxe HNf
              refine (HEf.out _ _ _ _ rfl rfl).mono ?_
              rintro e wff ⟨rfl, hkf⟩
              have HQff := Go.Lib.hid (HQef.out.new hkf)
              clear hkf HEf HQef
              go_wp2_with fail
              refine (q_len HQff.out.own).mono ?_
              rintro e w' ⟨rfl, rfl⟩
              rw [show ((List.replicate 7 g3).length : Int) = 7 from rfl]
              have HKF := Go.Lib.hid (HK.out.trans HQff.out.keeps)
              go_wp2_with fail
              exact ⟨⟨k + 1, by go_num, by omega, by omega, HKF⟩, by simp [intOf]; omega⟩
    · have hno : (decide (k < len0) = false) ∨ (decide (k < len0) = true ∧ decide (k < 6) = false ∧ decide ((k : Int) < 6) = false) := by
        by_cases h1 : k < len0
        · exact .inr ⟨decide_eq_true h1, decide_eq_false (by omega), decide_eq_false (by omega)⟩
        · exact .inl (decide_eq_false h1)
      rcases hno with d1 | ⟨d1, d2, d3⟩
      all_goals
        go_wp2_with fail
        refine HW.out.mono ?_
        rintro e w' ⟨rfl, hkw⟩
        have HF := Go.Lib.hid (HK.out.trans hkw)
        clear hkw
        go_wp2_with fail
        go_ret
        exact ⟨rfl, HF.out⟩
end Go.Proofs.Ytldnnkceeeinlaa
