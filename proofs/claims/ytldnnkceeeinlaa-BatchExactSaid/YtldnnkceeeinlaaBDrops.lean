/- The walk of BatchDrops: over every script that lies in memory it returns true. No condition. -/
import Derived.Test.YtldnnkceeeinlaaBDropsM
import Derived.Test.YtldnnkceeeinlaaWMore
namespace Go.Proofs.Ytldnnkceeeinlaa
open Go.RowKit

theorem row_back {B q : Nat} {w : World} {m : List It} {lost : List Int} (h : QL B w q m lost) {m' : List It} {lost' : List Int} (e1 : m = m') (e2 : lost = lost') : QL B w q m' lost' := by
  subst e1 e2
  exact h

/-- What is kept through the law: the queue, the row of two clients. -/
structure Dr (w : World) (q b : Nat) (m : List It) (lost : List Int) (W : World) : Prop where
  own : QL w.heap.size W q m lost
  keeps : Keeps [] w W
  both : W.heap[b]? = some (.cells (ints [1, 4]).toArray 3 (0, 0))
theorem Dr.new {w W W' : World} {q b : Nat} {m : List It} {lost : List Int} (h : Dr w q b m lost W) (hk : Keeps [] W W') : Dr w q b m lost W' := ⟨h.own.new hk, h.keeps.trans hk, hk.heap h.both (by simp)⟩
theorem Dr.bk {w W W' : World} {q b : Nat} {m m' : List It} {lost lost' : List Int} (h : Dr w q b m lost W) (hb : BK w.heap.size W W') (hq : QL w.heap.size W' q m' lost') : Dr w q b m' lost' W' := ⟨hq, hb.keeps h.keeps (Nat.le_refl _), hb.keep _ _ h.both (.inr rfl)⟩

theorem rising_both : Rising [1, 4] [0, 0] := by
  refine ⟨rfl, fun i hi => ?_⟩
  rcases (show i = 0 ∨ i = 1 by simp at hi; omega) with rfl | rfl
  · exact ⟨1, 0, rfl, rfl, by omega, by omega, by omega, by omega, fun y hy => by omega⟩
  · exact ⟨4, 0, rfl, rfl, by omega, by omega, by omega, by omega, fun y _ hy => by
      obtain rfl : 1 = y := by simpa using hy
      omega⟩
theorem Addr.add_zero' (a : Addr) : (⟨(a.add 0).block, (a.add 0).off + 9, none⟩ : Addr) = ⟨a.block, a.off + 9, none⟩ := by
  unfold Addr.add
  split <;> simp_all
attribute [local go_sem] YtldnnkceeeinlaaW.PrintMore.max2_int YtldnnkceeeinlaaW.PrintMore.max_two
set_option maxHeartbeats 4000000 in
set_option maxRecDepth 100000 in
theorem drops {A : Option Addr} {len0 cap0 : Nat} {l : List Act} (hlen : len0 = l.length) (w : World) (hl : Acts w A l) :
    Calls Try.prog 3 #[.slice A len0 cap0] w fun e w' => e = .returned (.bool true) ∧ Keeps [] w w' := by
  have HL := Go.Lib.hid hlen
  have HA := Go.Lib.hid hl
  clear hlen hl
  go_enter Try.func3, Try.ntmps3
  go_wp2_with fail
  refine (q_new _).mono ?_
  rintro e w1 ⟨q, rfl, hq, hk⟩
  have HQ := Go.Lib.hid hq
  have HK := Go.Lib.hid hk
  clear hq hk
  go_upto_region 5 with fail
  obtain ⟨w2, hw2⟩ : ∃ w2, w2 = w1.alloc (.cells #[.int .i64 1, .int .i64 4] 3) := ⟨_, rfl⟩
  obtain ⟨b, hb⟩ : ∃ b, b = w1.heap.size := ⟨_, rfl⟩
  rw [← hw2, ← hb]
  have hk2 : Keeps [] w1 w2 := by rw [hw2]; exact (Keeps.refl _ _).alloc _
  have HD : Hid (Dr w q b (fm 0) zeros w2) := ⟨HQ.out.new hk2, HK.out.trans hk2, by rw [hw2, hb]; exact heap_alloc_new _ _⟩
  clear hw2 hb hk2 HQ HK
  go_upto_region 6 with fail
  go_loopw [5] (fun i wr => ∃ k : Nat, i = .int .i64 k ∧ k ≤ 64 ∧ Hid (Dr w q b (fm k) zeros wr)) (fun i _ => 64 - (intOf i).toNat)
  case atStart => exact ⟨0, rfl, by omega, HD⟩
  case round =>
    clear HD
    obtain ⟨k, rfl, hk, HD⟩ := hrel
    by_cases hlt : k < 64
    · have d1 : decide (k < 64) = true := decide_eq_true hlt
      have d2 : decide ((k : Int) < 64) = true := decide_eq_true (by omega)
      go_wp2_with fail
      obtain ⟨w3, hw3⟩ : ∃ w3, w3 = wr.alloc (.cells #[.int .i64 0, .int .i64 0] 3) := ⟨_, rfl⟩
      obtain ⟨b3, hb3⟩ : ∃ b3, b3 = wr.heap.size := ⟨_, rfl⟩
      rw [← hw3, ← hb3]
      have hk3 : Keeps [] wr w3 := by rw [hw3]; exact (Keeps.refl _ _).alloc _
      have hx3 : w3.heap[b3]? = some (.cells (ints [0, 0]).toArray 3 (0, 0)) := by rw [hw3, hb3]; exact heap_alloc_new _ _
      have HD3 := Go.Lib.hid (HD.out.new hk3)
      have HP := Go.Lib.hid (fun c0 c1 => q_put (c0 := c0) (c1 := c1) (n := 2) (k := 2) (e := ⟨5, k, 0, 0, 0, 0⟩) (cl := [1, 4]) (ws := [0, 0]) HD3.out.own rfl rfl (Nums.of_block HD3.out.both) (Nums.of_block hx3) rising_both (by decide) (by decide) (show (0 : Int) ≤ k by omega) (show (k : Int) ≤ 1099511627776 by omega) (by simp [zeros]))
      clear hw3 hb3 hx3 hk3
      refine (HP.out _ _).mono ?_
      rintro e w4 ⟨rfl, hq4, hb4⟩
      have HN : Hid (Dr w q b (fm (k + 1)) zeros w4) := HD3.out.bk hb4 (row_back hq4 (fm_put k hlt).1 (fm_put k hlt).2)
      clear hq4 hb4 HP HD3
      go_wp2_with fail
      refine (num _ _).mono ?_
      rintro e w' ⟨rfl, rfl⟩
      go_wp2_with fail
      exact ⟨⟨k + 1, by go_num, by omega, HN⟩, by simp [intOf]; omega⟩
    · obtain rfl : k = 64 := by omega
      have HD1 : Hid (Dr w q b (dm 0) zeros wr) := by rw [← fm_dm]; exact HD
      have hlen1 : ((dm 0).length : Int) = 64 := by rw [show (dm 0).length = 64 from by simp [dm]]; rfl
      clear HD
      go_wp2_with fail
      refine (q_losses HD1.out.own (c := 1) (x := 0) rfl).mono ?_
      rintro e w' ⟨rfl, rfl⟩
      go_wp2_with fail
      refine (num _ _).mono ?_
      rintro e w' ⟨rfl, rfl⟩
      go_wp2_with fail
      refine (q_len HD1.out.own).mono ?_
      rintro e w' ⟨rfl, rfl⟩
      rw [hlen1]
      go_upto_if 54 with fail
      go_cut [8] from 54 to 60 (fun s8 wx => (∃ kk : Nat, s8 = .int .i64 kk ∧ kk < 6) ∧ wx = wr)
      case first =>
        by_cases hl0 : 0 < len0
        · have d1 : decide (0 < len0) = true := decide_eq_true hl0
          have d2 : decide ((0 : Int) < len0) = true := decide_eq_true (by omega)
          obtain ⟨x, hx⟩ : ∃ x, l[0]? = some x := ⟨_, List.getElem?_eq_getElem (by have := HL.out; omega)⟩
          obtain ⟨a, rfl, ha⟩ := (HA.out.keeps HD1.out.keeps) 0 x hx
          have h9 : wr.cell? ⟨a.block, a.off + 9, none⟩ = some (.int .i64 x.n) := by
            have := ha.n
            rwa [fld, Nat.zero_mul, Addr.add_zero'] at this
          have hwr := wthn_range x.n (n := 6) (by omega)
          obtain ⟨kk, hkk⟩ : ∃ kk : Nat, wthn x.n 6 = kk := ⟨(wthn x.n 6).toNat, by omega⟩
          have HKK := Go.Lib.hid hkk
          have hk6 : kk < 6 := by omega
          clear ha hx hwr hkk
          go_wp2_with fail
          refine (within x.n 6 (by omega) (by omega) _).mono ?_
          rintro e w' ⟨rfl, rfl⟩
          rw [HKK.out]
          go_wp2
          go_meet
          case rel => exact ⟨⟨kk, rfl, hk6⟩, rfl⟩
        · obtain rfl : len0 = 0 := by omega
          go_wp2
          go_meet
          case rel => exact ⟨⟨0, rfl, by omega⟩, rfl⟩
      case rest =>
        obtain ⟨⟨kk, rfl, hk6⟩, rfl⟩ := hcut
        clear hlen1
        go_upto_region 17 with fail
        go_loopw [9] (fun i wr => ∃ j : Nat, i = .int .i64 j ∧ j ≤ kk ∧ Hid (Dr w q b (dm j) zeros wr)) (fun i _ => kk - (intOf i).toNat)
        case atStart => exact ⟨0, rfl, by omega, HD1⟩
        case round =>
          clear HD1
          obtain ⟨j, rfl, hj, HD⟩ := hrel
          by_cases hlt : j < kk
          · have d1 : decide (j < kk) = true := decide_eq_true hlt
            have d2 : decide ((j : Int) < kk) = true := decide_eq_true (by omega)
            go_wp2_with fail
            refine (q_take HD.out.own (c := 1) (k := 1) (z := 0) (by omega) (by omega) (by omega) rfl).mono ?_
            rintro e w4 ⟨v, rfl, hrow, hq4, hb4⟩
            obtain ⟨t1, t2⟩ := dm_take j (by omega)
            obtain ⟨g, cp, rfl, hcell⟩ := row_one hrow (e := ⟨5, j, 0, 0, 0, 0⟩) (by rw [t1]; rfl) (by rw [t1]; simp)
            have ht := hcell 1 (.int .i64 j) rfl
            have HN : Hid (Dr w q b (dm (j + 1)) zeros w4) := HD.out.bk hb4 (row_back hq4 (by rw [t1]; exact t2) rfl)
            clear hrow hq4 hb4 t1 t2 hcell
            go_upto_region 20 with fail
            obtain ⟨w5, hw5⟩ : ∃ w5, w5 = w4.alloc (.cells #[.int .i64 1, .int .i64 0, .slice (some ⟨g, 0, none⟩) (1 : Nat) cp] 40) := ⟨_, rfl⟩
            obtain ⟨b5, hb5⟩ : ∃ b5, b5 = w4.heap.size := ⟨_, rfl⟩
            rw [← hw5, ← hb5]
            have hk5 : Keeps [] w4 w5 := by rw [hw5]; exact (Keeps.refl _ _).alloc _
            have HN5 := Go.Lib.hid (HN.out.new hk5)
            have ht5 := hk5.cell ht (by simp)
            have hp5 : w5.cell? ⟨b5, 2, none⟩ = some (.slice (some ⟨g, 0, none⟩) (1 : Nat) cp) := by rw [hw5, hb5]; exact (cell_at (heap_alloc_new _ _) rfl).1
            clear hw5 hk5 hb5 ht HN
            go_wp2_with fail
            refine (num _ _).mono ?_
            rintro e w' ⟨rfl, rfl⟩
            go_wp2_with fail
            exact ⟨⟨j + 1, by go_num, by omega, HN5⟩, by simp [intOf]; omega⟩
          · obtain rfl : j = kk := by omega
            have HD2 : Hid (Dr w q b (gm j 0) (gl j 0) wr) := by rw [← dm_gm, ← gl_zero]; exact HD
            clear HD
            go_upto_region 23 with fail
            go_loopw [12] (fun i wr => ∃ r : Nat, i = .int .i64 r ∧ r ≤ 3 ∧ Hid (Dr w q b (gm j r) (gl j r) wr)) (fun i _ => 3 - (intOf i).toNat)
            case atStart => exact ⟨0, rfl, by omega, HD2⟩
            case round =>
              clear HD2
              obtain ⟨r, rfl, hr, HD⟩ := hrel
              by_cases hlt : r < 3
              · have d1 : decide (r < 3) = true := decide_eq_true hlt
                have d2 : decide ((r : Int) < 3) = true := decide_eq_true (by omega)
                go_wp2_with fail
                obtain ⟨w3, hw3⟩ : ∃ w3, w3 = (wr.alloc (.cells #[.int .i64 6] 3)).alloc (.cells #[.int .i64 0] 3) := ⟨_, rfl⟩
                obtain ⟨b3, hb3⟩ : ∃ b3, b3 = wr.heap.size := ⟨_, rfl⟩
                rw [← hw3, ← hb3]
                have hk3 : Keeps [] wr w3 := by rw [hw3]; exact ((Keeps.refl _ _).alloc _).alloc _
                have hx3 : w3.heap[b3]? = some (.cells (ints [6]).toArray 3 (0, 0)) := by rw [hw3, hb3, Below.heap_alloc _ _ _ (by simp)]; exact heap_alloc_new _ _
                have hx4 : w3.heap[b3 + 1]? = some (.cells (ints [0]).toArray 3 (0, 0)) := by
                  rw [hw3, hb3]
                  have := heap_alloc_new (wr.alloc (.cells #[.int .i64 6] 3)) (.cells #[.int .i64 0] 3)
                  rwa [World.size_alloc] at this
                have HD3 := Go.Lib.hid (HD.out.new hk3)
                have HP := Go.Lib.hid (fun c0 c1 => q_put (c0 := c0) (c1 := c1) (n := 1) (k := 1) (e := ⟨5, 99, 0, 0, 0, 0⟩) (cl := [6]) (ws := [0]) HD3.out.own rfl rfl (Nums.of_block hx3) (Nums.of_block hx4) (Rising.one (by omega) (by omega) (by omega) (by omega)) (by decide) (by decide) (by decide) (by decide) (gl_ok j r (by omega)))
                clear hw3 hb3 hx3 hx4 hk3
                refine (HP.out _ _).mono ?_
                rintro e w4 ⟨rfl, hq4, hb4⟩
                obtain ⟨g1, g2, g3⟩ := gm_put j r hk6 hlt
                have HN : Hid (Dr w q b (gm j (r + 1)) (gl j (r + 1)) w4) := HD3.out.bk hb4 (row_back hq4 g1 g2)
                have hlen1 : ((gm j (r + 1)).length : Int) = 64 := by rw [g3]; rfl
                clear hq4 hb4 HP HD3 g1 g2 g3
                go_wp2_with fail
                refine (num _ _).mono ?_
                rintro e w' ⟨rfl, rfl⟩
                go_wp2_with fail
                refine (q_len HN.out.own).mono ?_
                rintro e w' ⟨rfl, rfl⟩
                rw [hlen1]
                go_wp2_with fail
                exact ⟨⟨r + 1, by go_num, by omega, HN⟩, by simp [intOf]; omega⟩
              · obtain rfl : r = 3 := by omega
                have HW := Go.Lib.hid (wakes wr)
                have hz : (∃ z : Int, z = 3 - j ∧ 0 < z ∧ (gl j 3)[1]? = some z) ∨ (3 - (j : Int) ≤ 0 ∧ (gl j 3)[1]? = some 0) := by
                  by_cases hj3 : j < 3
                  · exact .inl ⟨3 - j, rfl, by omega, by rw [show (3 - (j : Int)) = ((3 - j : Nat) : Int) by omega]; rfl⟩
                  · exact .inr ⟨by omega, by rw [show (0 : Int) = ((3 - j : Nat) : Int) by omega]; rfl⟩
                rcases hz with ⟨z, hz, hz0, hgl⟩ | ⟨hz0, hgl⟩
                · rw [hz] at hgl
                  have d3 : (j : Int) < 3 := by omega
                  have d4 : ¬ (3 ≤ (j : Int)) := by omega
                  clear hz
                  go_wp2_with fail
                  refine (q_losses HD.out.own (c := 1) hgl).mono ?_
                  rintro e w' ⟨rfl, rfl⟩
                  clear hgl
                  go_wp2_with fail
                  refine (q_losses HD.out.own (c := 4) (x := 3) rfl).mono ?_
                  rintro e w' ⟨rfl, rfl⟩
                  go_wp2_with fail
                  refine (q_losses HD.out.own (c := 6) (x := 0) rfl).mono ?_
                  rintro e w' ⟨rfl, rfl⟩
                  go_wp2_with fail
                  refine (num _ _).mono ?_
                  rintro e w' ⟨rfl, rfl⟩
                  go_wp2_with fail
                  refine (num _ _).mono ?_
                  rintro e w' ⟨rfl, rfl⟩
                  go_wp2_with fail
                  refine (num _ _).mono ?_
                  rintro e w' ⟨rfl, rfl⟩
                  go_wp2_with fail
                  refine HW.out.mono ?_
                  rintro e w' ⟨rfl, hkw⟩
                  go_wp2
                  go_ret
                  exact ⟨rfl, HD.out.keeps.trans hkw⟩
                · have d3 : 3 ≤ (j : Int) := by omega
                  have d4 : ¬ ((j : Int) < 3) := by omega
                  go_wp2_with fail
                  refine (q_losses HD.out.own (c := 1) hgl).mono ?_
                  rintro e w' ⟨rfl, rfl⟩
                  clear hgl
                  go_wp2_with fail
                  refine (q_losses HD.out.own (c := 4) (x := 3) rfl).mono ?_
                  rintro e w' ⟨rfl, rfl⟩
                  go_wp2_with fail
                  refine (q_losses HD.out.own (c := 6) (x := 0) rfl).mono ?_
                  rintro e w' ⟨rfl, rfl⟩
                  go_wp2_with fail
                  refine (num _ _).mono ?_
                  rintro e w' ⟨rfl, rfl⟩
                  go_wp2_with fail
                  refine (num _ _).mono ?_
                  rintro e w' ⟨rfl, rfl⟩
                  go_wp2_with fail
                  refine (num _ _).mono ?_
                  rintro e w' ⟨rfl, rfl⟩
                  go_wp2_with fail
                  refine HW.out.mono ?_
                  rintro e w' ⟨rfl, hkw⟩
                  go_wp2
                  go_ret
                  exact ⟨rfl, HD.out.keeps.trans hkw⟩
end Go.Proofs.Ytldnnkceeeinlaa
