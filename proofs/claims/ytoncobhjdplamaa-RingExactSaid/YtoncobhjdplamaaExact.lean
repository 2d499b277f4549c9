/- The walk of RingExact: over every script that lies in memory it returns true. No condition. -/
import Derived.Test.YtoncobhjdplamaaOrder
import Derived.Test.YtoncobhjdplamaaSnoc
import Derived.Deep.CutBlock
import Derived.Deep.CutRange
namespace Go.Proofs.Ytoncobhjdplamaa
open Go.RowKit RPair

theorem Sees.tail {S : List Nat} {W : World} {sb so m cap : Nat} {y : Pr} {t : List Pr} (h : Sees S W (.slice (some ⟨sb, so, none⟩) m cap) (y :: t)) : Sees S W (.slice (some ⟨sb, so + 2, none⟩) t.length (cap - 1)) t := by
  cases h with
  | cons b o cap L hc h =>
    refine .cons sb (so + 2) (cap - 1) t (by simp at hc; omega) ⟨h.out, fun i x hx => ?_⟩
    have := h.cell (i + 1) x (by simpa using hx)
    rwa [show so + (i + 1) * 2 = so + 2 + i * 2 by omega] at this

theorem Sees.tail0 {S S' : List Nat} {W W' : World} {a' : Option Addr} {sb so m cap q : Nat} {y : Pr} {t : List Pr} (h : Sees S W (.slice (some ⟨sb, so, none⟩) m cap) (y :: t)) (hq : cap - 1 = 0) : Sees S' W' (.slice a' t.length q) t := by
  cases h with
  | cons b o cap L hc h =>
    have : t = [] := List.eq_nil_of_length_eq_zero (by simp at hc; omega)
    subst this
    exact .nil _ _

theorem Sees.tailIf {S : List Nat} {W : World} {sb so m cap q : Nat} {y : Pr} {t : List Pr} (h : Sees S W (.slice (some ⟨sb, so, none⟩) m cap) (y :: t)) (hq : q = t.length) :
    Sees S W (.slice (if cap = 1 then some ⟨sb, so, none⟩ else some ⟨sb, so + 2, none⟩) q (cap - 1)) t := by
  subst hq
  by_cases hc : cap = 1
  · rw [if_pos hc]; exact h.tail0 (by omega)
  · rw [if_neg hc]; exact h.tail

/-- What the loop holds: the ring and the list beside it hold the same things. -/
structure InvE (wB : World) (g h c n : Nat) (k : Nat) (v : Value) (wr : World) : Prop where
  k60 : k ≤ 60
  ring : ∃ L, Is wr g h c n L ∧ Sees [g, h, c] wr v L
  keeps : Keeps [] wB wr

/-- .. inside a round: the act's boxes beside. -/
structure InvR (wB : World) (g h c n b7 b8 : Nat) (x : Act) (v : Value) (L : List Pr) (W : World) : Prop where
  ring : Is W g h c n L
  sees : Sees [g, h, c] W v L
  keeps : Keeps [] wB W
  box7 : W.heap[b7]? = some (.cells #[.int .i64 x.d, .int .i64 x.n, .string x.s] 35 (0, 0))
  box8 : W.heap[b8]? = some (.cells #[.int .i64 x.n, .string x.s] 49 (0, 0))

theorem new_bad {cp : Int} (h : cp < 1 ∨ 256 < cp) (w : World) : Calls Try.prog 17 #[.int .i64 cp] w fun e w' => e = .returned (.tuple #[.pointer none, .int .i64 1]) ∧ w = w' := by
  by_cases h1 : cp < 1
  · have d1 : decide (cp < 1) = true := decide_eq_true h1
    go_enter Try.func17, Try.ntmps17
    go_wp2
    go_ret2
    exact ⟨rfl, rfl⟩
  · have d1 : decide (cp < 1) = false := decide_eq_false h1
    have d2 : decide (256 < cp) = true := decide_eq_true (by omega)
    go_enter Try.func17, Try.ntmps17
    go_wp2
    go_ret2
    exact ⟨rfl, rfl⟩

attribute [local go_sem] Oper.semAt_some YtoncobhjdplamaaW.PrintMore.min2_int YtoncobhjdplamaaW.PrintMore.min_two

set_option maxHeartbeats 40000000 in
set_option maxRecDepth 100000 in
theorem ring_exact {A : Option Addr} {len0 cap0 : Nat} {cp : Int} {l : List Act} (hlen : len0 = l.length) (w : World) (hl : Acts w A l) :
    Calls Try.prog 4 #[.agg #[.int .i64 cp, .slice A len0 cap0]] w fun e w' => e = .returned (.bool true) ∧ Keeps [] w w' := by
  have HL := Go.Lib.hid hlen
  have HA := Go.Lib.hid hl
  clear hlen hl
  go_enter Try.func4, Try.ntmps4
  go_upto_region 1 with fail
  obtain ⟨wB, hwB⟩ : ∃ wB, wB = w.alloc (.cells #[.int .i64 cp, .slice A len0 cap0] 24) := ⟨_, rfl⟩
  obtain ⟨b, hb⟩ : ∃ b, b = w.heap.size := ⟨_, rfl⟩
  rw [← hwB, ← hb]
  have hb0 : wB.heap[b]? = some (.cells #[.int .i64 cp, .slice A len0 cap0] 24 (0, 0)) := by rw [hwB, hb]; exact heap_alloc_new _ _
  have hk0 : Keeps [] w wB := by rw [hwB]; exact (Keeps.refl _ _).alloc _
  have HA0 : Hid (Acts wB A l) := HA.out.keeps hk0
  have HB0 := Go.Lib.hid hb0
  have HK0 := Go.Lib.hid hk0
  obtain ⟨b0, b1⟩ : wB.cell? ⟨b, 0, none⟩ = some (.int .i64 cp) ∧ wB.cell? ⟨b, 1, none⟩ = some (.slice A len0 cap0) := ⟨(cell_at hb0 rfl).1, (cell_at hb0 rfl).1⟩
  clear hb0 hk0 hwB hb HA
  by_cases hout : cp < 1 ∨ 256 < cp
  · have HN := Go.Lib.hid (new_bad hout)
    have HWK := Go.Lib.hid wakes
    by_cases h1 : cp < 1
    · have d1 : decide (cp < 1) = true := decide_eq_true h1
      go_wp2_with fail
      refine (HN.out _).mono ?_
      rintro e w' ⟨rfl, rfl⟩
      go_wp2_with fail
      refine (num _ _).mono ?_
      rintro e w' ⟨rfl, rfl⟩
      go_wp2_with fail
      refine (HWK.out _).mono ?_
      rintro e w7 ⟨rfl, hk7⟩
      have H7 := Go.Lib.hid hk7
      clear hk7
      go_wp2
      go_ret
      exact ⟨rfl, HK0.out.trans H7.out⟩
    · have d1 : decide (cp < 1) = false := decide_eq_false h1
      have d2 : decide (256 < cp) = true := decide_eq_true (by omega)
      go_wp2_with fail
      refine (HN.out _).mono ?_
      rintro e w' ⟨rfl, rfl⟩
      go_wp2_with fail
      refine (num _ _).mono ?_
      rintro e w' ⟨rfl, rfl⟩
      go_wp2_with fail
      refine (HWK.out _).mono ?_
      rintro e w7 ⟨rfl, hk7⟩
      have H7 := Go.Lib.hid hk7
      clear hk7
      go_wp2
      go_ret
      exact ⟨rfl, HK0.out.trans H7.out⟩
  · obtain ⟨n, rfl⟩ : ∃ n : Nat, cp = n := ⟨cp.toNat, by omega⟩
    have hn0 : 0 < n := by omega
    have hn1 : n ≤ 256 := by omega
    have d1 : decide ((n : Int) < 1) = false := decide_eq_false (by omega)
    have d2 : decide ((256 : Int) < (n : Int)) = false := decide_eq_false (by omega)
    have d2' : decide (256 < n) = false := decide_eq_false (by omega)
    clear hout
    go_wp2_with fail
    refine (RPair.new_ok hn0 hn1 _).mono ?_
    rintro e w1 ⟨g, h, c, rfl, hr, hg, hh, hc, hk⟩
    have hbx := hk.heap HB0.out (by simp)
    have c0 : w1.cell? ⟨b, 0, none⟩ = some (.int .i64 n) := (cell_at hbx rfl).1
    have hlts := hr.lts
    have HI : Hid (InvE wB g h c n 0 (.slice none 0 0) w1) := ⟨by omega, ⟨[], hr, .nil _ _⟩, hk⟩
    clear hr hk b0 b1 hbx
    go_wp2_with fail
    refine (num _ _).mono ?_
    rintro e w' ⟨rfl, rfl⟩
    go_wp2_with fail
    clear c0
    go_loopw [5, 6] (fun v si wr => ∃ k : Nat, si = .int .i64 k ∧ Hid (InvE wB g h c n k v wr)) (fun _ si _ => 60 - (intOf si).toNat)
    case atStart => exact ⟨0, rfl, HI⟩
    case round =>
      clear HI
      obtain ⟨k, rfl, HI⟩ := hrel
      have hk60 : k ≤ 60 := HI.out.k60
      have hbx := HI.out.keeps.heap HB0.out (by simp)
      have b0 : wr.cell? ⟨b, 0, none⟩ = some (.int .i64 n) := (cell_at hbx rfl).1
      have b1 : wr.cell? ⟨b, 1, none⟩ = some (.slice A len0 cap0) := (cell_at hbx rfl).1
      clear hbx
      go_upto_region 8 with fail
      go_cut [56] from 48 to 56 (fun s56 wx => s56 = .bool (decide (k < len0 ∧ k < 60)) ∧ wx = wr)
      case first =>
        have dd : decide (k < len0) = false ∧ decide (k < len0 ∧ k < 60) = false ∨ decide (k < len0) = true ∧ decide ((k : Int) < 60) = false ∧ decide (k < len0 ∧ k < 60) = false ∨ decide (k < len0) = true ∧ decide ((k : Int) < 60) = true ∧ decide (k < len0 ∧ k < 60) = true := by
          by_cases h1 : k < len0
          · by_cases h2 : k < 60
            · exact .inr (.inr ⟨decide_eq_true h1, decide_eq_true (by omega), decide_eq_true ⟨h1, h2⟩⟩)
            · exact .inr (.inl ⟨decide_eq_true h1, decide_eq_false (by omega), decide_eq_false (fun h => h2 h.2)⟩)
          · exact .inl ⟨decide_eq_false h1, decide_eq_false (fun h => h1 h.1)⟩
        rcases dd with ⟨d1, d3⟩ | ⟨d1, d2, d3⟩ | ⟨d1, d2, d3⟩
        all_goals
          have D3 := Go.Lib.hid d3
          clear d3
          go_wp2
          go_meet
          case rel => exact ⟨by rw [D3.out], rfl⟩
      case rest =>
        obtain ⟨rfl, rfl⟩ := hcut
        by_cases hlt : k < len0 ∧ k < 60
        · have d3 : decide (k < len0 ∧ k < 60) = true := decide_eq_true hlt
          rw [d3]
          obtain ⟨hlt, hk6⟩ := hlt
          obtain ⟨x, hx⟩ : ∃ x, l[k]? = some x := ⟨_, List.getElem?_eq_getElem (by have := HL.out; omega)⟩
          obtain ⟨a, rfl, x0, x1, x2⟩ := (HA0.out.keeps HI.out.keeps) k x hx
          clear hx d3
          have d4 : decide (k < len0) = true := decide_eq_true hlt
          go_upto_region 11 with fail
          obtain ⟨b7, hb7⟩ : ∃ b7, b7 = wc.heap.size := ⟨_, rfl⟩
          obtain ⟨w2, hw2⟩ : ∃ w2, w2 = wc.alloc (.cells #[.int .i64 x.d, .int .i64 x.n, .string x.s] 35) := ⟨_, rfl⟩
          rw [← hw2, ← hb7]
          have hx7 : w2.heap[b7]? = some (.cells #[.int .i64 x.d, .int .i64 x.n, .string x.s] 35 (0, 0)) := by rw [hw2, hb7]; exact heap_alloc_new _ _
          have hk2 : Keeps [] wc w2 := by rw [hw2]; exact (Keeps.refl _ _).alloc _
          obtain ⟨p0, p1, p2, _⟩ := cells3 hx7
          have hgb : g < b7 ∧ h < b7 ∧ c < b7 := by obtain ⟨_, hring, _⟩ := HI.out.ring; have := hring.lts; omega
          have hB7 : wB.heap.size ≤ b7 := by have := HI.out.keeps.size; omega
          have HK2 := Go.Lib.hid hk2
          have HX7 := Go.Lib.hid hx7
          clear hw2 hb7 hk2 hx7
          go_upto_region 12 with fail
          have hk2 := HK2.out
          have hx7 := HX7.out
          obtain ⟨b8, hb8⟩ : ∃ b8, b8 = w2.heap.size := ⟨_, rfl⟩
          obtain ⟨w3, hw3⟩ : ∃ w3, w3 = w2.alloc (.cells #[.int .i64 x.n, .string x.s] 49) := ⟨_, rfl⟩
          rw [← hw3, ← hb8]
          have hk3 : Keeps [] wc w3 := by rw [hw3]; exact hk2.alloc _
          have hx8 : w3.heap[b8]? = some (.cells #[.int .i64 x.n, .string x.s] 49 (0, 0)) := by rw [hw3, hb8]; exact heap_alloc_new _ _
          obtain ⟨L, hring, hsees⟩ := HI.out.ring
          have HR : Hid (InvR wB g h c n b7 b8 x u5 L w3) := ⟨hring.keeps hk3 (by simp) (by simp) (by simp), hsees.keeps hk3 (by simp), HI.out.keeps.trans hk3, by rw [hw3, Below.heap_alloc _ _ _ (lt_of_block hx7)]; exact hx7, hx8⟩
          have hs8 := lt_of_block hx7
          have h78 : b7 < b8 := by omega
          clear p0 p1 p2 x0 x1 x2 hx7 hx8 hw3 hb8 hk2 hk3 HI hring hsees hs8 b0 b1 HK2 HX7
          obtain ⟨p0, p1, p2, _⟩ := cells3 HR.out.box7
          obtain ⟨r0, r1, _⟩ := cells2 HR.out.box8
          have b0 : w3.cell? ⟨b, 0, none⟩ = some (.int .i64 n) := (cell_at (HR.out.keeps.heap HB0.out (by simp)) rfl).1
          have hwr := wthn_range x.d (n := 8) (by omega)
          go_upto_block 2 with fail
          have hwi := Go.Lib.hid (within x.d 8 (by omega) (by omega) w3)
          refine hwi.out.mono ?_
          clear hwi
          rintro e w' ⟨rfl, rfl⟩
          go_upto_block 2 with fail
          obtain ⟨av, cv, rfl⟩ := HR.out.sees.len
          go_cut [5] from 71 to 207 (fun v' wx => ∃ L', Hid (Is wx g h c n L' ∧ Sees [g, h, c] wx v' L' ∧ Keeps [] wB wx))
          case first =>
            rcases (show wthn x.d 8 = 3 ∨ wthn x.d 8 = 4 ∨ wthn x.d 8 = 5 ∨ wthn x.d 8 = 6 ∨ wthn x.d 8 = 7 ∨ (wthn x.d 8 ≠ 3 ∧ wthn x.d 8 ≠ 4 ∧ wthn x.d 8 ≠ 5 ∧ wthn x.d 8 ≠ 6 ∧ wthn x.d 8 ≠ 7) by omega) with hq | hq | hq | hq | hq | hq
            · as_aux_lemma =>
                rw [hq]
                clear hq hwr
                cases L with
                | nil =>
                  go_wp2_with fail
                  refine (RPair.pop_none HR.out.ring).mono ?_
                  rintro e w4 ⟨rfl, hk4⟩
                  have H4 := Go.Lib.hid hk4
                  clear hk4
                  unfold zero
                  go_upto_region 21 with fail
                  obtain ⟨b9, hb9⟩ : ∃ b9, b9 = w4.heap.size := ⟨_, rfl⟩
                  obtain ⟨w5, hw5⟩ : ∃ w5, w5 = w4.alloc (.cells #[.int .i64 0, .string ⟨#[]⟩] 49) := ⟨_, rfl⟩
                  rw [← hw5, ← hb9]
                  have hx9 : w5.heap[b9]? = some (.cells #[.int .i64 0, .string ⟨#[]⟩] 49 (0, 0)) := by rw [hw5, hb9]; exact heap_alloc_new _ _
                  have hk5 : Keeps [] w4 w5 := by rw [hw5]; exact (Keeps.refl _ _).alloc _
                  have hk35 := Go.Lib.hid (show Keeps [] w3 w5 from (show Keeps [] w3 w4 from H4.out).trans hk5)
                  obtain ⟨q0, q1, _⟩ := cells2 hx9
                  clear hx9 hk5 hw5 hb9
                  go_quiet (fail)
                  go_wp2
                  go_meet
                  case rel => exact ⟨[], HR.out.ring.keeps (hk35.out.drewN _) (by simp) (by simp) (by simp), .nil _ _, HR.out.keeps.trans (hk35.out.drewN _)⟩
                | cons y t =>
                  obtain ⟨sb, so, rfl, hsb, s0, s1⟩ := HR.out.sees.get (i := 0) (x := y) rfl
                  rw [Nat.zero_mul, Nat.add_zero] at s0 s1
                  go_wp2_with fail
                  refine (RPair.pop_some HR.out.ring).mono ?_
                  rintro e w4 ⟨rfl, hr4, hk4⟩
                  have H4 := Go.Lib.hid (And.intro hr4 hk4)
                  clear hr4 hk4
                  unfold agg
                  go_upto_region 21 with fail
                  obtain ⟨b9, hb9⟩ : ∃ b9, b9 = w4.heap.size := ⟨_, rfl⟩
                  obtain ⟨w5, hw5⟩ : ∃ w5, w5 = w4.alloc (.cells #[.int .i64 y.n, .string y.s] 49) := ⟨_, rfl⟩
                  rw [← hw5, ← hb9]
                  have hx9 : w5.heap[b9]? = some (.cells #[.int .i64 y.n, .string y.s] 49 (0, 0)) := by rw [hw5, hb9]; exact heap_alloc_new _ _
                  have hk5 : Keeps [] w4 w5 := by rw [hw5]; exact (Keeps.refl _ _).alloc _
                  have hk35' := H4.out.2.step hk5 (by simp)
                  have s0' : w5.cell? ⟨sb, so, none⟩ = some (.int .i64 y.n) := hk35'.cell s0 hsb
                  have s1' : w5.cell? ⟨sb, so + 1, none⟩ = some (.string y.s) := hk35'.cell s1 hsb
                  have hk35 := Go.Lib.hid hk35'
                  have HR5 := Go.Lib.hid (show Is w5 g h c n t from H4.out.1.keeps hk5 (by simp) (by simp) (by simp))
                  obtain ⟨q0, q1, _⟩ := cells2 hx9
                  clear hx9 hk5 hw5 hb9 s0 s1 hk35' H4
                  go_quiet (fail)
                  go_wp2
                  all_goals
                    go_meet
                    case rel => exact ⟨t, HR5.out.keeps ((Keeps.refl [] w5).drewN _) (by simp) (by simp) (by simp), (by first | exact ((HR.out.sees.tail).keeps hk35.out (by simp)).keeps ((Keeps.refl [] w5).drewN _) (by simp) | exact HR.out.sees.tail0 (by omega)), (HR.out.keeps.step hk35.out (by simp; omega)).drewN _⟩
            · as_aux_lemma =>
                rw [hq]
                clear hq hwr
                have hm0 : -((n : Int) + 2) < Int.tmod x.n ((n : Int) + 2) := Int.lt_tmod_of_pos _ (by omega)
                have hm1 : Int.tmod x.n ((n : Int) + 2) < (n : Int) + 2 := Int.tmod_lt_of_pos _ (by omega)
                go_upto_region 27 with fail
                obtain ⟨kk, hkk⟩ : ∃ kk, kk = Int.tmod x.n ((n : Int) + 2) - 1 := ⟨_, rfl⟩
                rw [← hkk]
                have hkk0 : -400 < kk := by omega
                have hkk1 : kk < 400 := by omega
                clear hkk hm0 hm1
                by_cases hin : 0 ≤ kk ∧ kk < (L.length : Int)
                · obtain ⟨j, rfl⟩ : ∃ j : Nat, kk = j := ⟨kk.toNat, by omega⟩
                  have hj : j < L.length := by omega
                  obtain ⟨y, hy⟩ : ∃ y, L[j]? = some y := ⟨_, List.getElem?_eq_getElem hj⟩
                  obtain ⟨sb, so, rfl, hsb, s0, s1⟩ := HR.out.sees.get hy
                  have HAT := Go.Lib.hid (RPair.at_in HR.out.ring j y hy)
                  have d5 : decide (j < L.length) = true := decide_eq_true hj
                  have hL9 : L.length ≤ 256 := Nat.le_trans HR.out.ring.len HR.out.ring.cap
                  clear hy
                  go_wp2_with fail
                  refine HAT.out.mono ?_
                  rintro e w4 ⟨rfl, hk4⟩
                  have H4 := Go.Lib.hid hk4
                  clear hk4 HAT
                  unfold agg
                  go_upto_region 28 with fail
                  obtain ⟨b9, hb9⟩ : ∃ b9, b9 = w4.heap.size := ⟨_, rfl⟩
                  obtain ⟨w5, hw5⟩ : ∃ w5, w5 = w4.alloc (.cells #[.int .i64 y.n, .string y.s] 49) := ⟨_, rfl⟩
                  rw [← hw5, ← hb9]
                  have hx9 : w5.heap[b9]? = some (.cells #[.int .i64 y.n, .string y.s] 49 (0, 0)) := by rw [hw5, hb9]; exact heap_alloc_new _ _
                  have hk5 : Keeps [] w4 w5 := by rw [hw5]; exact (Keeps.refl _ _).alloc _
                  have hk35' := (show Keeps [] w3 w4 from H4.out).trans hk5
                  have s0' : w5.cell? ⟨sb, so + j * 2, none⟩ = some (.int .i64 y.n) := hk35'.cell s0 (by simp)
                  have s1' : w5.cell? ⟨sb, so + j * 2 + 1, none⟩ = some (.string y.s) := hk35'.cell s1 (by simp)
                  have hk35 := Go.Lib.hid hk35'
                  obtain ⟨q0, q1, _⟩ := cells2 hx9
                  clear hx9 hk5 hw5 hb9 s0 s1 hk35' H4
                  go_wp2_with fail
                  go_quiet (fail)
                  go_wp2
                  go_meet
                  case rel => exact ⟨L, HR.out.ring.keeps (hk35.out.drewN _) (by simp) (by simp) (by simp), HR.out.sees.keeps (hk35.out.drewN _) (by simp), HR.out.keeps.trans (hk35.out.drewN _)⟩
                · have hor : kk < 0 ∨ (L.length : Int) ≤ kk := by omega
                  have HAT := Go.Lib.hid (RPair.at_out HR.out.ring kk hor)
                  go_wp2_with fail
                  refine HAT.out.mono ?_
                  rintro e w4 ⟨rfl, hk4⟩
                  have H4 := Go.Lib.hid hk4
                  clear hk4 HAT
                  unfold zero
                  go_upto_region 28 with fail
                  obtain ⟨b9, hb9⟩ : ∃ b9, b9 = w4.heap.size := ⟨_, rfl⟩
                  obtain ⟨w5, hw5⟩ : ∃ w5, w5 = w4.alloc (.cells #[.int .i64 0, .string ⟨#[]⟩] 49) := ⟨_, rfl⟩
                  rw [← hw5, ← hb9]
                  have hx9 : w5.heap[b9]? = some (.cells #[.int .i64 0, .string ⟨#[]⟩] 49 (0, 0)) := by rw [hw5, hb9]; exact heap_alloc_new _ _
                  have hk5 : Keeps [] w4 w5 := by rw [hw5]; exact (Keeps.refl _ _).alloc _
                  have hk35 := Go.Lib.hid (show Keeps [] w3 w5 from (show Keeps [] w3 w4 from H4.out).trans hk5)
                  obtain ⟨q0, q1, _⟩ := cells2 hx9
                  clear hx9 hk5 hw5 hb9 H4
                  by_cases h0 : 0 ≤ kk
                  · have d0 : decide (0 ≤ kk) = true := decide_eq_true h0
                    have d1 : decide (kk < (L.length : Int)) = false := decide_eq_false (by omega)
                    go_wp2_with fail
                    go_quiet (fail)
                    go_wp2
                    go_meet
                    case rel => exact ⟨L, HR.out.ring.keeps (hk35.out.drewN _) (by simp) (by simp) (by simp), HR.out.sees.keeps (hk35.out.drewN _) (by simp), HR.out.keeps.trans (hk35.out.drewN _)⟩
                  · have d0 : decide (0 ≤ kk) = false := decide_eq_false h0
                    go_wp2_with fail
                    go_quiet (fail)
                    go_wp2
                    go_meet
                    case rel => exact ⟨L, HR.out.ring.keeps (hk35.out.drewN _) (by simp) (by simp) (by simp), HR.out.sees.keeps (hk35.out.drewN _) (by simp), HR.out.keeps.trans (hk35.out.drewN _)⟩
            · as_aux_lemma =>
                rw [hq]
                clear hq hwr
                go_wp2_with fail
                refine (RPair.clear_all HR.out.ring).mono ?_
                rintro e w4 ⟨rfl, hr4, hk4⟩
                have H4 := Go.Lib.hid (And.intro hr4 (HR.out.keeps.step hk4 (by simp; omega)))
                clear hr4 hk4
                go_wp2
                go_meet
                case rel => exact ⟨[], H4.out.1, .nil _ _, H4.out.2⟩
            · as_aux_lemma =>
                rw [hq]
                clear hq hwr
                have HG := Go.Lib.hid (fun early => gone (early := early) HR.out.ring HR.out.sees)
                go_wp2_with fail
                refine (HG.out _).mono ?_
                rintro e w4 ⟨rfl, hk4⟩
                have H4 := Go.Lib.hid hk4
                clear hk4
                go_wp2
                go_meet
                case rel => exact ⟨L, HR.out.ring.keeps H4.out (by simp) (by simp) (by simp), HR.out.sees.keeps H4.out (by simp), HR.out.keeps.trans H4.out⟩
            · as_aux_lemma =>
                rw [hq]
                clear hq hwr
                have HG := Go.Lib.hid (fun early => gone (early := early) HR.out.ring HR.out.sees)
                go_wp2_with fail
                refine (HG.out _).mono ?_
                rintro e w4 ⟨rfl, hk4⟩
                have H4 := Go.Lib.hid hk4
                clear hk4
                go_wp2
                go_meet
                case rel => exact ⟨L, HR.out.ring.keeps H4.out (by simp) (by simp) (by simp), HR.out.sees.keeps H4.out (by simp), HR.out.keeps.trans H4.out⟩
            · as_aux_lemma =>
                obtain ⟨e3, e4, e5, e6, e7⟩ := hq
                have f3 : (wthn x.d 8 == 3) = false := by simp [e3]
                have f4 : (wthn x.d 8 == 4) = false := by simp [e4]
                have f5 : (wthn x.d 8 == 5) = false := by simp [e5]
                have f6 : (wthn x.d 8 == 6) = false := by simp [e6]
                have f7 : (wthn x.d 8 == 7) = false := by simp [e7]
                clear e3 e4 e5 e6 e7 hwr
                go_wp2_with fail
                clear f3 f4 f5 f6 f7
                by_cases hroom : L.length < n
                · refine (RPair.push_room (x := ⟨x.n, x.s⟩) HR.out.ring hroom).mono ?_
                  rintro e w4 ⟨rfl, hr4, hk4⟩
                  have H4 := Go.Lib.hid (And.intro hr4 hk4)
                  clear hr4 hk4
                  unfold zero
                  go_upto_region 14 with fail
                  obtain ⟨b9, hb9⟩ : ∃ b9, b9 = w4.heap.size := ⟨_, rfl⟩
                  obtain ⟨w5, hw5⟩ : ∃ w5, w5 = w4.alloc (.cells #[.int .i64 0, .string ⟨#[]⟩] 49) := ⟨_, rfl⟩
                  rw [← hw5, ← hb9]
                  have hx9 : w5.heap[b9]? = some (.cells #[.int .i64 0, .string ⟨#[]⟩] 49 (0, 0)) := by rw [hw5, hb9]; exact heap_alloc_new _ _
                  have hk5 : Keeps [] w4 w5 := by rw [hw5]; exact (Keeps.refl _ _).alloc _
                  have hk35' := H4.out.2.step hk5 (by simp)
                  obtain ⟨q0, q1, _⟩ := cells2 hx9
                  have hz8 := hk35'.heap HR.out.box8 (by simp; omega)
                  have b0' : w5.cell? ⟨b, 0, none⟩ = some (.int .i64 n) := (cell_at (((show Keeps [] wB w3 from HR.out.keeps).step hk35' (by simp; omega)).heap HB0.out (by simp)) rfl).1
                  have hk35 := Go.Lib.hid hk35'
                  have HZ8 := Go.Lib.hid hz8
                  have HR5 := Go.Lib.hid (show Is w5 g h c n (L ++ [⟨x.n, x.s⟩]) from H4.out.1.keeps hk5 (by simp) (by simp) (by simp))
                  have HS5 := Go.Lib.hid (show Sees [g, h, c] w5 (.slice av L.length cv) L from HR.out.sees.keeps hk35' (by simp))
                  have dd : ((L.length : Int) == (n : Int)) = false := by simp; omega
                  have dd' : (L.length == n) = false := by simp; omega
                  clear hx9 hk5 hw5 hb9 hk35' H4 hz8 p0 p1 p2 r0 r1 b0
                  go_quiet (fail)
                  go_upto_region 18 with fail
                  refine region18_put (L := L) (x := ⟨x.n, x.s⟩) (HS5.out.keeps ((Keeps.refl [] w5).drewN nq) (by simp)) (by omega) rfl rfl rfl HZ8.out ?_
                  intro v' t0 t1 t2 t3 t4 t5 w6 hk6 hown
                  have H6 := Go.Lib.hid (And.intro hk6 hown)
                  clear hk6 hown
                  simp only [Act.put, List.setIfInBounds_toArray, List.set_cons_zero, List.set_cons_succ]
                  go_wp2
                  go_meet
                  case rel =>
                    have h56 := ((Keeps.refl [] w5).drewN nq).trans H6.out.1
                    have hs5 := hk35.out.size
                    refine ⟨L ++ [⟨x.n, x.s⟩], HR5.out.keeps h56 (by simp) (by simp) (by simp), Sees.of_own H6.out.2 ?_, ((show Keeps [] wB w3 from HR.out.keeps).step hk35.out (by simp; omega)).trans h56⟩
                    have hl := HR5.out.lts
                    simp; omega
                · cases L with
                  | nil => have := HR.out.ring.pos; simp at hroom; omega
                  | cons y t =>
                    have hfull : t.length + 1 = n := by have := HR.out.ring.len; simp only [List.length_cons] at this hroom; omega
                    obtain ⟨sb, so, rfl, hsb, s0, s1⟩ := HR.out.sees.get (i := 0) (x := y) rfl
                    rw [Nat.zero_mul, Nat.add_zero] at s0 s1
                    refine (RPair.push_full (x := ⟨x.n, x.s⟩) HR.out.ring hfull).mono ?_
                    rintro e w4 ⟨rfl, hr4, hk4⟩
                    have H4 := Go.Lib.hid (And.intro hr4 hk4)
                    clear hr4 hk4
                    unfold agg
                    go_upto_region 14 with fail
                    obtain ⟨b9, hb9⟩ : ∃ b9, b9 = w4.heap.size := ⟨_, rfl⟩
                    obtain ⟨w5, hw5⟩ : ∃ w5, w5 = w4.alloc (.cells #[.int .i64 y.n, .string y.s] 49) := ⟨_, rfl⟩
                    rw [← hw5, ← hb9]
                    have hx9 : w5.heap[b9]? = some (.cells #[.int .i64 y.n, .string y.s] 49 (0, 0)) := by rw [hw5, hb9]; exact heap_alloc_new _ _
                    have hk5 : Keeps [] w4 w5 := by rw [hw5]; exact (Keeps.refl _ _).alloc _
                    have hk35' := H4.out.2.step hk5 (by simp)
                    obtain ⟨q0, q1, _⟩ := cells2 hx9
                    have hz8 := hk35'.heap HR.out.box8 (by simp; omega)
                    have b0' : w5.cell? ⟨b, 0, none⟩ = some (.int .i64 n) := (cell_at (((show Keeps [] wB w3 from HR.out.keeps).step hk35' (by simp; omega)).heap HB0.out (by simp)) rfl).1
                    have s0' : w5.cell? ⟨sb, so, none⟩ = some (.int .i64 y.n) := hk35'.cell s0 hsb
                    have s1' : w5.cell? ⟨sb, so + 1, none⟩ = some (.string y.s) := hk35'.cell s1 hsb
                    have hk35 := Go.Lib.hid hk35'
                    have HZ8 := Go.Lib.hid hz8
                    have HR5 := Go.Lib.hid (show Is w5 g h c n (t ++ [⟨x.n, x.s⟩]) from H4.out.1.keeps hk5 (by simp) (by simp) (by simp))
                    have HS5 := Go.Lib.hid (show Sees [g, h, c] w5 (.slice (some ⟨sb, so, none⟩) (y :: t).length cv) (y :: t) from HR.out.sees.keeps hk35' (by simp))
                    have HF := Go.Lib.hid hfull
                    have dd : (((t.length : Int) + 1) == (n : Int)) = true := by simp; omega
                    have dd' : (t.length + 1 == n) = true := by simp; omega
                    have ht9 : t.length ≤ 256 := by omega
                    clear hx9 hk5 hw5 hb9 hk35' H4 hz8 p0 p1 p2 r0 r1 b0 hroom s0 s1 hfull
                    go_quiet (fail)
                    go_upto_region 18 with fail
                    all_goals
                      refine region18_put (S := [g, h, c]) (L := t) (x := ⟨x.n, x.s⟩) ((HS5.out.tailIf (q := n - 1) (by have := HF.out; omega)).keeps ((Keeps.refl [] w5).drewN _) (by simp)) (by omega) rfl rfl rfl HZ8.out ?_
                      intro v' t0 t1 t2 t3 t4 t5 w6 hk6 hown
                      have H6 := Go.Lib.hid (And.intro hk6 hown)
                      clear hk6 hown
                      simp only [Act.put, List.setIfInBounds_toArray, List.set_cons_zero, List.set_cons_succ]
                      go_wp2
                      all_goals
                        go_meet
                        case rel =>
                          have h56 := ((Keeps.refl [] w5).drewN nq).trans H6.out.1
                          have hs5 := hk35.out.size
                          refine ⟨t ++ [⟨x.n, x.s⟩], HR5.out.keeps h56 (by simp) (by simp) (by simp), Sees.of_own H6.out.2 ?_, ((show Keeps [] wB w3 from HR.out.keeps).step hk35.out (by simp; omega)).trans h56⟩
                          have hl := HR5.out.lts
                          simp; omega
          case rest =>
            obtain ⟨L', HZ⟩ := hcut
            clear HR p0 p1 p2 r0 r1 b0 hwr
            have hkz := HZ.out.2.2
            have b0 : wc.cell? ⟨b, 0, none⟩ = some (.int .i64 n) := (cell_at (hkz.heap HB0.out (by simp)) rfl).1
            obtain ⟨av, cv, rfl⟩ := HZ.out.2.1.len
            have HLE := Go.Lib.hid (fun q : Nat => (RPair.len (show Is (wc.drewN q) g h c n L' from HZ.out.1.keeps ((Keeps.refl [] wc).drewN q) (by simp) (by simp) (by simp))).mono (R' := fun e w' => e = .returned (.int .i64 L'.length) ∧ ∃ m, w' = (wc.drewN q).drewN m) (fun e w' h => ⟨h.1, 0, h.2.symm⟩))
            have HCA := Go.Lib.hid (fun q : Nat => (RPair.cap (show Is (wc.drewN q) g h c n L' from HZ.out.1.keeps ((Keeps.refl [] wc).drewN q) (by simp) (by simp) (by simp))).mono (R' := fun e w' => e = .returned (.int .i64 n) ∧ ∃ m, w' = (wc.drewN q).drewN m) (fun e w' h => ⟨h.1, 0, h.2.symm⟩))
            clear hkz
            go_wp2_with fail
            go_quiet (first | (refine Calls.quiet_of (HLE.out _)) | (refine Calls.quiet_of (HCA.out _)))
            go_wp2
            exact ⟨⟨k + 1, by go_num, by omega, ⟨L', HZ.out.1.keeps ((Keeps.refl [] wc).drewN _) (by simp) (by simp) (by simp), HZ.out.2.1.keeps ((Keeps.refl [] wc).drewN _) (by simp)⟩, HZ.out.2.2.drewN _⟩, by simp [intOf]; omega⟩
        · have d3 : decide (k < len0 ∧ k < 60) = false := decide_eq_false hlt
          rw [d3]
          clear d3
          go_wp2_with fail
          refine (wakes _).mono ?_
          rintro e w7 ⟨rfl, hk7⟩
          have H7 := Go.Lib.hid hk7
          clear hk7
          go_wp2
          go_ret
          exact ⟨rfl, (HK0.out.trans HI.out.keeps).trans H7.out⟩
end Go.Proofs.Ytoncobhjdplamaa
