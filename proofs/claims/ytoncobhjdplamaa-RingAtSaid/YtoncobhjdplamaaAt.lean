/- The walk of RingAt: over every script that lies in memory it returns true. No condition. -/
import Derived.Test.YtoncobhjdplamaaOrder
import Derived.Test.YtoncobhjdplamaaRIntMore
import Derived.Test.YtoncobhjdplamaaRIntAll
import Derived.Test.YtoncobhjdplamaaWMore
namespace Go.Proofs.Ytoncobhjdplamaa
open Go.RowKit

structure InvA (wB : World) (g h c n b4 len0 : Nat) (k : Nat) (wr : World) : Prop where
  k60 : k ≤ 60
  kl : k ≤ len0
  ring : ∃ L, L.length = min n k ∧ RInt.Is wr g h c n L
  keeps : Keeps [] wB wr
  box : wr.heap[b4]? = some (.cells #[.pointer (some ⟨g, 0, none⟩)] 26 (0, 0))

structure InvB (wB : World) (g h c n b4 b7 : Nat) (L : List Int) (j : Nat) (W : World) : Prop where
  ring : RInt.Is W g h c n L
  keeps : Keeps [] wB W
  box : W.heap[b4]? = some (.cells #[.pointer (some ⟨g, 0, none⟩)] 26 (0, 0))
  count : W.heap[b7]? = some (.cells #[.int .i64 j] 3 (0, 0))
theorem InvB.turn {wB : World} {g h c n b4 b7 : Nat} {L : List Int} {j B : Nat} {W W' : World} (hi : InvB wB g h c n b4 b7 L j W) (ht : Rng.Turn B W W') (hB : wB.heap.size ≤ B) (hc : c < B) : InvB wB g h c n b4 b7 L j W' :=
  ⟨Rng.turn_ring hi.ring ht hc, Rng.turn_keeps hi.keeps ht hB, ht.heap hi.box, ht.heap hi.count⟩

structure InvC (wB : World) (g h c n b4 D : Nat) (L : List Int) (W : World) : Prop where
  ring : RInt.Is W g h c n L
  keeps : Keeps [] wB W
  box : W.heap[b4]? = some (.cells #[.pointer (some ⟨g, 0, none⟩)] 26 (0, 0))
  mark : W.heap[D]? = some (.deferred (some []))
theorem InvC.quiet {wB : World} {g h c n b4 D : Nat} {L : List Int} {W : World} (hi : InvC wB g h c n b4 D L W) (q : Nat) : InvC wB g h c n b4 D L (W.drewN q) :=
  ⟨hi.ring.keeps ((Keeps.refl [] W).drewN q) (by simp) (by simp) (by simp), hi.keeps.drewN q, hi.box, hi.mark⟩
theorem InvC.step {wB : World} {g h c n b4 D : Nat} {L L' : List Int} {W W' : World} (hi : InvC wB g h c n b4 D L W) (hk : Keeps [g, h, c] W W') (hr : RInt.Is W' g h c n L')
    (hg : wB.heap.size ≤ g ∧ wB.heap.size ≤ h ∧ wB.heap.size ≤ c) (h4 : g < b4 ∧ h < b4 ∧ c < b4) (hD : b4 < D) : InvC wB g h c n b4 D L' W' :=
  ⟨hr, hi.keeps.step hk (by simp; omega), hk.heap hi.box (by simp; omega), hk.heap hi.mark (by simp; omega)⟩

attribute [local go_sem] Oper.semAt_some YtoncobhjdplamaaW.PrintMore.min2_int YtoncobhjdplamaaW.PrintMore.min_two
set_option maxHeartbeats 1600000 in
set_option maxRecDepth 100000 in
theorem ring_at {A : Option Addr} {len0 cap0 : Nat} {cp : Int} {l : List Act} (hlen : len0 = l.length) (w : World) (hl : Acts w A l) :
    Calls Try.prog 5 #[.agg #[.int .i64 cp, .slice A len0 cap0]] w fun e w' => e = .returned (.bool true) ∧ Keeps [] w w' := by
  have hwr := wthn_range cp (n := 30) (by omega)
  obtain ⟨m, hm⟩ : ∃ m : Nat, wthn cp 30 = m := ⟨(wthn cp 30).toNat, by omega⟩
  have hn : m < 30 := by omega
  have HM := Go.Lib.hid hm
  have HL := Go.Lib.hid hlen
  have HA := Go.Lib.hid hl
  clear hm hwr hlen hl
  refine (callsIn_wide (n := 9)).1 (callsIn_of_wp_marks Try.func5 rfl trivial ?_ rfl)
  refine wpIn_wide.2 ?_
  simp only [Try.ntmps5, List.size_toArray, List.length_cons, List.length_nil, Nat.reduceAdd, Nat.reduceSub, Array.replicate_succ, Array.replicate_zero, List.push_toArray, List.append_toArray, List.nil_append, List.cons_append]
  go_wp2_with fail
  refine (within _ _ (by omega) (by omega) _).mono ?_
  rintro e w' ⟨rfl, rfl⟩
  rw [HM.out]
  go_wp2_with fail
  obtain ⟨n, hn'⟩ : ∃ n : Nat, n = 1 + m := ⟨_, rfl⟩
  rw [show (1 + (m : Int)) = (n : Int) from by omega]
  obtain ⟨wB, hwB⟩ : ∃ wB, wB = (w.alloc (.cells #[.int .i64 cp, .slice A len0 cap0] 24)).alloc (.cells #[.bool false] 4) := ⟨_, rfl⟩
  rw [← hwB]
  obtain ⟨b, hb⟩ : ∃ b, b = w.heap.size := ⟨_, rfl⟩
  rw [← hb]
  have hb0 : wB.heap[b]? = some (.cells #[.int .i64 cp, .slice A len0 cap0] 24 (0, 0)) := by
    rw [hwB, Below.heap_alloc _ _ _ (by rw [hb]; simp), hb]; exact heap_alloc_new _ _
  have hb2 : wB.heap[b + 1]? = some (.cells #[.bool false] 4 (0, 0)) := by
    rw [hwB, hb]
    have := heap_alloc_new (w.alloc (.cells #[.int .i64 cp, .slice A len0 cap0] 24)) (.cells #[.bool false] 4)
    rwa [World.size_alloc] at this
  have hk0 : Keeps [] w wB := by rw [hwB]; exact ((Keeps.refl _ _).alloc _).alloc _
  have HA0 : Hid (Acts wB A l) := HA.out.keeps hk0
  have HB0 := Go.Lib.hid hb0
  have HB2 := Go.Lib.hid hb2
  have HK0 := Go.Lib.hid hk0
  have hsB : b + 1 < wB.heap.size := lt_of_block hb2
  have hn0 : 0 < n := by omega
  have hn1 : n ≤ 30 := by omega
  have HN := Go.Lib.hid hn'
  have hbw : w.heap.size ≤ b := by omega
  clear hb0 hb2 hk0 hwB hb hn' hn HM HA
  refine (RInt.new_ok hn0 (by omega) _).mono ?_
  rintro e w1 ⟨g, h, c, rfl, hr, hg, hh, hc, hk⟩
  have hlts := hr.lts
  have HR := Go.Lib.hid hr
  have HK := Go.Lib.hid hk
  have hs1 := hk.size
  clear hr hk
  go_wp2_with fail
  refine (num _ _).mono ?_
  rintro e w' ⟨rfl, rfl⟩
  go_wp2_with fail
  obtain ⟨b4, hb4⟩ : ∃ b4, b4 = w1.heap.size := ⟨_, rfl⟩
  obtain ⟨w2, hw2⟩ : ∃ w2, w2 = w1.alloc (.cells #[.pointer (some ⟨g, 0, none⟩)] 26) := ⟨_, rfl⟩
  rw [← hw2, ← hb4]
  have HI : Hid (InvA wB g h c n b4 len0 0 w2) := by
    refine ⟨by omega, Nat.zero_le _, ⟨[], by simp, ?_⟩, ?_, ?_⟩
    · rw [hw2]; exact HR.out.keeps ((Keeps.refl [] _).alloc _) (by simp) (by simp) (by simp)
    · rw [hw2]; exact HK.out.alloc _
    · rw [hw2, hb4]; exact heap_alloc_new _ _
  have hg4 : g < b4 ∧ h < b4 ∧ c < b4 := by omega
  have hb14 : b + 1 < b4 := by omega
  have hB4 : wB.heap.size ≤ b4 := by omega
  clear hw2 HR HK hlts hb4 hs1
  go_loopw [6] (fun si wr => ∃ k : Nat, si = .int .i64 k ∧ Hid (InvA wB g h c n b4 len0 k wr)) (fun si _ => 60 - (intOf si).toNat)
  case atStart => exact ⟨0, rfl, HI⟩
  case round =>
    clear HI
    obtain ⟨k, rfl, HI⟩ := hrel
    have hk60 : k ≤ 60 := HI.out.k60
    have hbx := HI.out.keeps.heap HB0.out (by simp)
    have b0 : wr.cell? ⟨b, 0, none⟩ = some (.int .i64 cp) := (cell_at hbx rfl).1
    have b1 : wr.cell? ⟨b, 1, none⟩ = some (.slice A len0 cap0) := (cell_at hbx rfl).1
    have b40 : wr.cell? ⟨b4, 0, none⟩ = some (.pointer (some ⟨g, 0, none⟩)) := (cell_at HI.out.box rfl).1
    clear hbx
    go_upto_region 6 with fail
    go_cut [44] from 36 to 44 (fun s44 wx => s44 = .bool (decide (k < len0 ∧ k < 60)) ∧ wx = wr)
    case first =>
      have dd : decide (k < len0) = false ∧ decide (k < len0 ∧ k < 60) = false ∨ decide (k < len0) = true ∧ decide ((k : Int) < 60) = false ∧ decide (k < len0 ∧ k < 60) = false ∨ decide (k < len0) = true ∧ decide ((k : Int) < 60) = true ∧ decide (k < len0 ∧ k < 60) = true := by
        by_cases h1 : k < len0
        · by_cases h2 : k < 60
          · exact .inr (.inr ⟨decide_eq_true h1, decide_eq_true (by omega), decide_eq_true ⟨h1, h2⟩⟩)
          · exact .inr (.inl ⟨decide_eq_true h1, decide_eq_false (by omega), decide_eq_false (fun h => h2 h.2)⟩)
        · exact .inl ⟨decide_eq_false h1, decide_eq_false (fun h => h1 h.1)⟩
      rcases dd with ⟨d1, d3⟩ | ⟨d1, d2, d3⟩ | ⟨d1, d2, d3⟩
      all_goals
        have D3 := Go.Lib.hid d3
        clear d3
        go_wp2
        go_meet
        case rel => exact ⟨by rw [D3.out], rfl⟩
    case rest =>
      obtain ⟨rfl, rfl⟩ := hcut
      by_cases hlt : k < len0 ∧ k < 60
      · have d3 : decide (k < len0 ∧ k < 60) = true := decide_eq_true hlt
        rw [d3]
        obtain ⟨hlt, hk6⟩ := hlt
        obtain ⟨x, hx⟩ : ∃ x, l[k]? = some x := ⟨_, List.getElem?_eq_getElem (by have := HL.out; omega)⟩
        obtain ⟨a, rfl, x0, x1, x2⟩ := (HA0.out.keeps HI.out.keeps) k x hx
        clear hx x0 x2 d3
        have HP : Hid (∀ j, Calls Try.prog 12 #[.pointer (some ⟨g, 0, none⟩), .int .i64 x.n] (wc.drewN j) fun e w' => (∃ u v, e = .returned (.tuple #[u, v])) ∧ InvA wB g h c n b4 len0 (k + 1) w') := by
          intro j
          obtain ⟨L, hL, hr⟩ := HI.out.ring
          have hrj : RInt.Is (wc.drewN j) g h c n L := hr.keeps ((Keeps.refl [] _).drewN j) (by simp) (by simp) (by simp)
          have hsz := HI.out.keeps.size
          have hb4' : (wc.drewN j).heap[b4]? = some (.cells #[.pointer (some ⟨g, 0, none⟩)] 26 (0, 0)) := HI.out.box
          by_cases hf : L.length < n
          · refine (RInt.push_room (x := x.n) hrj hf).mono ?_
            rintro e w' ⟨rfl, h1, h2⟩
            exact ⟨⟨_, _, rfl⟩, by omega, by omega, ⟨_, by simp; omega, h1⟩, (HI.out.keeps.drewN j).step h2 (by simp; omega), h2.heap hb4' (by simp; omega)⟩
          · have hln := hr.len
            cases L with
            | nil => simp at hf; omega
            | cons y L =>
              simp only [List.length_cons] at hL hf hln
              refine (RInt.push_full (x := x.n) hrj (by omega)).mono ?_
              rintro e w' ⟨rfl, h1, h2⟩
              exact ⟨⟨_, _, rfl⟩, by omega, by omega, ⟨_, by simp; omega, h1⟩, (HI.out.keeps.drewN j).step h2 (by simp; omega), h2.heap hb4' (by simp; omega)⟩
        go_wp2_with fail
        refine QTail.wp_region_dtail 7 (by kernel_rfl) (by kernel_rfl) ?_
        simp only [List.take_succ_cons, List.take_zero, List.drop_succ_cons, List.drop_zero]
        repeat (go_big_quiet_step (fail))
        refine wpQuiet_nil ?_
        rintro _ ⟨n1, rfl⟩
        go_wp2_with fail
        refine (HP.out n1).mono ?_
        rintro e w' ⟨⟨u, v, rfl⟩, hn⟩
        have HNX := Go.Lib.hid hn
        clear hn
        go_wp2_with fail
        exact ⟨⟨k + 1, by go_num, HNX⟩, by simp [intOf]; omega⟩
      · have d3 : decide (k < len0 ∧ k < 60) = false := decide_eq_false hlt
        rw [d3]
        clear d3
        obtain ⟨L, hL, hr⟩ := HI.out.ring
        have HKL : Hid (L.length = min n (min len0 60)) := by
          have h1 := HI.out.kl
          have h2 : L.length = min n (min len0 60) := by omega
          exact h2
        have HR := Go.Lib.hid hr
        clear hr hL hlt
        go_upto_region 10 with fail
        obtain ⟨b7, hb7⟩ : ∃ b7, b7 = wc.heap.size := ⟨_, rfl⟩
        obtain ⟨w3, hw3⟩ : ∃ w3, w3 = wc.alloc (.cells #[.int .i64 0] 3) := ⟨_, rfl⟩
        rw [← hw3, ← hb7]
        have hk3 : Keeps [] wc w3 := by rw [hw3]; exact (Keeps.refl _ _).alloc _
        have HR3 : Hid (RInt.Is w3 g h c n L) := HR.out.keeps hk3 (by simp) (by simp) (by simp)
        have HB4 : Hid (w3.heap[b4]? = some (.cells #[.pointer (some ⟨g, 0, none⟩)] 26 (0, 0))) := hk3.heap HI.out.box (by simp)
        have HB7 : Hid (w3.heap[b7]? = some (.cells #[.int .i64 0] 3 (0, 0))) := by rw [hw3, hb7]; exact heap_alloc_new _ _
        have HK3 : Hid (Keeps [] wB w3) := HI.out.keeps.trans hk3
        have h47 : b4 < b7 := by rw [hb7]; exact lt_of_block HI.out.box
        clear hk3 hw3 HR b0 b1 b40 hb7 HI
        have b40 : w3.cell? ⟨b4, 0, none⟩ = some (.pointer (some ⟨g, 0, none⟩)) := (cell_at HB4.out rfl).1
        have b70 : w3.cell? ⟨b7, 0, none⟩ = some (.int .i64 0) := (cell_at HB7.out rfl).1
        go_wp2_with fail
        refine (RInt.all _ _).mono ?_
        rintro e w4 ⟨rfl, rfl⟩
        go_wp2_with fail
        obtain ⟨b8, hb8⟩ : ∃ b8, b8 = w3.heap.size := ⟨_, rfl⟩
        obtain ⟨w4, hw4⟩ : ∃ w4, w4 = w3.alloc (.cells #[.pointer (some ⟨g, 0, none⟩)] 26) := ⟨_, rfl⟩
        rw [← hw4, ← hb8]
        have hk4 : Keeps [] w3 w4 := by rw [hw4]; exact (Keeps.refl _ _).alloc _
        have hx8 : w4.cell? ⟨b8, 0, none⟩ = some (.pointer (some ⟨g, 0, none⟩)) := by rw [hw4, hb8]; exact (cell_at (heap_alloc_new _ _) rfl).1
        have HI0 : InvB wB g h c n b4 b7 L 0 w4 := ⟨HR3.out.keeps hk4 (by simp) (by simp) (by simp), HK3.out.trans hk4, hk4.heap HB4.out (by simp), hk4.heap HB7.out (by simp)⟩
        have hlts := HI0.ring.lts
        have hsz4 := HI0.keeps.size
        have h7 := lt_of_block HI0.count
        have HI0' := Go.Lib.hid HI0
        clear hk4 hw4 HR3 HB4 HB7 HK3 b40 b70 hb8 HI0
        obtain ⟨B, hB⟩ : ∃ B, B = w4.heap.size := ⟨_, rfl⟩
        have hcB : c < B := by omega
        have hwB' : wB.heap.size ≤ B := by omega
        have HBB := Go.Lib.hid hB
        apply Rng.wp_range1 (gf := 33) (lb := #[.pointer (some ⟨b8, 0, none⟩)]) rfl (enters_of Try.func33 (by kernel_rfl) rfl) (RInt.all_iter hx8 HI0'.out.ring) (fun _ => rfl)
          (I := fun j W => InvB wB g h c n b4 b7 L j W) (Ix := fun _ _ => False)
          (hI := fun j W W' hi ht => hi.turn ht (by omega) (by omega)) (hIx := fun _ _ _ h _ => h) (h0 := HI0'.out)
        case hassign =>
          intro y j W hj hi
          clear hi
          simp only [RInt.elem, RInt.encv]
          gi_wp2
          exact ⟨rfl, trivial⟩
        case hbody =>
          intro y j W hj hi
          have HI := Go.Lib.hid hi
          clear hi
          obtain ⟨x, hx⟩ : ∃ x, L[j]? = some x := ⟨_, List.getElem?_eq_getElem hj⟩
          rw [RInt.nth_at hx]
          have HAT := Go.Lib.hid (RInt.at_in HI.out.ring j x hx)
          clear hx
          have hL9 : L.length ≤ 256 := Nat.le_trans HI.out.ring.len HI.out.ring.cap
          have c4 : W.cell? ⟨b4, 0, none⟩ = some (.pointer (some ⟨g, 0, none⟩)) := (cell_at HI.out.box rfl).1
          obtain ⟨c7, f7⟩ := cell_at HI.out.count (p := 0) (v := .int .i64 j) rfl
          gi_wp2_with fail
          refine ⟨trivial, rfl, (CallsIn.inRound y (callsIn_wide.2 HAT.out)).mono ?_⟩
          rintro e w' ⟨rfl, kk, rfl⟩
          gi_wp2_with fail
          have hkk : Keeps [b7] W ((W.drewN kk).setCell ⟨b7, 0, none⟩ (.int .i64 (↑j + 1))) := ((Keeps.refl _ _).drewN _).setCell (by simp) _
          refine ⟨Rng.Hold.of_keeps hkk (by simp; omega), HI.out.ring.keeps hkk (by simp; omega) (by simp; omega) (by simp; omega), HI.out.keeps.step hkk (by simp; omega), hkk.heap HI.out.box (by simp; omega), ?_⟩
          rw [heap_setCell_self (w := W.drewN kk) (cs := #[.int .i64 j]) (t := 3) (fr := (0, 0)) HI.out.count]
          simp
        case hdone =>
          intro D W hD hi hK
          have HI := Go.Lib.hid hi
          have HK := Go.Lib.hid hK
          clear hi hK
          have c4 : W.cell? ⟨b4, 0, none⟩ = some (.pointer (some ⟨g, 0, none⟩)) := (cell_at HI.out.box rfl).1
          obtain ⟨c7, f7⟩ := cell_at HI.out.count (p := 0) (v := .int .i64 L.length) rfl
          have hbx := HI.out.keeps.heap HB0.out (by simp)
          have b0 : W.cell? ⟨b, 0, none⟩ = some (.int .i64 cp) := (cell_at hbx rfl).1
          have b1 : W.cell? ⟨b, 1, none⟩ = some (.slice A len0 cap0) := (cell_at hbx rfl).1
          have HQ : Hid (∀ q, Calls Try.prog 14 #[.pointer (some ⟨g, 0, none⟩)] (W.drewN q) fun e w' => e = .returned (.int .i64 L.length) ∧ ∃ m, w' = (W.drewN q).drewN m) := fun q =>
            (RInt.len (HI.out.ring.keeps ((Keeps.refl [] W).drewN q) (by simp) (by simp) (by simp))).mono (fun e w' h => ⟨h.1, 0, h.2.symm⟩)
          clear hbx
          go_upto_region 17 with fail
          go_cut [92] from 79 to 92 (fun s92 wx => s92 = .bool false ∧ ∃ q, wx = W.drewN q)
          case first =>
            have dd : ((60 : Int) < (len0 : Int)) ∧ ¬ ((60 : Int) < (n : Int)) ∧ ((L.length : Int) != (n : Int)) = false ∨ ¬ ((60 : Int) < (len0 : Int)) ∧ ((len0 : Int) < (n : Int)) ∧ ((L.length : Int) != (len0 : Int)) = false ∨
                ¬ ((60 : Int) < (len0 : Int)) ∧ ¬ ((len0 : Int) < (n : Int)) ∧ ((L.length : Int) != (n : Int)) = false := by
              have h := HKL.out
              simp only [bne_eq_false_iff_eq]
              omega
            rcases dd with ⟨d1, d2, d3⟩ | ⟨d1, d2, d3⟩ | ⟨d1, d2, d3⟩
            all_goals
              go_quiet ((refine Calls.quiet_of (HQ.out _)))
              go_wp2_with fail
              go_meet
              case rel => exact ⟨by simp, _, rfl⟩
          case rest =>
            obtain ⟨rfl, q, rfl⟩ := hcut
            have HC : Hid (InvC wB g h c n b4 D L (W.drewN q)) := ⟨HI.out.ring.keeps ((Keeps.refl [] W).drewN q) (by simp) (by simp) (by simp), HI.out.keeps.drewN q, HI.out.box, HK.out⟩
            have hD4 : b4 < D := by omega
            clear HI HK HQ c4 c7 f7 b0 b1
            go_wp2_with fail
            go_loopg [] L.length (fun kq wr => ∃ L', Hid (L'.length ≤ kq ∧ InvC wB g h c n b4 D L' wr))
            case atStart => exact ⟨L, Nat.le_refl _, HC.out⟩
            case round =>
              clear HC
              obtain ⟨L', HR⟩ := hrel
              have c4 : wr.cell? ⟨b4, 0, none⟩ = some (.pointer (some ⟨g, 0, none⟩)) := (cell_at HR.out.2.box rfl).1
              cases L' with
              | nil =>
                have HLEN := Go.Lib.hid (RInt.len HR.out.2.ring)
                go_wp2_with fail
                refine HLEN.out.mono ?_
                rintro e w' ⟨rfl, rfl⟩
                clear HLEN
                go_wp2_with fail
                refine (RInt.pop_none HR.out.2.ring).mono ?_
                rintro e w' ⟨rfl, rfl⟩
                go_wp2_with fail
                refine (RInt.push_room (x := 5) HR.out.2.ring (by simp; omega)).mono ?_
                rintro e w5 ⟨rfl, hr5, hk5⟩
                have H5 : Hid (InvC wB g h c n b4 D ([] ++ [5]) w5) := HR.out.2.step hk5 hr5 (by omega) (by omega) hD4
                clear hr5 hk5 HR c4
                have c4 : w5.cell? ⟨b4, 0, none⟩ = some (.pointer (some ⟨g, 0, none⟩)) := (cell_at H5.out.box rfl).1
                go_wp2_with fail
                refine (RInt.clear_all H5.out.ring).mono ?_
                rintro e w6 ⟨rfl, hr6, hk6⟩
                have H6 : Hid (InvC wB g h c n b4 D [] w6) := H5.out.step hk6 hr6 (by omega) (by omega) hD4
                clear hr6 hk6 H5 c4
                have c4 : w6.cell? ⟨b4, 0, none⟩ = some (.pointer (some ⟨g, 0, none⟩)) := (cell_at H6.out.box rfl).1
                go_wp2_with fail
                refine (RInt.at_out H6.out.ring 0 (.inr (by simp))).mono ?_
                rintro e w' ⟨rfl, rfl⟩
                go_wp2_with fail
                refine (RInt.len H6.out.ring).mono ?_
                rintro e w' ⟨rfl, rfl⟩
                go_wp2_with fail
                refine (RInt.cap H6.out.ring).mono ?_
                rintro e w' ⟨rfl, rfl⟩
                go_wp2_with fail
                refine (wakes _).mono ?_
                rintro e w7 ⟨rfl, hk7⟩
                have hb2 := hk7.heap (H6.out.keeps.heap HB2.out (by simp)) (by simp)
                obtain ⟨c2, f2⟩ := cell_at hb2 (p := 0) (v := .bool false) rfl
                have HB27 := Go.Lib.hid hb2
                have H7 : Hid (Keeps [] wB w7 ∧ w7.heap[D]? = some (.deferred (some []))) := ⟨H6.out.keeps.trans hk7, hk7.heap H6.out.mark (by simp)⟩
                clear hk7 H6 c4 hb2
                go_wp2_with fail
                have hDm : (w7.setCell ⟨b + 1, 0, none⟩ (.bool true)).heap[D]? = some (.deferred (some [])) := by
                  rw [Below.heap_setCell _ _ _ _ (by simp; omega)]; exact H7.out.2
                refine ⟨by simp, .inl ⟨_, _, rfl, run_takeDeferred hDm, ?_⟩⟩
                have hc2 : ((w7.setCell ⟨b + 1, 0, none⟩ (.bool true)).putObj D (.deferred none)).cell? ⟨b + 1, 0, none⟩ = some (.bool true) :=
                  Rng.cell_putObj (cell_at (heap_setCell_self (cs := #[.bool false]) (t := 4) (fr := (0, 0)) HB27.out) rfl).1 (by simp; omega) _
                refine ⟨.bool true, ?_, rfl, Rng.putNew ((HK0.out.trans H7.out.1).setNew (by simp; omega) _) (by have := HK0.out.size; omega) _⟩
                simp [results, Try.f5, go_sem, hc2]
              | cons x t =>
                obtain ⟨q, hq⟩ : ∃ q, (x :: t).length = q := ⟨_, rfl⟩
                have hq0 : 0 < q := by rw [← hq]; simp
                have d0 : decide ((0 : Int) < (q : Int)) = true := decide_eq_true (by omega)
                have HLEN := Go.Lib.hid (RInt.len HR.out.2.ring)
                have HQ' := Go.Lib.hid hq
                clear hq
                go_wp2_with fail
                refine HLEN.out.mono ?_
                rintro e w' ⟨rfl, rfl⟩
                rw [HQ'.out]
                go_wp2_with fail
                refine (RInt.at_in HR.out.2.ring 0 x rfl).mono ?_
                rintro e w' ⟨rfl, kk, rfl⟩
                have HR2 := Go.Lib.hid (HR.out.2.quiet kk)
                go_wp2_with fail
                refine (RInt.pop_some HR2.out.ring).mono ?_
                rintro e w5 ⟨rfl, hr5, hk5⟩
                have H5 : Hid (InvC wB g h c n b4 D t w5) := HR2.out.step hk5 hr5 (by omega) (by omega) hD4
                clear hr5 hk5
                go_wp2_with fail
                go_roundg t.length
                case measure => have := HR.out.1; simp at this; omega
                case rel => exact ⟨t, Nat.le_refl _, H5.out⟩
        case hstop => exact fun _ _ _ _ h _ => h.elim
end Go.Proofs.Ytoncobhjdplamaa
