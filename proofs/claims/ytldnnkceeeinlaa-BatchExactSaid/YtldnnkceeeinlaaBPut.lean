/- 'Put': an event for some clients. No condition but the queue's own and the bounds of its numbers. -/
import Derived.Test.YtldnnkceeeinlaaBIdx
namespace Go.Proofs.Ytldnnkceeeinlaa
open Go.RowKit

/-- Till when each client waits, behind k clients. -/
def uFill (t : Int) (cl ws : List Int) : Nat → List Int
  | 0 => List.replicate 8 (-1)
  | k + 1 => (uFill t cl ws k).set (cl.getD k 0).toNat (t + ws.getD k 0)
theorem uFill_len (t : Int) (cl ws : List Int) (k : Nat) : (uFill t cl ws k).length = 8 := by
  induction k with
  | zero => rfl
  | succ k ih => rw [uFill, List.length_set, ih]
def uOf (t : Int) (cl ws : List Int) : List Int := uFill t cl ws cl.length

/-- An item behind k rounds of the first loop. -/
def uNeg (k : Nat) : List Int := List.replicate k (-1) ++ List.replicate (8 - k) 0
theorem uNeg_set (k : Nat) (hk : k < 8) : (uNeg k).set k (-1) = uNeg (k + 1) := by
  rcases (show k = 0 ∨ k = 1 ∨ k = 2 ∨ k = 3 ∨ k = 4 ∨ k = 5 ∨ k = 6 ∨ k = 7 by omega) with rfl | rfl | rfl | rfl | rfl | rfl | rfl | rfl <;> rfl
theorem uNeg_get (k : Nat) (hk : k < 8) : (uNeg k)[k]? = some 0 := by
  rcases (show k = 0 ∨ k = 1 ∨ k = 2 ∨ k = 3 ∨ k = 4 ∨ k = 5 ∨ k = 6 ∨ k = 7 by omega) with rfl | rfl | rfl | rfl | rfl | rfl | rfl | rfl <;> rfl

theorem Nums.keeps {S : List Nat} {w w' : World} {A : Option Addr} {l : List Int} (h : Nums w A l) (hk : Keeps S w w') (hS : ∀ x ∈ S, w.heap.size ≤ x) : Nums w' A l := by
  intro i x hx
  obtain ⟨a, ha, hc⟩ := h i x hx
  refine ⟨a, ha, hk.cell hc (fun hm => ?_)⟩
  have h1 := hS _ hm
  have h2 := World.block_lt_of_cell? w _ hc
  omega

/-- What the making of an item leaves: the event's box, the item. -/
structure Mk (w : World) (e : Ev) (b5 b9 : Nat) (u : List Int) (wr : World) : Prop where
  keeps : Keeps [] w wr
  box : wr.heap[b5]? = some (.cells (evs e).toArray 31 (0, 0))
  item : wr.heap[b9]? = some (.cells (itA ⟨e, u⟩) 73 (0, 0))
  new5 : w.heap.size ≤ b5
  new9 : b5 < b9
theorem Mk.set {w : World} {e : Ev} {b5 b9 : Nat} {u : List Int} {wr : World} (h : Mk w e b5 b9 u wr) (n k : Nat) (x : Int) : Mk w e b5 b9 (u.set k x) ((wr.drewN n).setCell ⟨b9, 6 + k, none⟩ (.int .i64 x)) := by
  have hn := h.new9
  have h5 := h.new5
  refine ⟨(h.keeps.drewN n).setNew (by simp; omega) _, ?_, ?_, h5, hn⟩
  · rw [Below.heap_setCell _ _ _ _ (by simp; omega)]; exact h.box
  · rw [heap_setCell_self (w := wr.drewN n) (cs := itA ⟨e, u⟩) (t := 73) (fr := (0, 0)) h.item, itA_set]

theorem QAt.more {B q g h c : Nat} {w w' : World} {l l' : List (Nat × It)} {lost : List Int} {p : Nat × It} (hq : QAt B w q g h c l lost) (hr : RPtr.Is w' g h c 64 (l'.map (·.1) ++ [p.1])) (hk : Keeps [g, h, c] w w')
    (hp : B ≤ p.1 ∧ w.heap[p.1]? = some (.cells (itA p.2) 73 (0, 0)) ∧ p.2.u.length = 8) (hne : ∀ x ∈ l', x.1 ≠ p.1) (hsub : ∀ x ∈ l', x ∈ l) (hn : (l'.map (·.1)).Nodup) : QAt B w' q g h c (l' ++ [p]) lost := by
  refine hq.turn (by simpa using hr) hk ?_ (fun x hx => ?_)
  · rw [List.map_append, List.nodup_append]
    refine ⟨hn, by simp, fun a ha b hb => ?_⟩
    obtain ⟨x, hx, rfl⟩ := List.mem_map.1 ha
    obtain rfl : b = p.1 := by simpa using hb
    exact hne x hx
  · rcases List.mem_append.1 hx with h1 | h1
    · exact .inl (hsub x h1)
    · obtain rfl : x = p := by simpa using h1
      exact .inr hp
/-- What a push makes of the queue. -/
def putL (l : List (Nat × It)) (p : Nat × It) : List (Nat × It) := if l.length < 64 then l ++ [p] else l.tail ++ [p]
def putLost (l : List (Nat × It)) (lost : List Int) : List Int := if l.length < 64 then lost else bump ((l.head?.map (·.2.u)).getD []) lost
theorem Mk.fin {w : World} {e : Ev} {b5 b9 : Nat} {cl ws : List Int} {wr : World} {k : Nat} (h : Mk w e b5 b9 (uFill e.t cl ws k) wr) (hk : k = cl.length) : Mk w e b5 b9 (uOf e.t cl ws) wr := by
  subst hk
  exact h

set_option maxHeartbeats 4000000 in
theorem put_ok {B q : Nat} {w : World} {l : List (Nat × It)} {lost : List Int} {e : Ev} {cl ws : List Int} {A D : Option Addr} {n m c0 c1 : Nat} (hn : n = cl.length) (hm : m = ws.length) (hq : QIs B w q l lost)
    (hA : Nums w A cl) (hD : Nums w D ws) (hR : Rising cl ws) (h9 : cl.length ≤ 100) (h0 : 0 < cl.length) (ht0 : 0 ≤ e.t) (ht1 : e.t ≤ 1099511627776) (hlo : ∀ x ∈ lost, 0 ≤ x ∧ x < 1152921504606846976) :
    Calls Try.prog 9 #[.pointer (some ⟨q, 0, none⟩), evA e, .slice A n c0, .slice D m c1] w fun e' w' => e' = .returned (.int .i64 0) ∧ ∃ x, QIs B w' q (putL l (x, ⟨e, uOf e.t cl ws⟩)) (putLost l lost) ∧ BK B w w' := by
  unfold evA
  go_enter Try.func9, Try.ntmps9
  go_upto_region 1 with fail
  obtain ⟨b5, hb5⟩ : ∃ b5, b5 = w.heap.size := ⟨_, rfl⟩
  obtain ⟨w0, hw0⟩ : ∃ w0, w0 = w.alloc (.cells (evs e).toArray 31) := ⟨_, rfl⟩
  rw [show (w.alloc (.cells #[.int .i64 e.s, .int .i64 e.t, .int .i64 e.v0, .int .i64 e.v1, .int .i64 e.v2, .int .i64 e.v3] 31)) = w0 from hw0.symm, ← hb5]
  have hk0 : Keeps [] w w0 := by rw [hw0]; exact (Keeps.refl _ _).alloc _
  have hx5 : w0.heap[b5]? = some (.cells (evs e).toArray 31 (0, 0)) := by rw [hw0, hb5]; exact heap_alloc_new _ _
  have hRI := Go.Lib.hid (rising (c0 := c0) (c1 := c1) hn hm w0 (hA.keeps hk0 (by simp)) (hD.keeps hk0 (by simp)) hR h9)
  have HTI := Go.Lib.hid (time_yes ht0 ht1 w0)
  have e0 : w0.cell? ⟨b5, 0, none⟩ = some (.int .i64 e.s) := (cell_at hx5 rfl).1
  have e1 : w0.cell? ⟨b5, 1, none⟩ = some (.int .i64 e.t) := (cell_at hx5 rfl).1
  have e2 : w0.cell? ⟨b5, 2, none⟩ = some (.int .i64 e.v0) := (cell_at hx5 rfl).1
  have e3 : w0.cell? ⟨b5, 3, none⟩ = some (.int .i64 e.v1) := (cell_at hx5 rfl).1
  have e4 : w0.cell? ⟨b5, 4, none⟩ = some (.int .i64 e.v2) := (cell_at hx5 rfl).1
  have e5 : w0.cell? ⟨b5, 5, none⟩ = some (.int .i64 e.v3) := (cell_at hx5 rfl).1
  have HQ := Go.Lib.hid hq
  have HA := Go.Lib.hid hA
  have HD := Go.Lib.hid hD
  have HRS := Go.Lib.hid hR
  have HN := Go.Lib.hid hn
  have HM_ := Go.Lib.hid hm
  have HK0 := Go.Lib.hid hk0
  have HX5 := Go.Lib.hid hx5
  have hn0 : 0 < n := by omega
  have HN9 : Hid (n ≤ 100) := (show n ≤ 100 by omega)
  have f0 : ((n : Int) == 0) = false := by simp; omega
  have f1 : (n == 0) = false := by simp; omega
  have hw5 : w.heap.size ≤ b5 := by omega
  clear hq hA hD hR hn hm hk0 hx5 hw0 hb5
  go_wp2_with fail
  refine hRI.out.mono ?_
  rintro e' w' ⟨rfl, rfl⟩
  go_wp2_with fail
  refine HTI.out.mono ?_
  rintro e' w' ⟨rfl, rfl⟩
  go_upto_region 6 with fail
  obtain ⟨b9, hb9⟩ : ∃ b9, b9 = w0.heap.size := ⟨_, rfl⟩
  obtain ⟨w1, hw1⟩ : ∃ w1, w1 = w0.alloc (.cells (itA ⟨e, uNeg 0⟩) 73) := ⟨_, rfl⟩
  rw [show (w0.alloc (.cells #[.int .i64 e.s, .int .i64 e.t, .int .i64 e.v0, .int .i64 e.v1, .int .i64 e.v2, .int .i64 e.v3, .int .i64 0, .int .i64 0, .int .i64 0, .int .i64 0, .int .i64 0, .int .i64 0, .int .i64 0, .int .i64 0] 73)) = w1 from hw1.symm, ← hb9]
  have HM0 : Hid (Mk w e b5 b9 (uNeg 0) w1) := by
    refine ⟨?_, ?_, ?_, hw5, ?_⟩
    · rw [hw1]; exact HK0.out.alloc _
    · rw [hw1, Below.heap_alloc _ _ _ (lt_of_block HX5.out)]; exact HX5.out
    · rw [hw1, hb9]; exact heap_alloc_new _ _
    · rw [hb9]; exact lt_of_block HX5.out
  clear hw1 hb9 e0 e1 e2 e3 e4 e5 HK0 HX5
  go_upto_region 7 with fail
  go_loopw [33] (fun i wr => ∃ k : Nat, i = .int .i64 k ∧ k ≤ 8 ∧ Hid (Mk w e b5 b9 (uNeg k) wr)) (fun i _ => 8 - (intOf i).toNat)
  case atStart => exact ⟨0, rfl, by omega, HM0⟩
  case round =>
    obtain ⟨k, rfl, hk, HM⟩ := hrel
    by_cases hlt : k < 8
    · have d1 : decide (k < 8) = true := decide_eq_true hlt
      have d2 : decide ((k : Int) < 8) = true := decide_eq_true (by omega)
      obtain ⟨c0', z0⟩ := cell_at HM.out.item (itA_get (x := ⟨e, uNeg k⟩) (uNeg_get k hlt))
      have HS := Go.Lib.hid (HM.out.set 0 k (-1))
      rw [uNeg_set k hlt] at HS
      go_wp2_with fail
      exact ⟨⟨k + 1, by go_num, by omega, HS⟩, by simp [intOf]; omega⟩
    · obtain rfl : k = 8 := by omega
      have HM1 : Hid (Mk w e b5 b9 (uFill e.t cl ws 0) wr) := HM
      clear HM
      go_upto_region 12 with fail
      go_loopw [44] (fun i wr => ∃ k : Nat, i = .int .i64 k ∧ k ≤ n ∧ Hid (Mk w e b5 b9 (uFill e.t cl ws k) wr)) (fun i _ => n - (intOf i).toNat)
      case atStart => exact ⟨0, rfl, by omega, HM1⟩
      case round =>
        obtain ⟨k, rfl, hk, HM⟩ := hrel
        by_cases hlt : k < n
        · obtain ⟨c, x, hc, hx, g0, g1, g2, g3, _⟩ := HRS.out.2 k (by have := HN.out; omega)
          have hmn : m = n := by have h1 := HN.out; have h2 := HM_.out; have h3 := HRS.out.1; omega
          obtain ⟨a, hAa, a0⟩ := (HA.out.keeps HM.out.keeps (by simp)) k c hc
          obtain ⟨d, hDd, b0⟩ := (HD.out.keeps HM.out.keeps (by simp)) k x hx
          obtain ⟨cn, rfl⟩ : ∃ cn : Nat, c = cn := ⟨c.toNat, by omega⟩
          have hc8 : cn < 8 := by omega
          have d1 : decide (k < n) = true := decide_eq_true hlt
          have d2 : decide (k < m) = true := decide_eq_true (by omega)
          have d3 : decide (cn < 8) = true := decide_eq_true hc8
          have hu : (uFill e.t cl ws (k + 1)) = (uFill e.t cl ws k).set cn (e.t + x) := by simp [uFill, hc, hx]
          have hlu : cn < (uFill e.t cl ws k).length := by rw [uFill_len]; exact hc8
          obtain ⟨p, hp⟩ : ∃ p, (uFill e.t cl ws k)[cn]? = some p := ⟨_, List.getElem?_eq_getElem hlu⟩
          obtain ⟨y0, y1⟩ := cell_at HM.out.item (itA_get (x := ⟨e, uFill e.t cl ws k⟩) hp)
          obtain ⟨t0, _⟩ := cell_at HM.out.box (show (evs e).toArray[1]? = some (.int .i64 e.t) from rfl)
          have HS : ∀ j, Hid (Mk w e b5 b9 (uFill e.t cl ws (k + 1)) ((wr.drewN j).setCell ⟨b9, 6 + cn, none⟩ (.int .i64 (e.t + x)))) := fun j => by rw [hu]; exact HM.out.set j cn (e.t + x)
          subst hAa hDd
          clear hu hlu hp hc hx
          clear d3
          have d3 : decide (cn < 8) = true := decide_eq_true hc8
          have hn9 := HN9.out
          as_aux_lemma =>
          go_wp2_with fail
          refine QTail.wp_region_dtail 12 (by kernel_rfl) (by kernel_rfl) ?_
          simp only [List.take_succ_cons, List.take_zero, List.drop_succ_cons, List.drop_zero]
          repeat (go_big_quiet_step (fail))
          refine wpQuiet_nil ?_
          rintro _ ⟨n1, rfl⟩
          go_wp2_with fail
          exact ⟨⟨k + 1, by go_num, by omega, HS n1⟩, by simp [intOf]; omega⟩
        · obtain rfl : k = n := by omega
          have HN3 := Go.Lib.hid (HM.out.fin HN.out)
          have HB : Hid (B ≤ w.heap.size) := by obtain ⟨g, h, c, hq⟩ := HQ.out; have h1 := hq.base.1; have h2 := hq.lts.1; show B ≤ w.heap.size; omega
          have HL : Hid (∀ {wx : World} {u : List Int}, Mk w e b5 b9 u wx → ∀ p ∈ l, p.1 ≠ b9) := fun hm p hp => by
            obtain ⟨g, h, c, hq⟩ := HQ.out
            have h1 := hq.lts.2.2.2.2 p hp
            have h2 := hm.new5
            have h3 := hm.new9
            omega
          clear HM
          go_upto_region 16 with fail
          as_aux_lemma =>
          obtain ⟨g, h, c, hq⟩ := HQ.out
          have hq1 := hq.new HN3.out.keeps
          obtain ⟨cq, _⟩ := cell_at hq1.own (qA_zero g lost)
          by_cases hroom : l.length < 64
          · have HP := Go.Lib.hid (RPtr.push_room (x := b9) hq1.ring (by simpa using hroom))
            have HQ1 := Go.Lib.hid hq1
            clear hq hq1
            go_wp2_with fail
            refine HP.out.mono ?_
            rintro e' w2 ⟨rfl, hr2, hk2⟩
            have HR2 := Go.Lib.hid hr2
            have HK2 := Go.Lib.hid hk2
            clear hr2 hk2
            go_wp2
            go_ret
            refine ⟨rfl, b9, ?_, ?_⟩
            · rw [putL, if_pos hroom, putLost, if_pos hroom]
              exact ⟨g, h, c, HQ1.out.more (by simpa using HR2.out) HK2.out ⟨by have := HQ1.out.base.1; have := HQ1.out.lts; have h1 := HN3.out.new5; have h2 := HN3.out.new9; have h3 := HB.out; omega, HN3.out.item, uFill_len _ _ _ _⟩ (HL.out HN3.out) (fun p hp => hp)  HQ1.out.nodup⟩
            · exact (BK.new HN3.out.keeps).trans (BK.of_keeps HK2.out HQ1.out.kin)
          · have hle := hq1.ring.len
            rw [List.length_map] at hle
            obtain ⟨y, tl, rfl⟩ : ∃ y tl, l = y :: tl := by
              cases l with
              | nil => simp at hroom
              | cons y tl => exact ⟨y, tl, rfl⟩
            have hfull : tl.length + 1 = 64 := by simp only [List.length_cons] at hle hroom; omega
            have HP := Go.Lib.hid (RPtr.push_full (x := b9) (y := y.1) (l := tl.map (·.1)) hq1.ring (by simpa using hfull))
            have HQ1 := Go.Lib.hid hq1
            clear hq hq1 hle hfull
            go_wp2_with fail
            refine HP.out.mono ?_
            rintro e' w2 ⟨rfl, hr2, hk2⟩
            have HQ2 : Hid (QAt B w2 q g h c (tl ++ [(b9, ⟨e, uOf e.t cl ws⟩)]) lost) := HQ1.out.more (by simpa using hr2) hk2 ⟨by have := HQ1.out.base.1; have := HQ1.out.lts; have h1 := HN3.out.new5; have h2 := HN3.out.new9; have h3 := HB.out; omega, HN3.out.item, uFill_len _ _ _ _⟩ (fun p hp => HL.out HN3.out p (List.mem_cons_of_mem _ hp)) (fun p hp => List.mem_cons_of_mem _ hp) ((List.nodup_cons.1 (show (y.1 :: tl.map (·.1)).Nodup from HQ1.out.nodup)).2)
            have HBK : Hid (BK B w w2) := (BK.new HN3.out.keeps).trans (BK.of_keeps hk2 HQ1.out.kin)
            have hy2 : w2.heap[y.1]? = some (.cells (itA y.2) 73 (0, 0)) := hk2.heap (HQ1.out.item y (by simp)) (ring_apart HQ1.out.ring (HQ1.out.item y (by simp)) (by decide) (by decide))
            obtain ⟨u0, u1, u2, u3, u4, u5, u6, u7, hu⟩ := eight (HQ1.out.wide y (by simp))
            have y0 := (cell_at hy2 (show (itA y.2)[6]? = some (.int .i64 u0) from itA_get (c := 0) (by rw [hu]; rfl))).1
            have y1 := (cell_at hy2 (show (itA y.2)[7]? = some (.int .i64 u1) from itA_get (c := 1) (by rw [hu]; rfl))).1
            have y2 := (cell_at hy2 (show (itA y.2)[8]? = some (.int .i64 u2) from itA_get (c := 2) (by rw [hu]; rfl))).1
            have y3 := (cell_at hy2 (show (itA y.2)[9]? = some (.int .i64 u3) from itA_get (c := 3) (by rw [hu]; rfl))).1
            have y4 := (cell_at hy2 (show (itA y.2)[10]? = some (.int .i64 u4) from itA_get (c := 4) (by rw [hu]; rfl))).1
            have y5 := (cell_at hy2 (show (itA y.2)[11]? = some (.int .i64 u5) from itA_get (c := 5) (by rw [hu]; rfl))).1
            have y6 := (cell_at hy2 (show (itA y.2)[12]? = some (.int .i64 u6) from itA_get (c := 6) (by rw [hu]; rfl))).1
            have y7 := (cell_at hy2 (show (itA y.2)[13]? = some (.int .i64 u7) from itA_get (c := 7) (by rw [hu]; rfl))).1
            have HU := Go.Lib.hid hu
            clear hr2 hk2 hy2 hu
            go_upto_region 19 with fail
            obtain ⟨U, hU⟩ : ∃ U : Array Value, U = #[.int .i64 u0, .int .i64 u1, .int .i64 u2, .int .i64 u3, .int .i64 u4, .int .i64 u5, .int .i64 u6, .int .i64 u7] := ⟨_, rfl⟩
            rw [← hU]
            have HUU : Hid (∀ (j : Nat) (x : Int), y.2.u[j]? = some x → ∀ w : World, (Instr.index 45 (.agg U) (.int .i64 j)).run Try.prog w = .ok (.int .i64 x) w) := fun j x hx => by
              rw [show U = (ints y.2.u).toArray from by rw [hU, HU.out]; rfl]
              exact run_index8 (HQ1.out.wide y (by simp)) hx
            clear hU y0 y1 y2 y3 y4 y5 y6 y7 cq
            go_loopw [76] (fun i wx => ∃ j : Nat, i = .int .i64 j ∧ j ≤ 8 ∧ Hid (QAt B wx q g h c (tl ++ [(b9, ⟨e, uOf e.t cl ws⟩)]) (bumpTo y.2.u lost j)) ∧ Hid (BK B w wx)) (fun i _ => 8 - (intOf i).toNat)
            case atStart => exact ⟨0, rfl, by omega, HQ2, HBK⟩
            case round =>
              obtain ⟨j, rfl, hj, HQJ, HBJ⟩ := hrel
              by_cases hlt : j < 8
              · obtain ⟨x, hx⟩ : ∃ x, y.2.u[j]? = some x := ⟨_, List.getElem?_eq_getElem (by rw [HU.out]; simpa using hlt)⟩
                obtain ⟨z, hz⟩ : ∃ z, lost[j]? = some z := ⟨_, List.getElem?_eq_getElem (by rw [HQ1.out.lost8]; exact hlt)⟩
                have hv := HUU.out j x hx
                have hzb := hlo z (List.mem_of_getElem? hz)
                have hbz : (bumpTo y.2.u lost j)[j]? = some z := by rw [bumpTo_get, if_neg (by omega)]; exact hz
                obtain ⟨q0, q1⟩ := cell_at HQJ.out.own (qA_get (g := g) hbz)
                have d1 : decide (j < 8) = true := decide_eq_true hlt
                have d2 : decide ((j : Int) < 8) = true := decide_eq_true (by omega)
                by_cases hx0 : 0 ≤ x
                · have d3 : decide (0 ≤ x) = true := decide_eq_true hx0
                  have hnew : bumpTo y.2.u lost (j + 1) = (bumpTo y.2.u lost j).set j (z + 1) := by rw [bumpTo, if_pos (by simpa [hx] using hx0)]; simp [hz]
                  have HS : ∀ i, Hid (QAt B ((wr.drewN i).setCell ⟨q, 1 + j, none⟩ (.int .i64 (z + 1))) q g h c (tl ++ [(b9, ⟨e, uOf e.t cl ws⟩)]) (bumpTo y.2.u lost (j + 1))) := fun i => by rw [hnew]; exact (HQJ.out.drewN i).lose j (z + 1)
                  have HT : ∀ i, Hid (BK B w ((wr.drewN i).setCell ⟨q, 1 + j, none⟩ (.int .i64 (z + 1)))) := fun i => HBJ.out.trans (HQJ.out.loseBK i j _)
                  clear hx hz hbz hnew
                  go_upto_region 22 with fail
                  refine QTail.wp_region_dtail 10 (by kernel_rfl) (by kernel_rfl) ?_
                  simp only [List.take_succ_cons, List.take_zero, List.drop_succ_cons, List.drop_zero]
                  repeat (go_big_quiet_step (fail))
                  refine wpQuiet_nil ?_
                  rintro _ ⟨n1, rfl⟩
                  go_wp2_with fail
                  exact ⟨⟨j + 1, by go_num, by omega, HS n1, HT n1⟩, by simp [intOf]; omega⟩
                · have d3 : decide (0 ≤ x) = false := decide_eq_false hx0
                  have hnew : bumpTo y.2.u lost (j + 1) = bumpTo y.2.u lost j := by rw [bumpTo, if_neg (by simpa [hx] using hx0)]
                  have HS : Hid (QAt B wr q g h c (tl ++ [(b9, ⟨e, uOf e.t cl ws⟩)]) (bumpTo y.2.u lost (j + 1))) := by rw [hnew]; exact HQJ
                  clear hx hz hbz hnew
                  go_wp2_with fail
                  exact ⟨⟨j + 1, by go_num, by omega, HS, HBJ⟩, by simp [intOf]; omega⟩
              · obtain rfl : j = 8 := by omega
                go_wp2_with fail
                go_ret
                refine ⟨rfl, b9, ?_, HBJ.out⟩
                rw [putL, if_neg hroom, putLost, if_neg hroom]
                exact ⟨g, h, c, HQJ.out⟩

theorem put_none {w : World} {e : Ev} {A D : Option Addr} {c0 c1 : Nat} (q : Nat) (ht0 : 0 ≤ e.t) (ht1 : e.t ≤ 1099511627776) :
    Calls Try.prog 9 #[.pointer (some ⟨q, 0, none⟩), evA e, .slice A (0 : Nat) c0, .slice D (0 : Nat) c1] w fun e' w' => e' = .returned (.int .i64 0) ∧ Keeps [] w w' := by
  unfold evA
  go_enter Try.func9, Try.ntmps9
  go_upto_region 1 with fail
  obtain ⟨b5, hb5⟩ : ∃ b5, b5 = w.heap.size := ⟨_, rfl⟩
  obtain ⟨w0, hw0⟩ : ∃ w0, w0 = w.alloc (.cells (evs e).toArray 31) := ⟨_, rfl⟩
  rw [show (w.alloc (.cells #[.int .i64 e.s, .int .i64 e.t, .int .i64 e.v0, .int .i64 e.v1, .int .i64 e.v2, .int .i64 e.v3] 31)) = w0 from hw0.symm, ← hb5]
  have hk0 : Keeps [] w w0 := by rw [hw0]; exact (Keeps.refl _ _).alloc _
  have hx5 : w0.heap[b5]? = some (.cells (evs e).toArray 31 (0, 0)) := by rw [hw0, hb5]; exact heap_alloc_new _ _
  have hRI := Go.Lib.hid (rising (cl := []) (ws := []) (n := 0) (m := 0) (A := A) (D := D) (c0 := c0) (c1 := c1) rfl rfl w0 (fun i x h => by simp at h) (fun i x h => by simp at h) ⟨rfl, fun i h => by simp at h⟩ (by simp))
  have HTI := Go.Lib.hid (time_yes ht0 ht1 w0)
  have e1 : w0.cell? ⟨b5, 1, none⟩ = some (.int .i64 e.t) := (cell_at hx5 rfl).1
  have HK0 := Go.Lib.hid hk0
  clear hk0 hx5 hw0 hb5
  go_wp2_with fail
  refine hRI.out.mono ?_
  rintro e' w' ⟨rfl, rfl⟩
  go_wp2_with fail
  refine HTI.out.mono ?_
  rintro e' w' ⟨rfl, rfl⟩
  go_wp2_with fail
  go_ret
  exact ⟨rfl, HK0.out⟩
end Go.Proofs.Ytldnnkceeeinlaa
