/- The reference's 'Put'. No condition but the queue's own and the bounds of its numbers. -/
import Derived.Test.YtldnnkceeeinlaaBRefA
import Derived.RegionTactic
namespace Go.Proofs.Ytldnnkceeeinlaa
open Go.RowKit

theorem append18 {a : Go.Act} {w : World} {K : Go.Act → World → Prop} {Q : Exit → Go.Act → World → Prop} {v v' s : Value} {w' : World} {ty : TypeId} {pos : String} {af : Array Edge} (h1 : a.eval (.tmp 85) = v) (h2 : a.eval (.tmp 87) = s)
    (hr : (Builtin.append_ #[53, 53] ty #[v, s]).run Try.prog w = .ok v' w') (h : K (a.put (some 88) v') w') :
    Oper.wp Try.prog { dst := some 88, op := Op.call { callee := Callee.builtin Builtin.append, args := #[Operand.tmp 85, Operand.tmp 87], argTypes := #[53, 53] }, type := ty, pos := pos, after := af, guard := none } a w K Q := by
  unfold Oper.wp execOp
  simp only [resolve, invoke, builtin, Sem.run_bind, Sem.run_pure, Result.andThen_ok, List.map_toArray, List.map_cons, List.map_nil, h1, h2, hr]
  exact h

/-- What is left of a full row ahead of a push. -/
def dropM (m : List It) : List It := if m.length < 64 then m else m.tail
theorem putM_drop (m : List It) (x : It) : putM m x = dropM m ++ [x] := by
  unfold putM dropM
  split <;> rfl

/-- Between the dropping and the making of an item. -/
structure PutA (B : Nat) (W0 : World) (r b5 : Nat) (e : Ev) (m : List It) (lost : List Int) (W : World) : Prop where
  rl : RL B W r m lost
  rk : RK B W0 W
  box : W.heap[b5]? = some (.cells (evs e).toArray 31 (0, 0))

/-- What the making of an item leaves: the event's box, the item. -/
structure MkR (w : World) (e : Ev) (b5 b9 : Nat) (u : List Int) (wr : World) : Prop where
  keeps : Keeps [] w wr
  box : wr.heap[b5]? = some (.cells (evs e).toArray 31 (0, 0))
  item : wr.heap[b9]? = some (.cells (itA ⟨e, u⟩) 85 (0, 0))
  new5 : b5 < w.heap.size
  new9 : w.heap.size ≤ b9
theorem MkR.set {w : World} {e : Ev} {b5 b9 : Nat} {u : List Int} {wr : World} (h : MkR w e b5 b9 u wr) (n k : Nat) (x : Int) : MkR w e b5 b9 (u.set k x) ((wr.drewN n).setCell ⟨b9, 6 + k, none⟩ (.int .i64 x)) := by
  have hn := h.new9
  have h5 := h.new5
  refine ⟨(h.keeps.drewN n).setNew (by simp; omega) _, ?_, ?_, h5, hn⟩
  · rw [Below.heap_setCell _ _ _ _ (by simp; omega)]; exact h.box
  · rw [heap_setCell_self (w := wr.drewN n) (cs := itA ⟨e, u⟩) (t := 85) (fr := (0, 0)) h.item, itA_set]
theorem MkR.fin {w : World} {e : Ev} {b5 b9 : Nat} {cl ws : List Int} {wr : World} {k : Nat} (h : MkR w e b5 b9 (uFill e.t cl ws k) wr) (hk : k = cl.length) : MkR w e b5 b9 (uOf e.t cl ws) wr := by
  subst hk
  exact h

set_option maxHeartbeats 4000000 in
set_option maxRecDepth 100000 in
theorem r_put {B r : Nat} {w00 w : World} {m : List It} {lost : List Int} {e : Ev} {cl ws : List Int} {A D : Option Addr} {n k c0 c1 : Nat} (hn : n = cl.length) (hm : k = ws.length) (h : RL B w r m lost)
    (hA : Nums w00 A cl) (hD : Nums w00 D ws) (hk00 : Keeps [] w00 w) (hB00 : w00.heap.size ≤ B) (hR : Rising cl ws) (h9 : cl.length ≤ 100) (h0 : 0 < cl.length) (ht0 : 0 ≤ e.t) (ht1 : e.t ≤ 1099511627776) (hlo : ∀ x ∈ lost, 0 ≤ x ∧ x < 1152921504606846976) (hBw : B ≤ w.heap.size) :
    Calls Try.prog 28 #[.pointer (some ⟨r, 0, none⟩), evA e, .slice A n c0, .slice D k c1] w fun e' w' => (∃ v, e' = .returned v) ∧ RL B w' r (putM m ⟨e, uOf e.t cl ws⟩) (lostM m lost) ∧ RK B w w' := by
  obtain ⟨v, h⟩ := h
  obtain ⟨ad, cp, rfl⟩ := h.row.form
  have h64 := h.few
  have hn0 : 0 < n := by omega
  have hn100 : n ≤ 100 := by omega
  have f0 : ((n : Int) == 0) = false := by simp; omega
  have f1 : (n == 0) = false := by simp; omega
  have HA := Go.Lib.hid hA
  have HK00 := Go.Lib.hid hk00
  have HD := Go.Lib.hid hD
  have HRS := Go.Lib.hid hR
  have HN := Go.Lib.hid hn
  have HM_ := Go.Lib.hid hm
  unfold evA
  go_enter Try.func28, Try.ntmps28
  go_upto_region 1 with fail
  obtain ⟨b5, hb5⟩ : ∃ b5, b5 = w.heap.size := ⟨_, rfl⟩
  obtain ⟨w0, hw0⟩ : ∃ w0, w0 = w.alloc (.cells (evs e).toArray 31) := ⟨_, rfl⟩
  rw [show (w.alloc (.cells #[.int .i64 e.s, .int .i64 e.t, .int .i64 e.v0, .int .i64 e.v1, .int .i64 e.v2, .int .i64 e.v3] 31)) = w0 from hw0.symm, ← hb5]
  have hk0 : Keeps [] w w0 := by rw [hw0]; exact (Keeps.refl _ _).alloc _
  have hx5 : w0.heap[b5]? = some (.cells (evs e).toArray 31 (0, 0)) := by rw [hw0, hb5]; exact heap_alloc_new _ _
  have hq0 := h.keep (W' := w0) (fun i o ho _ => hk0.heap ho (by simp))
  have HK0 := Go.Lib.hid hk0
  have HX5 := Go.Lib.hid hx5
  have HQ0 := Go.Lib.hid hq0
  have hw5 : w.heap.size ≤ b5 := by omega
  obtain ⟨p0, _⟩ := cell_at hq0.own (rA_zero _ lost)
  have hBB : B ≤ w0.heap.size := by have := hk0.size; omega
  clear h hA hD hR hn hm hk00 hk0 hx5 hq0 hw0 hb5
  go_upto_if 20 with fail
  go_cut [8] from 20 to 52 (fun s8 wx => Hid (PutA B w r b5 e (dropM m) (lostM m lost) wx))
  case first =>
    by_cases hroom : m.length < 64
    · have e1 : ((m.length : Int) == 64) = false := by simp; omega
      have e2 : (m.length == 64) = false := by simp; omega
      have HP : Hid (PutA B w r b5 e (dropM m) (lostM m lost) w0) := by
        refine ⟨?_, RK.new HK0.out, HX5.out⟩
        rw [dropM, if_pos hroom, lostM, if_pos hroom]
        exact ⟨_, HQ0.out⟩
      go_wp2
      go_meet
      case rel => exact HP
    · have hfull : m.length = 64 := by omega
      obtain ⟨y, tl, hm⟩ : ∃ y tl, m = y :: tl := by
        cases m with
        | nil => simp at hfull
        | cons y tl => exact ⟨y, tl, rfl⟩
      have e1 : ((m.length : Int) == 64) = true := by simp; omega
      have e2 : (m.length == 64) = true := by simp; omega
      obtain ⟨g, o, rfl, hgB, hcp, hrow⟩ := HQ0.out.row.at (by omega)
      have hy : m[0]? = some y := by rw [hm]; rfl
      have h8 := HQ0.out.wide y (by rw [hm]; simp)
      have hdr : dropM m = tl := by rw [dropM, if_neg hroom, hm]; rfl
      have hlo' : lostM m lost = bumpTo y.u lost 8 := by rw [lostM, if_neg hroom, hm]; rfl
      have HY := Go.Lib.hid hy
      have HM := Go.Lib.hid hm
      have HDR := Go.Lib.hid hdr
      have HLO := Go.Lib.hid hlo'
      have HF := Go.Lib.hid hfull
      have HR0 := Go.Lib.hid hrow
      clear hm hy hdr hlo' hfull hrow
      go_upto_region 4 with fail
      go_loopw [8] (fun si wr => ∃ j : Nat, si = .int .i64 j ∧ j ≤ 8 ∧ Hid (RQ B wr r (.slice (some ⟨g, o, none⟩) m.length cp) m (bumpTo y.u lost j)) ∧ Hid (RK B w0 wr)) (fun si _ => 8 - (intOf si).toNat)
      case atStart => exact ⟨0, rfl, by omega, HQ0, RK.refl _ _⟩
      case round =>
        obtain ⟨j, rfl, hj, HQJ, HKJ⟩ := hrel
        clear p0
        obtain ⟨p0, p1⟩ := cell_at HQJ.out.own (rA_zero _ (bumpTo y.u lost j))
        obtain ⟨g', o', hgo, _, _, hrow⟩ := HQJ.out.row.at (by have := HF.out; omega)
        obtain ⟨rfl, rfl⟩ : g' = g ∧ o' = o := by simpa using hgo.symm
        by_cases hlt : j < 8
        · have d1 : decide (j < 8) = true := decide_eq_true hlt
          have d2 : decide ((j : Int) < 8) = true := decide_eq_true (by omega)
          obtain ⟨x, hx⟩ : ∃ x, y.u[j]? = some x := ⟨_, List.getElem?_eq_getElem (by omega)⟩
          obtain ⟨z, hz⟩ : ∃ z, lost[j]? = some z := ⟨_, List.getElem?_eq_getElem (by rw [HQ0.out.lost8]; exact hlt)⟩
          have hzb := hlo z (List.mem_of_getElem? hz)
          have hbz : (bumpTo y.u lost j)[j]? = some z := by rw [bumpTo_get, if_neg (by omega)]; exact hz
          obtain ⟨q0, q1⟩ := cell_at HQJ.out.own (rA_get (v := .slice (some ⟨g', o', none⟩) m.length cp) hbz)
          have y0 := (hrow.line HY.out hx).1
          rw [Nat.zero_mul, Nat.add_zero] at y0
          have hm0 : 0 < m.length := by have := HF.out; omega
          have d4 : decide (0 < m.length) = true := decide_eq_true hm0
          by_cases hx0 : 0 ≤ x
          · have d3 : decide (0 ≤ x) = true := decide_eq_true hx0
            have hnew : bumpTo y.u lost (j + 1) = (bumpTo y.u lost j).set j (z + 1) := by rw [bumpTo, if_pos (by simpa [hx] using hx0)]; simp [hz]
            have HS : ∀ i, Hid (RQ B ((wr.drewN i).setCell ⟨r, 1 + j, none⟩ (.int .i64 (z + 1))) r (.slice (some ⟨g', o', none⟩) m.length cp) m (bumpTo y.u lost (j + 1))) := fun i => by rw [hnew]; exact HQJ.out.lose i j (z + 1)
            have HT : ∀ i, Hid (RK B w0 ((wr.drewN i).setCell ⟨r, 1 + j, none⟩ (.int .i64 (z + 1)))) := fun i => HKJ.out.trans (HQJ.out.loseRK i (1 + j) _)
            clear hx hz hbz hnew hrow hgo
            go_upto_region 7 with fail
            refine QTail.wp_region_dtail 10 (by kernel_rfl) (by kernel_rfl) ?_
            simp only [List.take_succ_cons, List.take_zero, List.drop_succ_cons, List.drop_zero]
            repeat (go_big_quiet_step (fail))
            refine wpQuiet_nil ?_
            rintro _ ⟨n1, rfl⟩
            go_wp2_with fail
            exact ⟨⟨j + 1, by go_num, by omega, HS n1, HT n1⟩, by simp [intOf]; omega⟩
          · have d3 : decide (0 ≤ x) = false := decide_eq_false hx0
            have hnew : bumpTo y.u lost (j + 1) = bumpTo y.u lost j := by rw [bumpTo, if_neg (by simpa [hx] using hx0)]
            have HS : Hid (RQ B wr r (.slice (some ⟨g', o', none⟩) m.length cp) m (bumpTo y.u lost (j + 1))) := by rw [hnew]; exact HQJ
            clear hx hz hbz hnew hrow hgo
            go_wp2_with fail
            exact ⟨⟨j + 1, by go_num, by omega, HS, HKJ⟩, by simp [intOf]; omega⟩
        · obtain rfl : j = 8 := by omega
          have hcp64 : 1 < cp := by obtain ⟨_, _, h2, _⟩ := hrow.ex; have := HF.out; omega
          have hm1 : 1 ≤ m.length := by have := HF.out; omega
          have hle : m.length ≤ cp := by obtain ⟨_, _, h2, _⟩ := hrow.ex; omega
          have hcpx : cp ≤ maxLen := by assumption
          have HP : Hid (PutA B w r b5 e (dropM m) (lostM m lost) (wr.setCell ⟨r, 0, none⟩ (.slice (some ⟨g', o' + 14, none⟩) (m.length - 1) (cp - 1)))) := by
            rw [HM.out] at hrow
            have htl := hrow.tail
            have hml : m.length - 1 = tl.length := by rw [HM.out]; rfl
            have hk1 : RK B w0 (wr.setCell ⟨r, 0, none⟩ (.slice (some ⟨g', o' + 14, none⟩) (m.length - 1 : Nat) (cp - 1))) := HKJ.out.trans (HQJ.out.loseRK 0 0 (.slice (some ⟨g', o' + 14, none⟩) (m.length - 1 : Nat) (cp - 1)))
            refine ⟨⟨.slice (some ⟨g', o' + 14, none⟩) tl.length (cp - 1), ?_⟩, (RK.new HK0.out).trans hk1, hk1.keep _ _ HX5.out (.inr rfl)⟩
            rw [HDR.out, HLO.out, hml]
            exact HQJ.out.swap (.inr ⟨g', o' + 14, cp - 1, rfl, hgB, by omega, htl⟩) (fun x hx => HQJ.out.wide x (by rw [HM.out]; exact List.mem_cons_of_mem _ hx)) (by have := HF.out; omega)
          clear hrow hgo
          unfold maxLen at hcpx
          go_wp2
          go_meet
          case rel => exact HP
  case rest =>
    clear HQ0 p0 HK0 HX5
    have HPA := Go.Lib.hid hcut.out
    clear hcut
    have e0 : wc.cell? ⟨b5, 0, none⟩ = some (.int .i64 e.s) := (cell_at HPA.out.box rfl).1
    have e1 : wc.cell? ⟨b5, 1, none⟩ = some (.int .i64 e.t) := (cell_at HPA.out.box rfl).1
    have e2 : wc.cell? ⟨b5, 2, none⟩ = some (.int .i64 e.v0) := (cell_at HPA.out.box rfl).1
    have e3 : wc.cell? ⟨b5, 3, none⟩ = some (.int .i64 e.v1) := (cell_at HPA.out.box rfl).1
    have e4 : wc.cell? ⟨b5, 4, none⟩ = some (.int .i64 e.v2) := (cell_at HPA.out.box rfl).1
    have e5 : wc.cell? ⟨b5, 5, none⟩ = some (.int .i64 e.v3) := (cell_at HPA.out.box rfl).1
    go_upto_region 10 with fail
    obtain ⟨b9, hb9⟩ : ∃ b9, b9 = wc.heap.size := ⟨_, rfl⟩
    obtain ⟨w1, hw1⟩ : ∃ w1, w1 = wc.alloc (.cells (itA ⟨e, uNeg 0⟩) 85) := ⟨_, rfl⟩
    rw [show (wc.alloc (.cells #[.int .i64 e.s, .int .i64 e.t, .int .i64 e.v0, .int .i64 e.v1, .int .i64 e.v2, .int .i64 e.v3, .int .i64 0, .int .i64 0, .int .i64 0, .int .i64 0, .int .i64 0, .int .i64 0, .int .i64 0, .int .i64 0] 85)) = w1 from hw1.symm, ← hb9]
    have HM0 : Hid (MkR wc e b5 b9 (uNeg 0) w1) := by
      refine ⟨?_, ?_, ?_, lt_of_block HPA.out.box, ?_⟩
      · rw [hw1]; exact (Keeps.refl _ _).alloc _
      · rw [hw1, Below.heap_alloc _ _ _ (lt_of_block HPA.out.box)]; exact HPA.out.box
      · rw [hw1, hb9]; exact heap_alloc_new _ _
      · rw [hb9]; exact Nat.le_refl _
    clear hw1 hb9 e0 e1 e2 e3 e4 e5
    go_upto_region 11 with fail
    go_loopw [10] (fun i wr => ∃ k : Nat, i = .int .i64 k ∧ k ≤ 8 ∧ Hid (MkR wc e b5 b9 (uNeg k) wr)) (fun i _ => 8 - (intOf i).toNat)
    case atStart => exact ⟨0, rfl, by omega, HM0⟩
    case round =>
      obtain ⟨j, rfl, hj, HM⟩ := hrel
      by_cases hlt : j < 8
      · have d1 : decide (j < 8) = true := decide_eq_true hlt
        have d2 : decide ((j : Int) < 8) = true := decide_eq_true (by omega)
        obtain ⟨c0', z0⟩ := cell_at HM.out.item (itA_get (x := ⟨e, uNeg j⟩) (uNeg_get j hlt))
        have HS := Go.Lib.hid (HM.out.set 0 j (-1))
        rw [uNeg_set j hlt] at HS
        go_wp2_with fail
        exact ⟨⟨j + 1, by go_num, by omega, HS⟩, by simp [intOf]; omega⟩
      · obtain rfl : j = 8 := by omega
        have HM1 : Hid (MkR wc e b5 b9 (uFill e.t cl ws 0) wr) := HM
        clear HM HM0
        go_upto_region 15 with fail
        go_loopw [11] (fun i wr => ∃ j : Nat, i = .int .i64 j ∧ j ≤ n ∧ Hid (MkR wc e b5 b9 (uFill e.t cl ws j) wr)) (fun i _ => n - (intOf i).toNat)
        case atStart => exact ⟨0, rfl, by omega, HM1⟩
        case round =>
          clear HM1
          obtain ⟨j, rfl, hj, HM⟩ := hrel
          by_cases hlt : j < n
          · obtain ⟨c, x, hc, hx, g0, g1, g2, g3, _⟩ := HRS.out.2 j (by have := HN.out; omega)
            have hmn : k = n := by have h1 := HN.out; have h2 := HM_.out; have h3 := HRS.out.1; omega
            have hkw : Keeps [] w00 wc := HPA.out.rk.keeps HK00.out hB00
            obtain ⟨a, hAa, a0⟩ := (HA.out.keeps (hkw.trans HM.out.keeps) (by simp)) j c hc
            obtain ⟨d, hDd, b0⟩ := (HD.out.keeps (hkw.trans HM.out.keeps) (by simp)) j x hx
            obtain ⟨cn, rfl⟩ : ∃ cn : Nat, c = cn := ⟨c.toNat, by omega⟩
            have hc8 : cn < 8 := by omega
            have d1 : decide (j < n) = true := decide_eq_true hlt
            have d2 : decide (j < k) = true := decide_eq_true (by omega)
            have d3 : decide (cn < 8) = true := decide_eq_true hc8
            have hu : (uFill e.t cl ws (j + 1)) = (uFill e.t cl ws j).set cn (e.t + x) := by simp [uFill, hc, hx]
            have hlu : cn < (uFill e.t cl ws j).length := by rw [uFill_len]; exact hc8
            obtain ⟨p, hp⟩ : ∃ p, (uFill e.t cl ws j)[cn]? = some p := ⟨_, List.getElem?_eq_getElem hlu⟩
            obtain ⟨y0, y1⟩ := cell_at HM.out.item (itA_get (x := ⟨e, uFill e.t cl ws j⟩) hp)
            obtain ⟨t0, _⟩ := cell_at HM.out.box (show (evs e).toArray[1]? = some (.int .i64 e.t) from rfl)
            have HS : ∀ i, Hid (MkR wc e b5 b9 (uFill e.t cl ws (j + 1)) ((wr.drewN i).setCell ⟨b9, 6 + cn, none⟩ (.int .i64 (e.t + x)))) := fun i => by rw [hu]; exact HM.out.set i cn (e.t + x)
            subst hAa hDd
            clear hu hlu hp hc hx
            clear d3
            have d3 : decide (cn < 8) = true := decide_eq_true hc8
            as_aux_lemma =>
            go_wp2_with fail
            refine QTail.wp_region_dtail 13 (by kernel_rfl) (by kernel_rfl) ?_
            simp only [List.take_succ_cons, List.take_zero, List.drop_succ_cons, List.drop_zero]
            repeat (go_big_quiet_step (fail))
            refine wpQuiet_nil ?_
            rintro _ ⟨n1, rfl⟩
            go_wp2_with fail
            exact ⟨⟨j + 1, by go_num, by omega, HS n1⟩, by simp [intOf]; omega⟩
          · obtain rfl : j = n := by omega
            have HN3 := Go.Lib.hid (HM.out.fin HN.out)
            clear HM
            have d1 : decide (j < j) = false := decide_eq_false hlt
            go_upto_region 18 with fail
            have hkn := HN3.out.keeps
            have hrl := HPA.out.rl.new hkn
            obtain ⟨v1, hq1⟩ := hrl
            obtain ⟨ad1, cp1, rfl⟩ := hq1.row.form
            have hm64 : (dropM m).length < 64 := by
              unfold dropM
              split
              · assumption
              · rw [List.length_tail]; omega
            obtain ⟨p0, _⟩ := cell_at hq1.own (rA_zero _ (lostM m lost))
            obtain ⟨t0, t1, t2, t3, t4, t5, t6, t7, hu⟩ := eight (uFill_len e.t cl ws cl.length)
            have hit := HN3.out.item
            obtain ⟨x, hx⟩ : ∃ x : It, x = ⟨e, uOf e.t cl ws⟩ := ⟨_, rfl⟩
            have hx8 : x.u.length = 8 := by rw [hx]; exact uFill_len _ _ _ _
            have hitl : itL x = [.int .i64 e.s, .int .i64 e.t, .int .i64 e.v0, .int .i64 e.v1, .int .i64 e.v2, .int .i64 e.v3, .int .i64 t0, .int .i64 t1, .int .i64 t2, .int .i64 t3, .int .i64 t4, .int .i64 t5, .int .i64 t6, .int .i64 t7] := by rw [hx, itL, uOf, hu]; rfl
            have hita : itA ⟨e, uOf e.t cl ws⟩ = #[.int .i64 e.s, .int .i64 e.t, .int .i64 e.v0, .int .i64 e.v1, .int .i64 e.v2, .int .i64 e.v3, .int .i64 t0, .int .i64 t1, .int .i64 t2, .int .i64 t3, .int .i64 t4, .int .i64 t5, .int .i64 t6, .int .i64 t7] := by rw [itA, uOf, hu]; rfl
            rw [hita] at hit
            have y0 := (cell_at hit (p := 0) rfl).1
            have y1 := (cell_at hit (p := 1) rfl).1
            have y2 := (cell_at hit (p := 2) rfl).1
            have y3 := (cell_at hit (p := 3) rfl).1
            have y4 := (cell_at hit (p := 4) rfl).1
            have y5 := (cell_at hit (p := 5) rfl).1
            have y6 := (cell_at hit (p := 6) rfl).1
            have y7 := (cell_at hit (p := 7) rfl).1
            have y8 := (cell_at hit (p := 8) rfl).1
            have y9 := (cell_at hit (p := 9) rfl).1
            have y10 := (cell_at hit (p := 10) rfl).1
            have y11 := (cell_at hit (p := 11) rfl).1
            have y12 := (cell_at hit (p := 12) rfl).1
            have y13 := (cell_at hit (p := 13) rfl).1
            obtain ⟨wd, hwd⟩ : ∃ wd, wd = wr.drew.alloc (.cells #[.int .i64 e.s, .int .i64 e.t, .int .i64 e.v0, .int .i64 e.v1, .int .i64 e.v2, .int .i64 e.v3, .int .i64 t0, .int .i64 t1, .int .i64 t2, .int .i64 t3, .int .i64 t4, .int .i64 t5, .int .i64 t6, .int .i64 t7] 85) := ⟨_, rfl⟩
            have hkd : Keeps [] wr wd := by rw [hwd]; exact ((Keeps.refl _ _).drew).alloc _
            have hqd := hq1.keep (W' := wd) (fun i o ho _ => hkd.heap ho (by simp))
            have hxd : wd.heap[wr.heap.size]? = some (.cells (itL x).toArray 85 (0, 0)) := by rw [hwd, hitl]; exact heap_alloc_new wr.drew _
            obtain ⟨v', w', hr, hrow', hrk', hkk'⟩ := r_append hqd.row hqd.wide (by omega) (by have := hkd.size; have := hkn.size; have := HPA.out.rk.size; omega) hx8 ⟨wr.heap.size, 0, none⟩ (fun j u hj => by
              rw [Addr.add_lit, Nat.zero_add]
              exact (cell_at hxd (by simpa using hj)).1)
            obtain ⟨aN, cN, rfl⟩ := hrow'.form
            have hxr := hkk' _ _ hqd.own (by simp)
            obtain ⟨z0, z1⟩ := cell_at hxr (rA_zero _ (lostM m lost))
            have hpd : wd.cell? ⟨r, 0, none⟩ = some (.slice ad1 (dropM m).length cp1) := (cell_at hqd.own (rA_zero _ (lostM m lost))).1
            rw [hwd] at hr hpd
            have hpd2 : (wr.alloc (.cells #[.int .i64 e.s, .int .i64 e.t, .int .i64 e.v0, .int .i64 e.v1, .int .i64 e.v2, .int .i64 e.v3, .int .i64 t0, .int .i64 t1, .int .i64 t2, .int .i64 t3, .int .i64 t4, .int .i64 t5, .int .i64 t6, .int .i64 t7] 85)).cell? ⟨r, 0, none⟩ = some (.slice ad1 (dropM m).length cp1) := hpd
            have HFIN : Hid (RL B (w'.setCell ⟨r, 0, none⟩ (.slice aN (dropM m ++ [x]).length cN)) r (putM m ⟨e, uOf e.t cl ws⟩) (lostM m lost) ∧ RK B w (w'.setCell ⟨r, 0, none⟩ (.slice aN (dropM m ++ [x]).length cN))) := by
              rw [putM_drop, ← hx]
              refine ⟨⟨_, ?_, hrow'.keep (fun g cur hg => ?_), ?_, hqd.lost8, ?_, hqd.base⟩, ?_⟩
              · rw [heap_setCell_self hxr, rA_row]
              · rw [Below.heap_setCell _ _ _ _ (block_ne hg hxr (by simp))]; exact hg
              · intro z hz
                rcases List.mem_append.1 hz with h1 | h1
                · exact hqd.wide z h1
                · obtain rfl : z = x := by simpa using h1
                  exact hx8
              · simp; omega
              · refine ((HPA.out.rk.trans (RK.new (hkn.trans hkd))).trans hrk').trans ?_
                exact RK.of_keeps (S := [r]) ((Keeps.refl _ _).setCell (by simp) _) (fun x hx => by
                  obtain rfl : x = r := by simpa using hx
                  exact ⟨hqd.base, fun o ho => by rw [hxr] at ho; obtain rfl := Option.some.inj ho; rfl⟩)
            clear hx hlo hit hita hitl hx8 hu hqd hxd hrow' hrk' hkk' hxr hwd hkd hkn hq1
            apply wp_to
            case h =>
              refine wp_region_any (by kernel_rfl) ?_
              change wpAny _ _ _ _ _ _ _ (World.drew _)
              refine wpAny_take (i := 0) (v := ?_) rfl (by kernel_rfl) (by kernel_rfl) (by kernel_rfl) (fun _ _ _ h => absurd h.1 (by simp)) (Or.inl ⟨by rfl, ?_⟩) ?_
              rotate_left
              · intro w
                go_simp <;> with_reducible rfl
              refine wpAny_take (i := 1) (v := ?_) rfl (by kernel_rfl) (by kernel_rfl) (by kernel_rfl) (fun _ _ _ h => absurd h.1 (by simp)) (Or.inl ⟨by rfl, ?_⟩) ?_
              rotate_left
              · intro w
                go_simp <;> with_reducible rfl
              refine wpAny_take (i := 2) (v := ?_) rfl (by kernel_rfl) (by kernel_rfl) (by kernel_rfl) (fun _ _ _ h => absurd h.1 (by simp)) (Or.inl ⟨by rfl, ?_⟩) ?_
              rotate_left
              · intro w
                go_simp <;> with_reducible rfl
              refine wpAny_take (i := 3) (v := ?_) rfl (by kernel_rfl) (by kernel_rfl) (by kernel_rfl) (fun _ _ _ h => absurd h.1 (by simp)) (Or.inl ⟨by rfl, ?_⟩) ?_
              rotate_left
              · intro w
                go_simp <;> with_reducible rfl
              refine wpAny_ready (rs := [4, 5]) (by kernel_rfl) (by simp) ?_
              refine AllReady.cons rfl (fun K hK => ?_) ?_
              · go_simp
                refine hK _ _ ?_
                clear hK K
                refine wpAny_ready (rs := [5]) (by kernel_rfl) (by simp) ?_
                refine AllReady.cons rfl (fun K hK => ?_) ?_
                · go_simp
                  refine hK _ _ ?_
                  clear hK K
                  refine wpAny_ready (rs := [6]) (by kernel_rfl) (by simp) ?_
                  refine AllReady.cons rfl (fun K hK => ?_) ?_
                  · go_simp
                    refine hK _ _ ?_
                    clear hK K
                    refine wpAny_ready (rs := [7]) (by kernel_rfl) (by simp) ?_
                    refine AllReady.cons rfl (fun K hK => ?_) ?_
                    · rw [if_pos (by rfl)]
                      refine append18 rfl rfl hr ?_
                      refine hK _ _ ?_
                      clear hK K
                      refine wpAny_take (i := 8) (v := ?_) rfl (by kernel_rfl) (by kernel_rfl) (by kernel_rfl) (fun _ _ _ h => absurd h.1 (by simp)) (Or.inl ⟨by rfl, ?_⟩) ?_
                      rotate_left
                      · intro w
                        go_simp <;> with_reducible rfl
                      refine wpAny_take (i := 9) (v := ?_) rfl (by kernel_rfl) (by kernel_rfl) (by kernel_rfl) (fun _ _ _ h => absurd h.1 (by simp)) (Or.inl ⟨by rfl, ?_⟩) ?_
                      rotate_left
                      · intro w
                        go_simp <;> with_reducible rfl
                      refine wpAny_ready (rs := [10]) (by kernel_rfl) (by simp) ?_
                      refine AllReady.cons rfl (fun K hK => ?_) ?_
                      · go_simp
                        refine hK _ _ ?_
                        clear hK K
                        refine wpAny_done (by kernel_rfl) ?_ _
                        exact ⟨rfl, rfl, rfl⟩
                      exact AllReady.nil
                    exact AllReady.nil
                  exact AllReady.nil
                exact AllReady.nil
              refine AllReady.cons rfl (fun K hK => ?_) ?_
              · go_simp
                refine hK _ _ ?_
                clear hK K
                refine wpAny_ready (rs := [4, 6]) (by kernel_rfl) (by simp) ?_
                refine AllReady.cons rfl (fun K hK => ?_) ?_
                · go_simp
                  refine hK _ _ ?_
                  clear hK K
                  refine wpAny_ready (rs := [6]) (by kernel_rfl) (by simp) ?_
                  refine AllReady.cons rfl (fun K hK => ?_) ?_
                  · go_simp
                    refine hK _ _ ?_
                    clear hK K
                    refine wpAny_ready (rs := [7]) (by kernel_rfl) (by simp) ?_
                    refine AllReady.cons rfl (fun K hK => ?_) ?_
                    · rw [if_pos (by rfl)]
                      refine append18 rfl rfl hr ?_
                      refine hK _ _ ?_
                      clear hK K
                      refine wpAny_take (i := 8) (v := ?_) rfl (by kernel_rfl) (by kernel_rfl) (by kernel_rfl) (fun _ _ _ h => absurd h.1 (by simp)) (Or.inl ⟨by rfl, ?_⟩) ?_
                      rotate_left
                      · intro w
                        go_simp <;> with_reducible rfl
                      refine wpAny_take (i := 9) (v := ?_) rfl (by kernel_rfl) (by kernel_rfl) (by kernel_rfl) (fun _ _ _ h => absurd h.1 (by simp)) (Or.inl ⟨by rfl, ?_⟩) ?_
                      rotate_left
                      · intro w
                        go_simp <;> with_reducible rfl
                      refine wpAny_ready (rs := [10]) (by kernel_rfl) (by simp) ?_
                      refine AllReady.cons rfl (fun K hK => ?_) ?_
                      · go_simp
                        refine hK _ _ ?_
                        clear hK K
                        refine wpAny_done (by kernel_rfl) ?_ _
                        exact ⟨rfl, rfl, rfl⟩
                      exact AllReady.nil
                    exact AllReady.nil
                  exact AllReady.nil
                refine AllReady.cons rfl (fun K hK => ?_) ?_
                · go_simp
                  refine hK _ _ ?_
                  clear hK K
                  refine wpAny_ready (rs := [4]) (by kernel_rfl) (by simp) ?_
                  refine AllReady.cons rfl (fun K hK => ?_) ?_
                  · go_simp
                    refine hK _ _ ?_
                    clear hK K
                    refine wpAny_ready (rs := [7]) (by kernel_rfl) (by simp) ?_
                    refine AllReady.cons rfl (fun K hK => ?_) ?_
                    · rw [if_pos (by rfl)]
                      refine append18 rfl rfl hr ?_
                      refine hK _ _ ?_
                      clear hK K
                      refine wpAny_take (i := 8) (v := ?_) rfl (by kernel_rfl) (by kernel_rfl) (by kernel_rfl) (fun _ _ _ h => absurd h.1 (by simp)) (Or.inl ⟨by rfl, ?_⟩) ?_
                      rotate_left
                      · intro w
                        go_simp <;> with_reducible rfl
                      refine wpAny_take (i := 9) (v := ?_) rfl (by kernel_rfl) (by kernel_rfl) (by kernel_rfl) (fun _ _ _ h => absurd h.1 (by simp)) (Or.inl ⟨by rfl, ?_⟩) ?_
                      rotate_left
                      · intro w
                        go_simp <;> with_reducible rfl
                      refine wpAny_ready (rs := [10]) (by kernel_rfl) (by simp) ?_
                      refine AllReady.cons rfl (fun K hK => ?_) ?_
                      · go_simp
                        refine hK _ _ ?_
                        clear hK K
                        refine wpAny_done (by kernel_rfl) ?_ _
                        exact ⟨rfl, rfl, rfl⟩
                      exact AllReady.nil
                    exact AllReady.nil
                  exact AllReady.nil
                exact AllReady.nil
              exact AllReady.nil
            clear HPA HN3
            go_wp2
            go_end0
            have hln : (dropM m ++ [x]).length = (dropM m).length + 1 := by simp
            rw [hln] at HFIN
            exact ⟨⟨_, rfl⟩, HFIN.out.1, HFIN.out.2⟩
end Go.Proofs.Ytldnnkceeeinlaa
