-- PRINTED BY print.sh 35421559b90ae4d0a3588c463048766b98c2df88dd9212a6774a882060cdf62d: not written by this session
import Derived.Test.YtibdokjghhegfaaPStepExactx0
import Derived.Test.YtibdokjghhegfaaPStepExactx1
import Derived.Test.YtibdokjghhegfaaPStepExactx2
import Derived.Test.YtibdokjghhegfaaPStepExactx3
namespace Go.Proofs.Ytibdokjghhegfaa.PStepExact
open Go.RowKit Go.Proofs.YtibdokjghhegfaaW.PrintWords Go.Proofs.YtibdokjghhegfaaW.PrintLast Go.Proofs.YtibdokjghhegfaaW.PrintMore
attribute [local go_sem] max2_int min2_int max_two min_two max_three min_three max_four min_four   -- for this text's walks alone
set_option linter.unusedVariables false
set_option linter.unusedSimpArgs false

attribute [local go_sem high] eqA41
/-! ### gimballaw17_StepExact: function 6 -/
mutual
def gimballaw17_StepExact.l0 : Nat → List (S43) → Int → Option (Bool)
  | 0, _, _ => none
  | k + 1, x0, x3 => if x3 < (x0.length : Int) then (gimballaw17_StepExact.j1 k x0 x3 (decide (x3 < 80))) else (gimballaw17_StepExact.j1 k x0 x3 false)
def gimballaw17_StepExact.j1 : Nat → List (S43) → Int → Bool → Option (Bool)
  | 0, _, _, _ => none
  | k + 1, x0, x3, x18 => if x18 = true then (if 0 ≤ x3 then (if x3 < (x0.length : Int) then ((gimbalref15_MayStep.f ((rd_T43 x0 x3).f0.f0) ((rd_T43 x0 x3).f0.f1) ((rd_T43 x0 x3).f0.f2)).bind fun t132 => (if t132 = true then ((gimbalref15_Mag.f ((rd_T43 x0 x3).f1)).bind fun t133 => (if t133 = true then ((gimbalref0_Time.f ((rd_T43 x0 x3).f2)).bind fun t134 => (if t134 = true then (gimballaw17_StepExact.j2 k x0 x3 1 false (decide (((rd_T43 x0 x3).f2) ≥ ((rd_T43 x0 x3).f0.f1))) ((rd_T43 x0 x3).f0.f0) ((rd_T43 x0 x3).f0.f1) ((rd_T43 x0 x3).f0.f2) ((rd_T43 x0 x3).f1) ((rd_T43 x0 x3).f2) false 0 0) else (gimballaw17_StepExact.j2 k x0 x3 1 false false ((rd_T43 x0 x3).f0.f0) ((rd_T43 x0 x3).f0.f1) ((rd_T43 x0 x3).f0.f2) ((rd_T43 x0 x3).f1) ((rd_T43 x0 x3).f2) false 0 0))) else (gimballaw17_StepExact.j2 k x0 x3 1 false false ((rd_T43 x0 x3).f0.f0) ((rd_T43 x0 x3).f0.f1) ((rd_T43 x0 x3).f0.f2) ((rd_T43 x0 x3).f1) ((rd_T43 x0 x3).f2) false 0 0))) else (gimballaw17_StepExact.j2 k x0 x3 1 false false ((rd_T43 x0 x3).f0.f0) ((rd_T43 x0 x3).f0.f1) ((rd_T43 x0 x3).f0.f2) ((rd_T43 x0 x3).f1) ((rd_T43 x0 x3).f2) false 0 0))) else (none)) else (none)) else ((gimballaw17_wakes.f k).bind fun t128 => (some t128))
def gimballaw17_StepExact.j2 : Nat → List (S43) → Int → Int → Bool → Bool → Bool → Int → Int → Int → Int → Bool → Int → Int → Option (Bool)
  | 0, _, _, _, _, _, _, _, _, _, _, _, _, _ => none
  | k + 1, x0, x3, x5, x7, x45, x131000, x131001, x131002, x131003, x131004, x132000, x132001, x132002 => if x45 = true then ((gimbalref15_Step.f k x131000 x131001 x131002 x131003 x131004).bind fun bt135 => (gimballaw17_StepExact.j3 k x0 x3 bt135.2.2.2.2 bt135.2.2.2.1 x131000 x131001 x131002 x131003 x131004 bt135.1 bt135.2.1 bt135.2.2.1)) else (gimballaw17_StepExact.j3 k x0 x3 x5 x7 x131000 x131001 x131002 x131003 x131004 x132000 x132001 x132002)
def gimballaw17_StepExact.j3 : Nat → List (S43) → Int → Int → Bool → Bool → Int → Int → Int → Int → Bool → Int → Int → Option (Bool)
  | 0, _, _, _, _, _, _, _, _, _, _, _, _ => none
  | k + 1, x0, x3, x5, x7, x131000, x131001, x131002, x131003, x131004, x132000, x132001, x132002 => (step_Take.f k x131000 x131001 x131002 x131003 x131004).bind fun bt140 => ((gimballaw17_num.f bt140.2.2.2.2).bind fun t146 => (if t146 = x5 then (if (!(bt140.1 == x132000) || (!(bt140.2.1 == x132001) || (!(bt140.2.2.1 == x132002)))) = true then (some false) else (if (bt140.2.2.2.1 != x7) = true then (some false) else (gimballaw17_StepExact.l0 k x0 (wrap64 (x3 + 1))))) else (some false)))
end
def gimballaw17_StepExact.f (k : Nat) (l0 : List (S43)) : Option (Bool) := gimballaw17_StepExact.l0 k l0 0
theorem gimballaw17_StepExact.mono_l : ∀ k, (∀ y0 y1, LeO (gimballaw17_StepExact.l0 k y0 y1) (gimballaw17_StepExact.l0 (k + 1) y0 y1)) ∧ (∀ y0 y1 y2, LeO (gimballaw17_StepExact.j1 k y0 y1 y2) (gimballaw17_StepExact.j1 (k + 1) y0 y1 y2)) ∧ (∀ y0 y1 y2 y3 y4 y5 y6 y7 y8 y9 y10 y11 y12, LeO (gimballaw17_StepExact.j2 k y0 y1 y2 y3 y4 y5 y6 y7 y8 y9 y10 y11 y12) (gimballaw17_StepExact.j2 (k + 1) y0 y1 y2 y3 y4 y5 y6 y7 y8 y9 y10 y11 y12)) ∧ (∀ y0 y1 y2 y3 y4 y5 y6 y7 y8 y9 y10 y11, LeO (gimballaw17_StepExact.j3 k y0 y1 y2 y3 y4 y5 y6 y7 y8 y9 y10 y11) (gimballaw17_StepExact.j3 (k + 1) y0 y1 y2 y3 y4 y5 y6 y7 y8 y9 y10 y11))
  | 0 => ⟨fun _ _ r h => by simp [gimballaw17_StepExact.l0] at h, fun _ _ _ r h => by simp [gimballaw17_StepExact.j1] at h, fun _ _ _ _ _ _ _ _ _ _ _ _ _ r h => by simp [gimballaw17_StepExact.j2] at h, fun _ _ _ _ _ _ _ _ _ _ _ _ r h => by simp [gimballaw17_StepExact.j3] at h⟩
  | k + 1 => by
    obtain ⟨ih0, ih1, ih2, ih3⟩ := gimballaw17_StepExact.mono_l k
    refine ⟨?_, ?_, ?_, ?_⟩
    · intro y0 y1
      unfold gimballaw17_StepExact.l0
      repeat' first
      | (with_reducible exact ih0 _ _)
      | (with_reducible exact ih1 _ _ _)
      | (with_reducible exact ih2 _ _ _ _ _ _ _ _ _ _ _ _ _)
      | (with_reducible exact ih3 _ _ _ _ _ _ _ _ _ _ _ _)
      | (with_reducible exact gimballaw17_wakes.mono _)
      | (with_reducible exact gimbalref15_Step.mono _ _ _ _ _ _)
      | (with_reducible exact step_Take.mono _ _ _ _ _ _)
      | (with_reducible exact LeO.refl _)
      | (with_reducible exact LeO.none _)
      | (with_reducible refine LeO.ite ?_ ?_)
      | (with_reducible refine LeO.bind ?_ (fun _ => ?_))
      | exact ih0 _ _
      | exact ih1 _ _ _
      | exact ih2 _ _ _ _ _ _ _ _ _ _ _ _ _
      | exact ih3 _ _ _ _ _ _ _ _ _ _ _ _
      | exact gimballaw17_wakes.mono _
      | exact gimbalref15_Step.mono _ _ _ _ _ _
      | exact step_Take.mono _ _ _ _ _ _
      | exact LeO.none _
      | refine LeO.ite ?_ ?_
      | refine LeO.bind ?_ (fun _ => ?_)
    · intro y0 y1 y2
      unfold gimballaw17_StepExact.j1
      repeat' first
      | (with_reducible exact ih0 _ _)
      | (with_reducible exact ih1 _ _ _)
      | (with_reducible exact ih2 _ _ _ _ _ _ _ _ _ _ _ _ _)
      | (with_reducible exact ih3 _ _ _ _ _ _ _ _ _ _ _ _)
      | (with_reducible exact gimballaw17_wakes.mono _)
      | (with_reducible exact gimbalref15_Step.mono _ _ _ _ _ _)
      | (with_reducible exact step_Take.mono _ _ _ _ _ _)
      | (with_reducible exact LeO.refl _)
      | (with_reducible exact LeO.none _)
      | (with_reducible refine LeO.ite ?_ ?_)
      | (with_reducible refine LeO.bind ?_ (fun _ => ?_))
      | exact ih0 _ _
      | exact ih1 _ _ _
      | exact ih2 _ _ _ _ _ _ _ _ _ _ _ _ _
      | exact ih3 _ _ _ _ _ _ _ _ _ _ _ _
      | exact gimballaw17_wakes.mono _
      | exact gimbalref15_Step.mono _ _ _ _ _ _
      | exact step_Take.mono _ _ _ _ _ _
      | exact LeO.none _
      | refine LeO.ite ?_ ?_
      | refine LeO.bind ?_ (fun _ => ?_)
    · intro y0 y1 y2 y3 y4 y5 y6 y7 y8 y9 y10 y11 y12
      unfold gimballaw17_StepExact.j2
      repeat' first
      | (with_reducible exact ih0 _ _)
      | (with_reducible exact ih1 _ _ _)
      | (with_reducible exact ih2 _ _ _ _ _ _ _ _ _ _ _ _ _)
      | (with_reducible exact ih3 _ _ _ _ _ _ _ _ _ _ _ _)
      | (with_reducible exact gimballaw17_wakes.mono _)
      | (with_reducible exact gimbalref15_Step.mono _ _ _ _ _ _)
      | (with_reducible exact step_Take.mono _ _ _ _ _ _)
      | (with_reducible exact LeO.refl _)
      | (with_reducible exact LeO.none _)
      | (with_reducible refine LeO.ite ?_ ?_)
      | (with_reducible refine LeO.bind ?_ (fun _ => ?_))
      | exact ih0 _ _
      | exact ih1 _ _ _
      | exact ih2 _ _ _ _ _ _ _ _ _ _ _ _ _
      | exact ih3 _ _ _ _ _ _ _ _ _ _ _ _
      | exact gimballaw17_wakes.mono _
      | exact gimbalref15_Step.mono _ _ _ _ _ _
      | exact step_Take.mono _ _ _ _ _ _
      | exact LeO.none _
      | refine LeO.ite ?_ ?_
      | refine LeO.bind ?_ (fun _ => ?_)
    · intro y0 y1 y2 y3 y4 y5 y6 y7 y8 y9 y10 y11
      unfold gimballaw17_StepExact.j3
      repeat' first
      | (with_reducible exact ih0 _ _)
      | (with_reducible exact ih1 _ _ _)
      | (with_reducible exact ih2 _ _ _ _ _ _ _ _ _ _ _ _ _)
      | (with_reducible exact ih3 _ _ _ _ _ _ _ _ _ _ _ _)
      | (with_reducible exact gimballaw17_wakes.mono _)
      | (with_reducible exact gimbalref15_Step.mono _ _ _ _ _ _)
      | (with_reducible exact step_Take.mono _ _ _ _ _ _)
      | (with_reducible exact LeO.refl _)
      | (with_reducible exact LeO.none _)
      | (with_reducible refine LeO.ite ?_ ?_)
      | (with_reducible refine LeO.bind ?_ (fun _ => ?_))
      | exact ih0 _ _
      | exact ih1 _ _ _
      | exact ih2 _ _ _ _ _ _ _ _ _ _ _ _ _
      | exact ih3 _ _ _ _ _ _ _ _ _ _ _ _
      | exact gimballaw17_wakes.mono _
      | exact gimbalref15_Step.mono _ _ _ _ _ _
      | exact step_Take.mono _ _ _ _ _ _
      | exact LeO.none _
      | refine LeO.ite ?_ ?_
      | refine LeO.bind ?_ (fun _ => ?_)
theorem gimballaw17_StepExact.mono : ∀ a0 k, LeO (gimballaw17_StepExact.f k a0) (gimballaw17_StepExact.f (k + 1) a0) := by
  intro a0 k
  obtain ⟨ih0, ih1, ih2, ih3⟩ := gimballaw17_StepExact.mono_l k
  unfold gimballaw17_StepExact.f
  repeat' first
      | (with_reducible exact ih0 _ _)
      | (with_reducible exact ih1 _ _ _)
      | (with_reducible exact ih2 _ _ _ _ _ _ _ _ _ _ _ _ _)
      | (with_reducible exact ih3 _ _ _ _ _ _ _ _ _ _ _ _)
      | (with_reducible exact gimballaw17_wakes.mono _)
      | (with_reducible exact gimbalref15_Step.mono _ _ _ _ _ _)
      | (with_reducible exact step_Take.mono _ _ _ _ _ _)
      | (with_reducible exact LeO.refl _)
      | (with_reducible exact LeO.none _)
      | (with_reducible refine LeO.ite ?_ ?_)
      | (with_reducible refine LeO.bind ?_ (fun _ => ?_))
      | exact ih0 _ _
      | exact ih1 _ _ _
      | exact ih2 _ _ _ _ _ _ _ _ _ _ _ _ _
      | exact ih3 _ _ _ _ _ _ _ _ _ _ _ _
      | exact gimballaw17_wakes.mono _
      | exact gimbalref15_Step.mono _ _ _ _ _ _
      | exact step_Take.mono _ _ _ _ _ _
      | exact LeO.none _
      | refine LeO.ite ?_ ?_
      | refine LeO.bind ?_ (fun _ => ?_)
set_option maxHeartbeats 8000000 in
set_option maxRecDepth 100000 in
theorem gimballaw17_StepExact.calls (k : Nat) (A0 : Option Addr) (c0 : Nat) (l0 : List (S43)) (r : Bool) (w : World) (hr0 : Kd.C k43 w A0 l0.length l0) (hc0 : l0.length ≤ c0) (h : gimballaw17_StepExact.f k l0 = some r) :
    Calls Try.prog 6 #[.slice A0 l0.length c0] w fun e w' => e = .returned (.bool r) ∧ Below w.heap.size w w' := by
  have hu43 := Try.underlying43
  have hu41 := Try.underlying41
  have HR0 := Aside0.mk hr0
  have HC0 := Aside0.mk hc0
  clear hr0 hc0
  have HB := Aside0.mk (Below.refl w.heap.size w)
  have H : (gimballaw17_StepExact.l0 k l0 0) = some r := h
  clear h
  have H' := Aside0.mk H
  clear H
  go_enter Try.func6, Try.ntmps6
  go_wp2
  go_loopg [3] k (fun kq v3 w' => ∃ (x3_1 : Int), v3 = .int .i64 x3_1 ∧ Aside0 (gimballaw17_StepExact.l0 kq l0 x3_1 = some r) ∧ Aside0 (kq ≤ k) ∧ Aside0 (Below w.heap.size w w'))
  case atStart => exact ⟨(0), (by first | rfl | (simp; done) | (simp [*]; done)), H', ⟨Nat.le_refl _⟩, ⟨by repeat (first | (with_reducible first | exact HB.out | apply below_alloc | apply pw_below_drewN | apply below_drew1) | exact HB.out)⟩⟩
  case round =>
    clear H'
    obtain ⟨x3_1, rfl, HA, HK1, HB⟩ := hrel
    cases gk with
    | zero => exact absurd HA.out (by simp [gimballaw17_StepExact.l0])
    | succ k1 =>
      have H := HA.out
      clear HA
      simp only [gimballaw17_StepExact.l0] at H
      have HC2 := Aside0.mk H
      clear H
      go_upto_region 2 with (fail)
      go_cut [18] (fun v18 wc => ∃ (kq : Nat) (x18_1 : Bool), v18 = .bool x18_1 ∧ Aside0 (gimballaw17_StepExact.j1 kq l0 x3_1 x18_1 = some r) ∧ Aside0 (kq ≤ k1) ∧ Aside0 (Below w.heap.size w wc))
      case first =>
        have H := HC2.out
        clear HC2
        by_cases c3 : x3_1 < (l0.length : Int)
        · rw [if_pos c3] at H
          have c3b0 : decide (x3_1 < (l0.length : Int)) = true := decide_eq_true c3
          clear c3
          (first | rw [c3b0] | (simp only [i64_w, i32_w]; rw [c3b0]) | skip)
          have H' := Aside0.mk H
          clear H
          go_wp2
          go_meet
          case rel => exact ⟨_, (decide (x3_1 < 80)), (by first | rfl | (simp; done) | (simp [*]; done)), H', ⟨by have := HK1.out; first | omega | exact Nat.le_refl _⟩, ⟨by repeat (first | (with_reducible first | exact HB.out | apply below_alloc | apply pw_below_drewN | apply below_drew1) | exact HB.out)⟩⟩
        · rw [if_neg c3] at H
          have c3b0 : decide (x3_1 < (l0.length : Int)) = false := decide_eq_false c3
          clear c3
          (first | rw [c3b0] | (simp only [i64_w, i32_w]; rw [c3b0]) | skip)
          have H' := Aside0.mk H
          clear H
          go_wp2
          go_meet
          case rel => exact ⟨_, (false), (by first | rfl | (simp; done) | (simp [*]; done)), H', ⟨by have := HK1.out; first | omega | exact Nat.le_refl _⟩, ⟨by repeat (first | (with_reducible first | exact HB.out | apply below_alloc | apply pw_below_drewN | apply below_drew1) | exact HB.out)⟩⟩
      case rest =>
        clear HC2
        try clear p2
        try clear c3
        try clear c3b0
        obtain ⟨kq, x18_1, rfl, HA, HJ1, HB⟩ := hcut
        cases kq with
        | zero => exact absurd HA.out (by simp [gimballaw17_StepExact.j1])
        | succ kj1 =>
          have H := HA.out
          clear HA
          simp only [gimballaw17_StepExact.j1] at H
          by_cases c4 : x18_1 = true
          · subst c4
            have H1 : (if 0 ≤ x3_1 then (if x3_1 < (l0.length : Int) then ((gimbalref15_MayStep.f ((rd_T43 l0 x3_1).f0.f0) ((rd_T43 l0 x3_1).f0.f1) ((rd_T43 l0 x3_1).f0.f2)).bind fun t132 => (if t132 = true then ((gimbalref15_Mag.f ((rd_T43 l0 x3_1).f1)).bind fun t133 => (if t133 = true then ((gimbalref0_Time.f ((rd_T43 l0 x3_1).f2)).bind fun t134 => (if t134 = true then (gimballaw17_StepExact.j2 kj1 l0 x3_1 1 false (decide (((rd_T43 l0 x3_1).f2) ≥ ((rd_T43 l0 x3_1).f0.f1))) ((rd_T43 l0 x3_1).f0.f0) ((rd_T43 l0 x3_1).f0.f1) ((rd_T43 l0 x3_1).f0.f2) ((rd_T43 l0 x3_1).f1) ((rd_T43 l0 x3_1).f2) false 0 0) else (gimballaw17_StepExact.j2 kj1 l0 x3_1 1 false false ((rd_T43 l0 x3_1).f0.f0) ((rd_T43 l0 x3_1).f0.f1) ((rd_T43 l0 x3_1).f0.f2) ((rd_T43 l0 x3_1).f1) ((rd_T43 l0 x3_1).f2) false 0 0))) else (gimballaw17_StepExact.j2 kj1 l0 x3_1 1 false false ((rd_T43 l0 x3_1).f0.f0) ((rd_T43 l0 x3_1).f0.f1) ((rd_T43 l0 x3_1).f0.f2) ((rd_T43 l0 x3_1).f1) ((rd_T43 l0 x3_1).f2) false 0 0))) else (gimballaw17_StepExact.j2 kj1 l0 x3_1 1 false false ((rd_T43 l0 x3_1).f0.f0) ((rd_T43 l0 x3_1).f0.f1) ((rd_T43 l0 x3_1).f0.f2) ((rd_T43 l0 x3_1).f1) ((rd_T43 l0 x3_1).f2) false 0 0))) else (none)) else (none)) = some r := by rw [if_pos rfl] at H; exact H
            clear H
            have H := H1
            clear H1
            by_cases c5 : 0 ≤ x3_1
            · rw [if_pos c5] at H
              have c5b0 : decide (0 ≤ x3_1) = true := decide_eq_true c5
              clear c5
              by_cases c6 : x3_1 < (l0.length : Int)
              · rw [if_pos c6] at H
                have c6b0 : decide (x3_1 < (l0.length : Int)) = true := decide_eq_true c6
                clear c6
                have HC7 := Aside0.mk H
                clear H
                have p129 : 0 ≤ (x3_1 : Int) := of_decide_eq_true (by first | (with_reducible assumption) | assumption)
                have q129 : x3_1 < (l0.length : Int) := of_decide_eq_true (by first | (with_reducible assumption) | assumption)
                obtain ⟨ad129, e129, hx129_0, hx129_1, hx129_2, hx129_3, hx129_4⟩ := at_T43 HR0.out x3_1 p129 q129
                cases e129
                replace hx129_0 := (HB.out.cell (World.block_lt_of_cell? w _ hx129_0)).trans hx129_0
                replace hx129_1 := (HB.out.cell (World.block_lt_of_cell? w _ hx129_1)).trans hx129_1
                replace hx129_2 := (HB.out.cell (World.block_lt_of_cell? w _ hx129_2)).trans hx129_2
                replace hx129_3 := (HB.out.cell (World.block_lt_of_cell? w _ hx129_3)).trans hx129_3
                replace hx129_4 := (HB.out.cell (World.block_lt_of_cell? w _ hx129_4)).trans hx129_4
                replace p129 := eq_true p129
                replace q129 := eq_true q129
                go_upto_region 8 with (first | ((with_reducible refine gate_dst (N := 4) rfl ?_); refine box_event ?hg (N := 4) ?hd (cs := #[.bool false, .int .i64 0, .int .i64 0, .int .i64 0, .int .i64 0]) (t := 43) ?hr ?_; (case hd => rfl); (case hg => rfl); (case hr => first | (go_simp; done) | (go_simp; rfl)); intro gb130 hg w8 hbox hb; have n0_ := Aside0.mk (below_step (by repeat (first | (with_reducible first | exact HB.out | apply below_alloc | apply pw_below_drewN | apply below_drew1) | exact HB.out)) hb); have n1_ := Aside0.mk (hbox); have n2_ := Aside0.mk ((by rw [hg]; exact (below_size (by repeat (first | (with_reducible first | exact HB.out | apply below_alloc | apply pw_below_drewN | apply below_drew1) | exact HB.out))) : w.heap.size ≤ gb130)); have n3_ := Aside0.mk ((by rw [hg]; exact (below_size (by repeat (first | (with_reducible first | exact HB.out | apply below_alloc | apply pw_below_drewN | apply below_drew1) | exact HB.out))) : w.heap.size ≤ gb130)); clear HB; have HB := n0_; have BK130 := n1_; have GW130 := n2_; have GE130 := n3_; clear n0_ n1_ n2_ n3_; clear hb hbox hg; have hcz9_0 : w8.cell? ⟨gb130, 0, none⟩ = some (.bool false) := (blk_cell BK130.out 0).trans rfl; have hcz9_1 : w8.cell? ⟨gb130, 1, none⟩ = some (.int .i64 0) := (blk_cell BK130.out 1).trans rfl; have hcz9_2 : w8.cell? ⟨gb130, 2, none⟩ = some (.int .i64 0) := (blk_cell BK130.out 2).trans rfl; have hcz9_3 : w8.cell? ⟨gb130, 3, none⟩ = some (.int .i64 0) := (blk_cell BK130.out 3).trans rfl; have hcz9_4 : w8.cell? ⟨gb130, 4, none⟩ = some (.int .i64 0) := (blk_cell BK130.out 4).trans rfl; have hfz9_0 := blk_frozen BK130.out 0; have hfz9_1 := blk_frozen BK130.out 1; have hfz9_2 := blk_frozen BK130.out 2; have hfz9_3 := blk_frozen BK130.out 3; have hfz9_4 := blk_frozen BK130.out 4) | ((with_reducible refine gate_dst (N := 6) rfl ?_); refine box_event ?hg (N := 6) ?hd (cs := #[.bool false, .int .i64 0, .int .i64 0]) (t := 41) ?hr ?_; (case hd => rfl); (case hg => rfl); (case hr => first | (go_simp; done) | (go_simp; rfl)); intro gb131 hg w10 hbox hb; have n0_ := Aside0.mk (blk_below (g := gb130) (o := .cells #[.bool ((rd_T43 l0 x3_1).f0.f0), .int .i64 ((rd_T43 l0 x3_1).f0.f1), .int .i64 ((rd_T43 l0 x3_1).f0.f2), .int .i64 ((rd_T43 l0 x3_1).f1), .int .i64 ((rd_T43 l0 x3_1).f2)] 43 (0, 0)) (by (with_reducible repeat (first | refine blk_drewN ?_ _ | refine blk_drew ?_ | refine blk_alloc ?_ _)); refine blk_put (cs := #[.bool ((rd_T43 l0 x3_1).f0.f0), .int .i64 ((rd_T43 l0 x3_1).f0.f1), .int .i64 ((rd_T43 l0 x3_1).f0.f2), .int .i64 ((rd_T43 l0 x3_1).f1), .int .i64 0]) ?_ 4 _ rfl; (with_reducible repeat (first | refine blk_drewN ?_ _ | refine blk_drew ?_ | refine blk_alloc ?_ _)); refine blk_put (cs := #[.bool ((rd_T43 l0 x3_1).f0.f0), .int .i64 ((rd_T43 l0 x3_1).f0.f1), .int .i64 ((rd_T43 l0 x3_1).f0.f2), .int .i64 0, .int .i64 0]) ?_ 3 _ rfl; (with_reducible repeat (first | refine blk_drewN ?_ _ | refine blk_drew ?_ | refine blk_alloc ?_ _)); refine blk_put (cs := #[.bool ((rd_T43 l0 x3_1).f0.f0), .int .i64 ((rd_T43 l0 x3_1).f0.f1), .int .i64 0, .int .i64 0, .int .i64 0]) ?_ 2 _ rfl; (with_reducible repeat (first | refine blk_drewN ?_ _ | refine blk_drew ?_ | refine blk_alloc ?_ _)); refine blk_put (cs := #[.bool ((rd_T43 l0 x3_1).f0.f0), .int .i64 0, .int .i64 0, .int .i64 0, .int .i64 0]) ?_ 1 _ rfl; (with_reducible repeat (first | refine blk_drewN ?_ _ | refine blk_drew ?_ | refine blk_alloc ?_ _)); refine blk_put (cs := #[.bool false, .int .i64 0, .int .i64 0, .int .i64 0, .int .i64 0]) ?_ 0 _ rfl; (with_reducible repeat (first | refine blk_drewN ?_ _ | refine blk_drew ?_ | refine blk_alloc ?_ _)); exact BK130.out) hb); have n1_ := Aside0.mk (below_step (by repeat (first | (with_reducible first | exact HB.out | apply below_alloc | apply pw_below_drewN | apply below_drew1 | refine below_set ?_ GE130.out) | exact HB.out)) hb); have n2_ := Aside0.mk (hbox); have n3_ := Aside0.mk ((by rw [hg]; exact (below_size (by repeat (first | (with_reducible first | exact HB.out | apply below_alloc | apply pw_below_drewN | apply below_drew1 | refine below_set ?_ GE130.out) | exact HB.out))) : w.heap.size ≤ gb131)); have n4_ := Aside0.mk ((by rw [hg]; exact (below_size (by repeat (first | (with_reducible first | exact HB.out | apply below_alloc | apply pw_below_drewN | apply below_drew1 | refine below_set ?_ GE130.out) | exact HB.out))) : w.heap.size ≤ gb131)); have n5_ := Aside0.mk ((by rw [hg]; exact Nat.ne_of_lt (blk_lt (g := gb130) (o := .cells #[.bool ((rd_T43 l0 x3_1).f0.f0), .int .i64 ((rd_T43 l0 x3_1).f0.f1), .int .i64 ((rd_T43 l0 x3_1).f0.f2), .int .i64 ((rd_T43 l0 x3_1).f1), .int .i64 ((rd_T43 l0 x3_1).f2)] 43 (0, 0)) (by (with_reducible repeat (first | refine blk_drewN ?_ _ | refine blk_drew ?_ | refine blk_alloc ?_ _)); refine blk_put (cs := #[.bool ((rd_T43 l0 x3_1).f0.f0), .int .i64 ((rd_T43 l0 x3_1).f0.f1), .int .i64 ((rd_T43 l0 x3_1).f0.f2), .int .i64 ((rd_T43 l0 x3_1).f1), .int .i64 0]) ?_ 4 _ rfl; (with_reducible repeat (first | refine blk_drewN ?_ _ | refine blk_drew ?_ | refine blk_alloc ?_ _)); refine blk_put (cs := #[.bool ((rd_T43 l0 x3_1).f0.f0), .int .i64 ((rd_T43 l0 x3_1).f0.f1), .int .i64 ((rd_T43 l0 x3_1).f0.f2), .int .i64 0, .int .i64 0]) ?_ 3 _ rfl; (with_reducible repeat (first | refine blk_drewN ?_ _ | refine blk_drew ?_ | refine blk_alloc ?_ _)); refine blk_put (cs := #[.bool ((rd_T43 l0 x3_1).f0.f0), .int .i64 ((rd_T43 l0 x3_1).f0.f1), .int .i64 0, .int .i64 0, .int .i64 0]) ?_ 2 _ rfl; (with_reducible repeat (first | refine blk_drewN ?_ _ | refine blk_drew ?_ | refine blk_alloc ?_ _)); refine blk_put (cs := #[.bool ((rd_T43 l0 x3_1).f0.f0), .int .i64 0, .int .i64 0, .int .i64 0, .int .i64 0]) ?_ 1 _ rfl; (with_reducible repeat (first | refine blk_drewN ?_ _ | refine blk_drew ?_ | refine blk_alloc ?_ _)); refine blk_put (cs := #[.bool false, .int .i64 0, .int .i64 0, .int .i64 0, .int .i64 0]) ?_ 0 _ rfl; (with_reducible repeat (first | refine blk_drewN ?_ _ | refine blk_drew ?_ | refine blk_alloc ?_ _)); exact BK130.out)) : gb130 ≠ gb131)); have n6_ := Aside0.mk ((by rw [hg]; exact Nat.ne_of_gt (blk_lt (g := gb130) (o := .cells #[.bool ((rd_T43 l0 x3_1).f0.f0), .int .i64 ((rd_T43 l0 x3_1).f0.f1), .int .i64 ((rd_T43 l0 x3_1).f0.f2), .int .i64 ((rd_T43 l0 x3_1).f1), .int .i64 ((rd_T43 l0 x3_1).f2)] 43 (0, 0)) (by (with_reducible repeat (first | refine blk_drewN ?_ _ | refine blk_drew ?_ | refine blk_alloc ?_ _)); refine blk_put (cs := #[.bool ((rd_T43 l0 x3_1).f0.f0), .int .i64 ((rd_T43 l0 x3_1).f0.f1), .int .i64 ((rd_T43 l0 x3_1).f0.f2), .int .i64 ((rd_T43 l0 x3_1).f1), .int .i64 0]) ?_ 4 _ rfl; (with_reducible repeat (first | refine blk_drewN ?_ _ | refine blk_drew ?_ | refine blk_alloc ?_ _)); refine blk_put (cs := #[.bool ((rd_T43 l0 x3_1).f0.f0), .int .i64 ((rd_T43 l0 x3_1).f0.f1), .int .i64 ((rd_T43 l0 x3_1).f0.f2), .int .i64 0, .int .i64 0]) ?_ 3 _ rfl; (with_reducible repeat (first | refine blk_drewN ?_ _ | refine blk_drew ?_ | refine blk_alloc ?_ _)); refine blk_put (cs := #[.bool ((rd_T43 l0 x3_1).f0.f0), .int .i64 ((rd_T43 l0 x3_1).f0.f1), .int .i64 0, .int .i64 0, .int .i64 0]) ?_ 2 _ rfl; (with_reducible repeat (first | refine blk_drewN ?_ _ | refine blk_drew ?_ | refine blk_alloc ?_ _)); refine blk_put (cs := #[.bool ((rd_T43 l0 x3_1).f0.f0), .int .i64 0, .int .i64 0, .int .i64 0, .int .i64 0]) ?_ 1 _ rfl; (with_reducible repeat (first | refine blk_drewN ?_ _ | refine blk_drew ?_ | refine blk_alloc ?_ _)); refine blk_put (cs := #[.bool false, .int .i64 0, .int .i64 0, .int .i64 0, .int .i64 0]) ?_ 0 _ rfl; (with_reducible repeat (first | refine blk_drewN ?_ _ | refine blk_drew ?_ | refine blk_alloc ?_ _)); exact BK130.out)) : gb131 ≠ gb130)); clear BK130; clear HB; have BK130 := n0_; have HB := n1_; have BK131 := n2_; have GW131 := n3_; have GE131 := n4_; have NB130_131 := n5_; have NB131_130 := n6_; clear n0_ n1_ n2_ n3_ n4_ n5_ n6_; clear hb hbox hg))
                (try simp only [Act.put, List.setIfInBounds_toArray, List.set_cons_zero, List.set_cons_succ])
                go_cut [45] (fun v45 wc => ∃ (kq : Nat) (x45_6 : Bool), v45 = .bool x45_6 ∧ Aside0 (gimballaw17_StepExact.j2 kq l0 x3_1 1 false x45_6 ((rd_T43 l0 x3_1).f0.f0) ((rd_T43 l0 x3_1).f0.f1) ((rd_T43 l0 x3_1).f0.f2) ((rd_T43 l0 x3_1).f1) ((rd_T43 l0 x3_1).f2) false 0 0 = some r) ∧ Aside0 (kq ≤ kj1) ∧ Aside0 (wc.heap[gb130]? = some (.cells #[.bool ((rd_T43 l0 x3_1).f0.f0), .int .i64 ((rd_T43 l0 x3_1).f0.f1), .int .i64 ((rd_T43 l0 x3_1).f0.f2), .int .i64 ((rd_T43 l0 x3_1).f1), .int .i64 ((rd_T43 l0 x3_1).f2)] 43 (0, 0))) ∧ Aside0 (wc.heap[gb131]? = some (.cells #[.bool false, .int .i64 0, .int .i64 0] 41 (0, 0))) ∧ Aside0 (Below w.heap.size w wc))
                case first =>
                  have H := HC7.out
                  clear HC7
                  replace H := Option.bind_eq_some_iff.mp H
                  obtain ⟨t132, A110, H⟩ := H
                  replace H : (if t132 = true then ((gimbalref15_Mag.f ((rd_T43 l0 x3_1).f1)).bind fun t133 => (if t133 = true then ((gimbalref0_Time.f ((rd_T43 l0 x3_1).f2)).bind fun t134 => (if t134 = true then (gimballaw17_StepExact.j2 kj1 l0 x3_1 1 false (decide (((rd_T43 l0 x3_1).f2) ≥ ((rd_T43 l0 x3_1).f0.f1))) ((rd_T43 l0 x3_1).f0.f0) ((rd_T43 l0 x3_1).f0.f1) ((rd_T43 l0 x3_1).f0.f2) ((rd_T43 l0 x3_1).f1) ((rd_T43 l0 x3_1).f2) false 0 0) else (gimballaw17_StepExact.j2 kj1 l0 x3_1 1 false false ((rd_T43 l0 x3_1).f0.f0) ((rd_T43 l0 x3_1).f0.f1) ((rd_T43 l0 x3_1).f0.f2) ((rd_T43 l0 x3_1).f1) ((rd_T43 l0 x3_1).f2) false 0 0))) else (gimballaw17_StepExact.j2 kj1 l0 x3_1 1 false false ((rd_T43 l0 x3_1).f0.f0) ((rd_T43 l0 x3_1).f0.f1) ((rd_T43 l0 x3_1).f0.f2) ((rd_T43 l0 x3_1).f1) ((rd_T43 l0 x3_1).f2) false 0 0))) else (gimballaw17_StepExact.j2 kj1 l0 x3_1 1 false false ((rd_T43 l0 x3_1).f0.f0) ((rd_T43 l0 x3_1).f0.f1) ((rd_T43 l0 x3_1).f0.f2) ((rd_T43 l0 x3_1).f1) ((rd_T43 l0 x3_1).f2) false 0 0)) = some r := H
                  have A11 := Aside0.mk A110
                  clear A110
                  by_cases c12 : t132 = true
                  · subst c12
                    have H1 : ((gimbalref15_Mag.f ((rd_T43 l0 x3_1).f1)).bind fun t133 => (if t133 = true then ((gimbalref0_Time.f ((rd_T43 l0 x3_1).f2)).bind fun t134 => (if t134 = true then (gimballaw17_StepExact.j2 kj1 l0 x3_1 1 false (decide (((rd_T43 l0 x3_1).f2) ≥ ((rd_T43 l0 x3_1).f0.f1))) ((rd_T43 l0 x3_1).f0.f0) ((rd_T43 l0 x3_1).f0.f1) ((rd_T43 l0 x3_1).f0.f2) ((rd_T43 l0 x3_1).f1) ((rd_T43 l0 x3_1).f2) false 0 0) else (gimballaw17_StepExact.j2 kj1 l0 x3_1 1 false false ((rd_T43 l0 x3_1).f0.f0) ((rd_T43 l0 x3_1).f0.f1) ((rd_T43 l0 x3_1).f0.f2) ((rd_T43 l0 x3_1).f1) ((rd_T43 l0 x3_1).f2) false 0 0))) else (gimballaw17_StepExact.j2 kj1 l0 x3_1 1 false false ((rd_T43 l0 x3_1).f0.f0) ((rd_T43 l0 x3_1).f0.f1) ((rd_T43 l0 x3_1).f0.f2) ((rd_T43 l0 x3_1).f1) ((rd_T43 l0 x3_1).f2) false 0 0))) = some r := by rw [if_pos rfl] at H; exact H
                    clear H
                    have H := H1
                    clear H1
                    replace H := Option.bind_eq_some_iff.mp H
                    obtain ⟨t133, A130, H⟩ := H
                    replace H : (if t133 = true then ((gimbalref0_Time.f ((rd_T43 l0 x3_1).f2)).bind fun t134 => (if t134 = true then (gimballaw17_StepExact.j2 kj1 l0 x3_1 1 false (decide (((rd_T43 l0 x3_1).f2) ≥ ((rd_T43 l0 x3_1).f0.f1))) ((rd_T43 l0 x3_1).f0.f0) ((rd_T43 l0 x3_1).f0.f1) ((rd_T43 l0 x3_1).f0.f2) ((rd_T43 l0 x3_1).f1) ((rd_T43 l0 x3_1).f2) false 0 0) else (gimballaw17_StepExact.j2 kj1 l0 x3_1 1 false false ((rd_T43 l0 x3_1).f0.f0) ((rd_T43 l0 x3_1).f0.f1) ((rd_T43 l0 x3_1).f0.f2) ((rd_T43 l0 x3_1).f1) ((rd_T43 l0 x3_1).f2) false 0 0))) else (gimballaw17_StepExact.j2 kj1 l0 x3_1 1 false false ((rd_T43 l0 x3_1).f0.f0) ((rd_T43 l0 x3_1).f0.f1) ((rd_T43 l0 x3_1).f0.f2) ((rd_T43 l0 x3_1).f1) ((rd_T43 l0 x3_1).f2) false 0 0)) = some r := H
                    have A13 := Aside0.mk A130
                    clear A130
                    by_cases c14 : t133 = true
                    · subst c14
                      have H1 : ((gimbalref0_Time.f ((rd_T43 l0 x3_1).f2)).bind fun t134 => (if t134 = true then (gimballaw17_StepExact.j2 kj1 l0 x3_1 1 false (decide (((rd_T43 l0 x3_1).f2) ≥ ((rd_T43 l0 x3_1).f0.f1))) ((rd_T43 l0 x3_1).f0.f0) ((rd_T43 l0 x3_1).f0.f1) ((rd_T43 l0 x3_1).f0.f2) ((rd_T43 l0 x3_1).f1) ((rd_T43 l0 x3_1).f2) false 0 0) else (gimballaw17_StepExact.j2 kj1 l0 x3_1 1 false false ((rd_T43 l0 x3_1).f0.f0) ((rd_T43 l0 x3_1).f0.f1) ((rd_T43 l0 x3_1).f0.f2) ((rd_T43 l0 x3_1).f1) ((rd_T43 l0 x3_1).f2) false 0 0))) = some r := by rw [if_pos rfl] at H; exact H
                      clear H
                      have H := H1
                      clear H1
                      replace H := Option.bind_eq_some_iff.mp H
                      obtain ⟨t134, A150, H⟩ := H
                      replace H : (if t134 = true then (gimballaw17_StepExact.j2 kj1 l0 x3_1 1 false (decide (((rd_T43 l0 x3_1).f2) ≥ ((rd_T43 l0 x3_1).f0.f1))) ((rd_T43 l0 x3_1).f0.f0) ((rd_T43 l0 x3_1).f0.f1) ((rd_T43 l0 x3_1).f0.f2) ((rd_T43 l0 x3_1).f1) ((rd_T43 l0 x3_1).f2) false 0 0) else (gimballaw17_StepExact.j2 kj1 l0 x3_1 1 false false ((rd_T43 l0 x3_1).f0.f0) ((rd_T43 l0 x3_1).f0.f1) ((rd_T43 l0 x3_1).f0.f2) ((rd_T43 l0 x3_1).f1) ((rd_T43 l0 x3_1).f2) false 0 0)) = some r := H
                      have A15 := Aside0.mk A150
                      clear A150
                      by_cases c16 : t134 = true
                      · subst c16
                        have H1 : (gimballaw17_StepExact.j2 kj1 l0 x3_1 1 false (decide (((rd_T43 l0 x3_1).f2) ≥ ((rd_T43 l0 x3_1).f0.f1))) ((rd_T43 l0 x3_1).f0.f0) ((rd_T43 l0 x3_1).f0.f1) ((rd_T43 l0 x3_1).f0.f2) ((rd_T43 l0 x3_1).f1) ((rd_T43 l0 x3_1).f2) false 0 0) = some r := by rw [if_pos rfl] at H; exact H
                        clear H
                        have H := H1
                        clear H1
                        have H' := Aside0.mk H
                        clear H
                        have hnb17 := NB130_131.out
                        have hnc17 := NB131_130.out
                        have hcz18_0 : w10.cell? ⟨gb130, 0, none⟩ = some (.bool ((rd_T43 l0 x3_1).f0.f0)) := (blk_cell BK130.out 0).trans rfl
                        have hcz18_1 : w10.cell? ⟨gb130, 1, none⟩ = some (.int .i64 ((rd_T43 l0 x3_1).f0.f1)) := (blk_cell BK130.out 1).trans rfl
                        have hcz18_2 : w10.cell? ⟨gb130, 2, none⟩ = some (.int .i64 ((rd_T43 l0 x3_1).f0.f2)) := (blk_cell BK130.out 2).trans rfl
                        have hcz18_3 : w10.cell? ⟨gb130, 3, none⟩ = some (.int .i64 ((rd_T43 l0 x3_1).f1)) := (blk_cell BK130.out 3).trans rfl
                        have hcz18_4 : w10.cell? ⟨gb130, 4, none⟩ = some (.int .i64 ((rd_T43 l0 x3_1).f2)) := (blk_cell BK130.out 4).trans rfl
                        have hfz18_0 := blk_frozen BK130.out 0
                        have hfz18_1 := blk_frozen BK130.out 1
                        have hfz18_2 := blk_frozen BK130.out 2
                        have hfz18_3 := blk_frozen BK130.out 3
                        have hfz18_4 := blk_frozen BK130.out 4
                        go_wp2_with (first | ((with_reducible refine gate_callee (f := 17) rfl ?_); refine goesL_ (some 27) rfl rfl Try.func17 (by kernel_rfl) rfl #[.agg #[.bool ((rd_T43 l0 x3_1).f0.f0), .int .i64 ((rd_T43 l0 x3_1).f0.f1), .int .i64 ((rd_T43 l0 x3_1).f0.f2)]] rfl (by (try simp only [List.map_toArray, List.map_cons, List.map_nil]); first | done | rfl | (simp only [List.length_drop, List.length_take]; rfl)) ?_; (with_reducible refine (gimbalref15_MayStep.calls ((rd_T43 l0 x3_1).f0.f0) ((rd_T43 l0 x3_1).f0.f1) ((rd_T43 l0 x3_1).f0.f2) true _ A11.out).mono ?_); rintro e w19 ⟨rfl, hb⟩; refine ⟨_, rfl, ?_⟩; have n0_ := Aside0.mk (blk_below (g := gb130) (o := .cells #[.bool ((rd_T43 l0 x3_1).f0.f0), .int .i64 ((rd_T43 l0 x3_1).f0.f1), .int .i64 ((rd_T43 l0 x3_1).f0.f2), .int .i64 ((rd_T43 l0 x3_1).f1), .int .i64 ((rd_T43 l0 x3_1).f2)] 43 (0, 0)) (by (with_reducible repeat (first | refine blk_drewN ?_ _ | refine blk_drew ?_ | refine blk_alloc ?_ _)); exact BK130.out) hb); have n1_ := Aside0.mk (blk_below (g := gb131) (o := .cells #[.bool false, .int .i64 0, .int .i64 0] 41 (0, 0)) (by (with_reducible repeat (first | refine blk_drewN ?_ _ | refine blk_drew ?_ | refine blk_alloc ?_ _)); exact BK131.out) hb); have n2_ := Aside0.mk (below_step (by repeat (first | (with_reducible first | exact HB.out | apply below_alloc | apply pw_below_drewN | apply below_drew1 | refine below_set ?_ GE130.out | refine below_set ?_ GE131.out) | exact HB.out)) hb); clear BK130; clear BK131; clear HB; have BK130 := n0_; have BK131 := n1_; have HB := n2_; clear n0_ n1_ n2_; (try clear hb); (try clear hb2); (try clear hk); (try clear hi); have hcz20_0 : w19.cell? ⟨gb130, 0, none⟩ = some (.bool ((rd_T43 l0 x3_1).f0.f0)) := (blk_cell BK130.out 0).trans rfl; have hcz20_1 : w19.cell? ⟨gb130, 1, none⟩ = some (.int .i64 ((rd_T43 l0 x3_1).f0.f1)) := (blk_cell BK130.out 1).trans rfl; have hcz20_2 : w19.cell? ⟨gb130, 2, none⟩ = some (.int .i64 ((rd_T43 l0 x3_1).f0.f2)) := (blk_cell BK130.out 2).trans rfl; have hcz20_3 : w19.cell? ⟨gb130, 3, none⟩ = some (.int .i64 ((rd_T43 l0 x3_1).f1)) := (blk_cell BK130.out 3).trans rfl; have hcz20_4 : w19.cell? ⟨gb130, 4, none⟩ = some (.int .i64 ((rd_T43 l0 x3_1).f2)) := (blk_cell BK130.out 4).trans rfl; have hfz20_0 := blk_frozen BK130.out 0; have hfz20_1 := blk_frozen BK130.out 1; have hfz20_2 := blk_frozen BK130.out 2; have hfz20_3 := blk_frozen BK130.out 3; have hfz20_4 := blk_frozen BK130.out 4) | (go_at_call 10; (with_reducible refine (gimbalref15_Mag.calls ((rd_T43 l0 x3_1).f1) true _ A13.out).mono ?_); rintro e w' ⟨rfl, ⟨nd, rfl⟩⟩) | (go_at_call 11; (with_reducible refine (gimbalref0_Time.calls ((rd_T43 l0 x3_1).f2) true _ A15.out).mono ?_); rintro e w' ⟨rfl, ⟨nd, rfl⟩⟩))
                        go_meet
                        case rel => exact ⟨_, (decide (((rd_T43 l0 x3_1).f2) ≥ ((rd_T43 l0 x3_1).f0.f1))), (by first | rfl | (simp; done) | (simp [*]; done)), H', ⟨by have := HK1.out; have := HJ1.out; first | omega | exact Nat.le_refl _⟩, ⟨by (with_reducible repeat (first | refine blk_drewN ?_ _ | refine blk_drew ?_ | refine blk_alloc ?_ _)); exact BK130.out⟩, ⟨by (with_reducible repeat (first | refine blk_drewN ?_ _ | refine blk_drew ?_ | refine blk_alloc ?_ _)); exact BK131.out⟩, ⟨by repeat (first | (with_reducible first | exact HB.out | apply below_alloc | apply pw_below_drewN | apply below_drew1 | refine below_set ?_ GE130.out | refine below_set ?_ GE131.out) | exact HB.out)⟩⟩
                      · replace c16 := Bool.eq_false_iff.mpr c16
                        subst c16
                        have H1 : (gimballaw17_StepExact.j2 kj1 l0 x3_1 1 false false ((rd_T43 l0 x3_1).f0.f0) ((rd_T43 l0 x3_1).f0.f1) ((rd_T43 l0 x3_1).f0.f2) ((rd_T43 l0 x3_1).f1) ((rd_T43 l0 x3_1).f2) false 0 0) = some r := by rw [if_neg (show ¬ (false = true) by decide)] at H; exact H
                        clear H
                        have H := H1
                        clear H1
                        have H' := Aside0.mk H
                        clear H
                        have hnb21 := NB130_131.out
                        have hnc21 := NB131_130.out
                        have hcz22_0 : w10.cell? ⟨gb130, 0, none⟩ = some (.bool ((rd_T43 l0 x3_1).f0.f0)) := (blk_cell BK130.out 0).trans rfl
                        have hcz22_1 : w10.cell? ⟨gb130, 1, none⟩ = some (.int .i64 ((rd_T43 l0 x3_1).f0.f1)) := (blk_cell BK130.out 1).trans rfl
                        have hcz22_2 : w10.cell? ⟨gb130, 2, none⟩ = some (.int .i64 ((rd_T43 l0 x3_1).f0.f2)) := (blk_cell BK130.out 2).trans rfl
                        have hcz22_3 : w10.cell? ⟨gb130, 3, none⟩ = some (.int .i64 ((rd_T43 l0 x3_1).f1)) := (blk_cell BK130.out 3).trans rfl
                        have hcz22_4 : w10.cell? ⟨gb130, 4, none⟩ = some (.int .i64 ((rd_T43 l0 x3_1).f2)) := (blk_cell BK130.out 4).trans rfl
                        have hfz22_0 := blk_frozen BK130.out 0
                        have hfz22_1 := blk_frozen BK130.out 1
                        have hfz22_2 := blk_frozen BK130.out 2
                        have hfz22_3 := blk_frozen BK130.out 3
                        have hfz22_4 := blk_frozen BK130.out 4
                        go_wp2_with (first | ((with_reducible refine gate_callee (f := 17) rfl ?_); refine goesL_ (some 27) rfl rfl Try.func17 (by kernel_rfl) rfl #[.agg #[.bool ((rd_T43 l0 x3_1).f0.f0), .int .i64 ((rd_T43 l0 x3_1).f0.f1), .int .i64 ((rd_T43 l0 x3_1).f0.f2)]] rfl (by (try simp only [List.map_toArray, List.map_cons, List.map_nil]); first | done | rfl | (simp only [List.length_drop, List.length_take]; rfl)) ?_; (with_reducible refine (gimbalref15_MayStep.calls ((rd_T43 l0 x3_1).f0.f0) ((rd_T43 l0 x3_1).f0.f1) ((rd_T43 l0 x3_1).f0.f2) true _ A11.out).mono ?_); rintro e w23 ⟨rfl, hb⟩; refine ⟨_, rfl, ?_⟩; have n0_ := Aside0.mk (blk_below (g := gb130) (o := .cells #[.bool ((rd_T43 l0 x3_1).f0.f0), .int .i64 ((rd_T43 l0 x3_1).f0.f1), .int .i64 ((rd_T43 l0 x3_1).f0.f2), .int .i64 ((rd_T43 l0 x3_1).f1), .int .i64 ((rd_T43 l0 x3_1).f2)] 43 (0, 0)) (by (with_reducible repeat (first | refine blk_drewN ?_ _ | refine blk_drew ?_ | refine blk_alloc ?_ _)); exact BK130.out) hb); have n1_ := Aside0.mk (blk_below (g := gb131) (o := .cells #[.bool false, .int .i64 0, .int .i64 0] 41 (0, 0)) (by (with_reducible repeat (first | refine blk_drewN ?_ _ | refine blk_drew ?_ | refine blk_alloc ?_ _)); exact BK131.out) hb); have n2_ := Aside0.mk (below_step (by repeat (first | (with_reducible first | exact HB.out | apply below_alloc | apply pw_below_drewN | apply below_drew1 | refine below_set ?_ GE130.out | refine below_set ?_ GE131.out) | exact HB.out)) hb); clear BK130; clear BK131; clear HB; have BK130 := n0_; have BK131 := n1_; have HB := n2_; clear n0_ n1_ n2_; (try clear hb); (try clear hb2); (try clear hk); (try clear hi); have hcz24_0 : w23.cell? ⟨gb130, 0, none⟩ = some (.bool ((rd_T43 l0 x3_1).f0.f0)) := (blk_cell BK130.out 0).trans rfl; have hcz24_1 : w23.cell? ⟨gb130, 1, none⟩ = some (.int .i64 ((rd_T43 l0 x3_1).f0.f1)) := (blk_cell BK130.out 1).trans rfl; have hcz24_2 : w23.cell? ⟨gb130, 2, none⟩ = some (.int .i64 ((rd_T43 l0 x3_1).f0.f2)) := (blk_cell BK130.out 2).trans rfl; have hcz24_3 : w23.cell? ⟨gb130, 3, none⟩ = some (.int .i64 ((rd_T43 l0 x3_1).f1)) := (blk_cell BK130.out 3).trans rfl; have hcz24_4 : w23.cell? ⟨gb130, 4, none⟩ = some (.int .i64 ((rd_T43 l0 x3_1).f2)) := (blk_cell BK130.out 4).trans rfl; have hfz24_0 := blk_frozen BK130.out 0; have hfz24_1 := blk_frozen BK130.out 1; have hfz24_2 := blk_frozen BK130.out 2; have hfz24_3 := blk_frozen BK130.out 3; have hfz24_4 := blk_frozen BK130.out 4) | (go_at_call 10; (with_reducible refine (gimbalref15_Mag.calls ((rd_T43 l0 x3_1).f1) true _ A13.out).mono ?_); rintro e w' ⟨rfl, ⟨nd, rfl⟩⟩) | (go_at_call 11; (with_reducible refine (gimbalref0_Time.calls ((rd_T43 l0 x3_1).f2) false _ A15.out).mono ?_); rintro e w' ⟨rfl, ⟨nd, rfl⟩⟩))
                        go_meet
                        case rel => exact ⟨_, (false), (by first | rfl | (simp; done) | (simp [*]; done)), H', ⟨by have := HK1.out; have := HJ1.out; first | omega | exact Nat.le_refl _⟩, ⟨by (with_reducible repeat (first | refine blk_drewN ?_ _ | refine blk_drew ?_ | refine blk_alloc ?_ _)); exact BK130.out⟩, ⟨by (with_reducible repeat (first | refine blk_drewN ?_ _ | refine blk_drew ?_ | refine blk_alloc ?_ _)); exact BK131.out⟩, ⟨by repeat (first | (with_reducible first | exact HB.out | apply below_alloc | apply pw_below_drewN | apply below_drew1 | refine below_set ?_ GE130.out | refine below_set ?_ GE131.out) | exact HB.out)⟩⟩
                    · replace c14 := Bool.eq_false_iff.mpr c14
                      subst c14
                      have H1 : (gimballaw17_StepExact.j2 kj1 l0 x3_1 1 false false ((rd_T43 l0 x3_1).f0.f0) ((rd_T43 l0 x3_1).f0.f1) ((rd_T43 l0 x3_1).f0.f2) ((rd_T43 l0 x3_1).f1) ((rd_T43 l0 x3_1).f2) false 0 0) = some r := by rw [if_neg (show ¬ (false = true) by decide)] at H; exact H
                      clear H
                      have H := H1
                      clear H1
                      have H' := Aside0.mk H
                      clear H
                      have hnb25 := NB130_131.out
                      have hnc25 := NB131_130.out
                      have hcz26_0 : w10.cell? ⟨gb130, 0, none⟩ = some (.bool ((rd_T43 l0 x3_1).f0.f0)) := (blk_cell BK130.out 0).trans rfl
                      have hcz26_1 : w10.cell? ⟨gb130, 1, none⟩ = some (.int .i64 ((rd_T43 l0 x3_1).f0.f1)) := (blk_cell BK130.out 1).trans rfl
                      have hcz26_2 : w10.cell? ⟨gb130, 2, none⟩ = some (.int .i64 ((rd_T43 l0 x3_1).f0.f2)) := (blk_cell BK130.out 2).trans rfl
                      have hcz26_3 : w10.cell? ⟨gb130, 3, none⟩ = some (.int .i64 ((rd_T43 l0 x3_1).f1)) := (blk_cell BK130.out 3).trans rfl
                      have hcz26_4 : w10.cell? ⟨gb130, 4, none⟩ = some (.int .i64 ((rd_T43 l0 x3_1).f2)) := (blk_cell BK130.out 4).trans rfl
                      have hfz26_0 := blk_frozen BK130.out 0
                      have hfz26_1 := blk_frozen BK130.out 1
                      have hfz26_2 := blk_frozen BK130.out 2
                      have hfz26_3 := blk_frozen BK130.out 3
                      have hfz26_4 := blk_frozen BK130.out 4
                      go_wp2_with (first | ((with_reducible refine gate_callee (f := 17) rfl ?_); refine goesL_ (some 27) rfl rfl Try.func17 (by kernel_rfl) rfl #[.agg #[.bool ((rd_T43 l0 x3_1).f0.f0), .int .i64 ((rd_T43 l0 x3_1).f0.f1), .int .i64 ((rd_T43 l0 x3_1).f0.f2)]] rfl (by (try simp only [List.map_toArray, List.map_cons, List.map_nil]); first | done | rfl | (simp only [List.length_drop, List.length_take]; rfl)) ?_; (with_reducible refine (gimbalref15_MayStep.calls ((rd_T43 l0 x3_1).f0.f0) ((rd_T43 l0 x3_1).f0.f1) ((rd_T43 l0 x3_1).f0.f2) true _ A11.out).mono ?_); rintro e w27 ⟨rfl, hb⟩; refine ⟨_, rfl, ?_⟩; have n0_ := Aside0.mk (blk_below (g := gb130) (o := .cells #[.bool ((rd_T43 l0 x3_1).f0.f0), .int .i64 ((rd_T43 l0 x3_1).f0.f1), .int .i64 ((rd_T43 l0 x3_1).f0.f2), .int .i64 ((rd_T43 l0 x3_1).f1), .int .i64 ((rd_T43 l0 x3_1).f2)] 43 (0, 0)) (by (with_reducible repeat (first | refine blk_drewN ?_ _ | refine blk_drew ?_ | refine blk_alloc ?_ _)); exact BK130.out) hb); have n1_ := Aside0.mk (blk_below (g := gb131) (o := .cells #[.bool false, .int .i64 0, .int .i64 0] 41 (0, 0)) (by (with_reducible repeat (first | refine blk_drewN ?_ _ | refine blk_drew ?_ | refine blk_alloc ?_ _)); exact BK131.out) hb); have n2_ := Aside0.mk (below_step (by repeat (first | (with_reducible first | exact HB.out | apply below_alloc | apply pw_below_drewN | apply below_drew1 | refine below_set ?_ GE130.out | refine below_set ?_ GE131.out) | exact HB.out)) hb); clear BK130; clear BK131; clear HB; have BK130 := n0_; have BK131 := n1_; have HB := n2_; clear n0_ n1_ n2_; (try clear hb); (try clear hb2); (try clear hk); (try clear hi); have hcz28_0 : w27.cell? ⟨gb130, 0, none⟩ = some (.bool ((rd_T43 l0 x3_1).f0.f0)) := (blk_cell BK130.out 0).trans rfl; have hcz28_1 : w27.cell? ⟨gb130, 1, none⟩ = some (.int .i64 ((rd_T43 l0 x3_1).f0.f1)) := (blk_cell BK130.out 1).trans rfl; have hcz28_2 : w27.cell? ⟨gb130, 2, none⟩ = some (.int .i64 ((rd_T43 l0 x3_1).f0.f2)) := (blk_cell BK130.out 2).trans rfl; have hcz28_3 : w27.cell? ⟨gb130, 3, none⟩ = some (.int .i64 ((rd_T43 l0 x3_1).f1)) := (blk_cell BK130.out 3).trans rfl; have hcz28_4 : w27.cell? ⟨gb130, 4, none⟩ = some (.int .i64 ((rd_T43 l0 x3_1).f2)) := (blk_cell BK130.out 4).trans rfl; have hfz28_0 := blk_frozen BK130.out 0; have hfz28_1 := blk_frozen BK130.out 1; have hfz28_2 := blk_frozen BK130.out 2; have hfz28_3 := blk_frozen BK130.out 3; have hfz28_4 := blk_frozen BK130.out 4) | (go_at_call 10; (with_reducible refine (gimbalref15_Mag.calls ((rd_T43 l0 x3_1).f1) false _ A13.out).mono ?_); rintro e w' ⟨rfl, ⟨nd, rfl⟩⟩))
                      go_meet
                      case rel => exact ⟨_, (false), (by first | rfl | (simp; done) | (simp [*]; done)), H', ⟨by have := HK1.out; have := HJ1.out; first | omega | exact Nat.le_refl _⟩, ⟨by (with_reducible repeat (first | refine blk_drewN ?_ _ | refine blk_drew ?_ | refine blk_alloc ?_ _)); exact BK130.out⟩, ⟨by (with_reducible repeat (first | refine blk_drewN ?_ _ | refine blk_drew ?_ | refine blk_alloc ?_ _)); exact BK131.out⟩, ⟨by repeat (first | (with_reducible first | exact HB.out | apply below_alloc | apply pw_below_drewN | apply below_drew1 | refine below_set ?_ GE130.out | refine below_set ?_ GE131.out) | exact HB.out)⟩⟩
                  · replace c12 := Bool.eq_false_iff.mpr c12
                    subst c12
                    have H1 : (gimballaw17_StepExact.j2 kj1 l0 x3_1 1 false false ((rd_T43 l0 x3_1).f0.f0) ((rd_T43 l0 x3_1).f0.f1) ((rd_T43 l0 x3_1).f0.f2) ((rd_T43 l0 x3_1).f1) ((rd_T43 l0 x3_1).f2) false 0 0) = some r := by rw [if_neg (show ¬ (false = true) by decide)] at H; exact H
                    clear H
                    have H := H1
                    clear H1
                    have H' := Aside0.mk H
                    clear H
                    have hnb29 := NB130_131.out
                    have hnc29 := NB131_130.out
                    have hcz30_0 : w10.cell? ⟨gb130, 0, none⟩ = some (.bool ((rd_T43 l0 x3_1).f0.f0)) := (blk_cell BK130.out 0).trans rfl
                    have hcz30_1 : w10.cell? ⟨gb130, 1, none⟩ = some (.int .i64 ((rd_T43 l0 x3_1).f0.f1)) := (blk_cell BK130.out 1).trans rfl
                    have hcz30_2 : w10.cell? ⟨gb130, 2, none⟩ = some (.int .i64 ((rd_T43 l0 x3_1).f0.f2)) := (blk_cell BK130.out 2).trans rfl
                    have hcz30_3 : w10.cell? ⟨gb130, 3, none⟩ = some (.int .i64 ((rd_T43 l0 x3_1).f1)) := (blk_cell BK130.out 3).trans rfl
                    have hcz30_4 : w10.cell? ⟨gb130, 4, none⟩ = some (.int .i64 ((rd_T43 l0 x3_1).f2)) := (blk_cell BK130.out 4).trans rfl
                    have hfz30_0 := blk_frozen BK130.out 0
                    have hfz30_1 := blk_frozen BK130.out 1
                    have hfz30_2 := blk_frozen BK130.out 2
                    have hfz30_3 := blk_frozen BK130.out 3
                    have hfz30_4 := blk_frozen BK130.out 4
                    go_wp2_with (first | ((with_reducible refine gate_callee (f := 17) rfl ?_); refine goesL_ (some 27) rfl rfl Try.func17 (by kernel_rfl) rfl #[.agg #[.bool ((rd_T43 l0 x3_1).f0.f0), .int .i64 ((rd_T43 l0 x3_1).f0.f1), .int .i64 ((rd_T43 l0 x3_1).f0.f2)]] rfl (by (try simp only [List.map_toArray, List.map_cons, List.map_nil]); first | done | rfl | (simp only [List.length_drop, List.length_take]; rfl)) ?_; (with_reducible refine (gimbalref15_MayStep.calls ((rd_T43 l0 x3_1).f0.f0) ((rd_T43 l0 x3_1).f0.f1) ((rd_T43 l0 x3_1).f0.f2) false _ A11.out).mono ?_); rintro e w31 ⟨rfl, hb⟩; refine ⟨_, rfl, ?_⟩; have n0_ := Aside0.mk (blk_below (g := gb130) (o := .cells #[.bool ((rd_T43 l0 x3_1).f0.f0), .int .i64 ((rd_T43 l0 x3_1).f0.f1), .int .i64 ((rd_T43 l0 x3_1).f0.f2), .int .i64 ((rd_T43 l0 x3_1).f1), .int .i64 ((rd_T43 l0 x3_1).f2)] 43 (0, 0)) (by (with_reducible repeat (first | refine blk_drewN ?_ _ | refine blk_drew ?_ | refine blk_alloc ?_ _)); exact BK130.out) hb); have n1_ := Aside0.mk (blk_below (g := gb131) (o := .cells #[.bool false, .int .i64 0, .int .i64 0] 41 (0, 0)) (by (with_reducible repeat (first | refine blk_drewN ?_ _ | refine blk_drew ?_ | refine blk_alloc ?_ _)); exact BK131.out) hb); have n2_ := Aside0.mk (below_step (by repeat (first | (with_reducible first | exact HB.out | apply below_alloc | apply pw_below_drewN | apply below_drew1 | refine below_set ?_ GE130.out | refine below_set ?_ GE131.out) | exact HB.out)) hb); clear BK130; clear BK131; clear HB; have BK130 := n0_; have BK131 := n1_; have HB := n2_; clear n0_ n1_ n2_; (try clear hb); (try clear hb2); (try clear hk); (try clear hi)))
                    go_meet
                    case rel => exact ⟨_, (false), (by first | rfl | (simp; done) | (simp [*]; done)), H', ⟨by have := HK1.out; have := HJ1.out; first | omega | exact Nat.le_refl _⟩, ⟨by (with_reducible repeat (first | refine blk_drewN ?_ _ | refine blk_drew ?_ | refine blk_alloc ?_ _)); exact BK130.out⟩, ⟨by (with_reducible repeat (first | refine blk_drewN ?_ _ | refine blk_drew ?_ | refine blk_alloc ?_ _)); exact BK131.out⟩, ⟨by repeat (first | (with_reducible first | exact HB.out | apply below_alloc | apply pw_below_drewN | apply below_drew1 | refine below_set ?_ GE130.out | refine below_set ?_ GE131.out) | exact HB.out)⟩⟩
                case rest =>
                  clear HC7
                  try clear c1
                  try clear p1
                  try clear q1
                  try clear hx1
                  try clear c2
                  try clear p2
                  try clear c3
                  try clear c3b0
                  try clear c4
                  try clear c5
                  try clear c5b0
                  try clear c6
                  try clear c6b0
                  try clear c12
                  try clear p12
                  try clear q12
                  try clear hx12
                  try clear c14
                  try clear c16
                  try clear c17
                  try clear c21
                  try clear c25
                  try clear c29
                  try clear hcz18_0
                  try clear hcz18_1
                  try clear hcz18_2
                  try clear hcz18_3
                  try clear hcz18_4
                  try clear hcz20_0
                  try clear hcz20_1
                  try clear hcz20_2
                  try clear hcz20_3
                  try clear hcz20_4
                  try clear hcz22_0
                  try clear hcz22_1
                  try clear hcz22_2
                  try clear hcz22_3
                  try clear hcz22_4
                  try clear hcz24_0
                  try clear hcz24_1
                  try clear hcz24_2
                  try clear hcz24_3
                  try clear hcz24_4
                  try clear hcz26_0
                  try clear hcz26_1
                  try clear hcz26_2
                  try clear hcz26_3
                  try clear hcz26_4
                  try clear hcz28_0
                  try clear hcz28_1
                  try clear hcz28_2
                  try clear hcz28_3
                  try clear hcz28_4
                  try clear hcz30_0
                  try clear hcz30_1
                  try clear hcz30_2
                  try clear hcz30_3
                  try clear hcz30_4
                  try clear hcz9_0
                  try clear hcz9_1
                  try clear hcz9_2
                  try clear hcz9_3
                  try clear hcz9_4
                  try clear hfz18_0
                  try clear hfz18_1
                  try clear hfz18_2
                  try clear hfz18_3
                  try clear hfz18_4
                  try clear hfz20_0
                  try clear hfz20_1
                  try clear hfz20_2
                  try clear hfz20_3
                  try clear hfz20_4
                  try clear hfz22_0
                  try clear hfz22_1
                  try clear hfz22_2
                  try clear hfz22_3
                  try clear hfz22_4
                  try clear hfz24_0
                  try clear hfz24_1
                  try clear hfz24_2
                  try clear hfz24_3
                  try clear hfz24_4
                  try clear hfz26_0
                  try clear hfz26_1
                  try clear hfz26_2
                  try clear hfz26_3
                  try clear hfz26_4
                  try clear hfz28_0
                  try clear hfz28_1
                  try clear hfz28_2
                  try clear hfz28_3
                  try clear hfz28_4
                  try clear hfz30_0
                  try clear hfz30_1
                  try clear hfz30_2
                  try clear hfz30_3
                  try clear hfz30_4
                  try clear hfz9_0
                  try clear hfz9_1
                  try clear hfz9_2
                  try clear hfz9_3
                  try clear hfz9_4
                  try clear hx129_0
                  try clear hx129_1
                  try clear hx129_2
                  try clear hx129_3
                  try clear hx129_4
                  try clear p129
                  try clear p2
                  try clear q129
                  obtain ⟨kq, x45_6, rfl, HA, HJ6, BK130, BK131, HB⟩ := hcut
                  cases kq with
                  | zero => exact absurd HA.out (by simp [gimballaw17_StepExact.j2])
                  | succ kj6 =>
                    have H := HA.out
                    clear HA
                    simp only [gimballaw17_StepExact.j2] at H
                    have HC32 := Aside0.mk H
                    clear H
                    go_upto_if 45 with (fail)
                    go_cut [5, 7] (fun v5 v7 wc => ∃ (kq : Nat) (x5_31 : Int) (x7_31 : Bool) (x132000_31 : Bool) (x132001_31 : Int) (x132002_31 : Int), v5 = .int .i64 x5_31 ∧ v7 = .bool x7_31 ∧ Aside0 (gimballaw17_StepExact.j3 kq l0 x3_1 x5_31 x7_31 ((rd_T43 l0 x3_1).f0.f0) ((rd_T43 l0 x3_1).f0.f1) ((rd_T43 l0 x3_1).f0.f2) ((rd_T43 l0 x3_1).f1) ((rd_T43 l0 x3_1).f2) x132000_31 x132001_31 x132002_31 = some r) ∧ Aside0 (kq ≤ kj6) ∧ Aside0 (wc.heap[gb130]? = some (.cells #[.bool ((rd_T43 l0 x3_1).f0.f0), .int .i64 ((rd_T43 l0 x3_1).f0.f1), .int .i64 ((rd_T43 l0 x3_1).f0.f2), .int .i64 ((rd_T43 l0 x3_1).f1), .int .i64 ((rd_T43 l0 x3_1).f2)] 43 (0, 0))) ∧ Aside0 (wc.heap[gb131]? = some (.cells #[.bool x132000_31, .int .i64 x132001_31, .int .i64 x132002_31] 41 (0, 0))) ∧ Aside0 (Below w.heap.size w wc))
                    case first =>
                      have H := HC32.out
                      clear HC32
                      by_cases c33 : x45_6 = true
                      · subst c33
                        have H1 : ((gimbalref15_Step.f kj6 ((rd_T43 l0 x3_1).f0.f0) ((rd_T43 l0 x3_1).f0.f1) ((rd_T43 l0 x3_1).f0.f2) ((rd_T43 l0 x3_1).f1) ((rd_T43 l0 x3_1).f2)).bind fun bt135 => (gimballaw17_StepExact.j3 kj6 l0 x3_1 bt135.2.2.2.2 bt135.2.2.2.1 ((rd_T43 l0 x3_1).f0.f0) ((rd_T43 l0 x3_1).f0.f1) ((rd_T43 l0 x3_1).f0.f2) ((rd_T43 l0 x3_1).f1) ((rd_T43 l0 x3_1).f2) bt135.1 bt135.2.1 bt135.2.2.1)) = some r := by rw [if_pos rfl] at H; exact H
                        clear H
                        have H := H1
                        clear H1
                        replace H := Option.bind_eq_some_iff.mp H
                        obtain ⟨⟨t135, t136, t137, t138, t139⟩, A340, H⟩ := H
                        replace H : (gimballaw17_StepExact.j3 kj6 l0 x3_1 t139 t138 ((rd_T43 l0 x3_1).f0.f0) ((rd_T43 l0 x3_1).f0.f1) ((rd_T43 l0 x3_1).f0.f2) ((rd_T43 l0 x3_1).f1) ((rd_T43 l0 x3_1).f2) t135 t136 t137) = some r := H
                        have A34 := Aside0.mk A340
                        clear A340
                        have H' := Aside0.mk H
                        clear H
                        have hnb35 := NB130_131.out
                        have hnc35 := NB131_130.out
                        have hcz36_0 : wc.cell? ⟨gb130, 0, none⟩ = some (.bool ((rd_T43 l0 x3_1).f0.f0)) := (blk_cell BK130.out 0).trans rfl
                        have hcz36_1 : wc.cell? ⟨gb130, 1, none⟩ = some (.int .i64 ((rd_T43 l0 x3_1).f0.f1)) := (blk_cell BK130.out 1).trans rfl
                        have hcz36_2 : wc.cell? ⟨gb130, 2, none⟩ = some (.int .i64 ((rd_T43 l0 x3_1).f0.f2)) := (blk_cell BK130.out 2).trans rfl
                        have hcz36_3 : wc.cell? ⟨gb130, 3, none⟩ = some (.int .i64 ((rd_T43 l0 x3_1).f1)) := (blk_cell BK130.out 3).trans rfl
                        have hcz36_4 : wc.cell? ⟨gb130, 4, none⟩ = some (.int .i64 ((rd_T43 l0 x3_1).f2)) := (blk_cell BK130.out 4).trans rfl
                        have hfz36_0 := blk_frozen BK130.out 0
                        have hfz36_1 := blk_frozen BK130.out 1
                        have hfz36_2 := blk_frozen BK130.out 2
                        have hfz36_3 := blk_frozen BK130.out 3
                        have hfz36_4 := blk_frozen BK130.out 4
                        go_wp2_with (first | ((with_reducible refine gate_callee (f := 18) rfl ?_); refine goesL_ (some 53) rfl rfl Try.func18 (by kernel_rfl) rfl #[.agg #[.bool ((rd_T43 l0 x3_1).f0.f0), .int .i64 ((rd_T43 l0 x3_1).f0.f1), .int .i64 ((rd_T43 l0 x3_1).f0.f2)], .int .i64 ((rd_T43 l0 x3_1).f1), .int .i64 ((rd_T43 l0 x3_1).f2)] rfl (by (try simp only [List.map_toArray, List.map_cons, List.map_nil]); first | done | rfl | (simp only [List.length_drop, List.length_take]; rfl)) ?_; (with_reducible refine (gimbalref15_Step.calls kj6 ((rd_T43 l0 x3_1).f0.f0) ((rd_T43 l0 x3_1).f0.f1) ((rd_T43 l0 x3_1).f0.f2) ((rd_T43 l0 x3_1).f1) ((rd_T43 l0 x3_1).f2) t135 t136 t137 t138 t139 _ A34.out).mono ?_); rintro e w37 ⟨rfl, hb⟩; refine ⟨_, rfl, ?_⟩; have n0_ := Aside0.mk (blk_below (g := gb130) (o := .cells #[.bool ((rd_T43 l0 x3_1).f0.f0), .int .i64 ((rd_T43 l0 x3_1).f0.f1), .int .i64 ((rd_T43 l0 x3_1).f0.f2), .int .i64 ((rd_T43 l0 x3_1).f1), .int .i64 ((rd_T43 l0 x3_1).f2)] 43 (0, 0)) (by (with_reducible repeat (first | refine blk_drewN ?_ _ | refine blk_drew ?_ | refine blk_alloc ?_ _)); exact BK130.out) hb); have n1_ := Aside0.mk (blk_below (g := gb131) (o := .cells #[.bool false, .int .i64 0, .int .i64 0] 41 (0, 0)) (by (with_reducible repeat (first | refine blk_drewN ?_ _ | refine blk_drew ?_ | refine blk_alloc ?_ _)); exact BK131.out) hb); have n2_ := Aside0.mk (below_step (by repeat (first | (with_reducible first | exact HB.out | apply below_alloc | apply pw_below_drewN | apply below_drew1 | refine below_set ?_ GE130.out | refine below_set ?_ GE131.out) | exact HB.out)) hb); clear BK130; clear BK131; clear HB; have BK130 := n0_; have BK131 := n1_; have HB := n2_; clear n0_ n1_ n2_; (try clear hb); (try clear hb2); (try clear hk); (try clear hi); have hcz38_0 : w37.cell? ⟨gb131, 0, none⟩ = some (.bool false) := (blk_cell BK131.out 0).trans rfl; have hcz38_1 : w37.cell? ⟨gb131, 1, none⟩ = some (.int .i64 0) := (blk_cell BK131.out 1).trans rfl; have hcz38_2 : w37.cell? ⟨gb131, 2, none⟩ = some (.int .i64 0) := (blk_cell BK131.out 2).trans rfl; have hfz38_0 := blk_frozen BK131.out 0; have hfz38_1 := blk_frozen BK131.out 1; have hfz38_2 := blk_frozen BK131.out 2))
                        go_meet
                        case rel => exact ⟨_, (t139), (t138), (t135), (t136), (t137), (by first | rfl | (simp; done) | (simp [*]; done)), (by first | rfl | (simp; done) | (simp [*]; done)), H', ⟨by have := HK1.out; have := HJ1.out; have := HJ6.out; first | omega | exact Nat.le_refl _⟩, ⟨by (with_reducible repeat (first | refine blk_drewN ?_ _ | refine blk_drew ?_ | refine blk_alloc ?_ _)); refine blk_far ?_ NB130_131.out _; (with_reducible repeat (first | refine blk_drewN ?_ _ | refine blk_drew ?_ | refine blk_alloc ?_ _)); refine blk_far ?_ NB130_131.out _; (with_reducible repeat (first | refine blk_drewN ?_ _ | refine blk_drew ?_ | refine blk_alloc ?_ _)); refine blk_far ?_ NB130_131.out _; (with_reducible repeat (first | refine blk_drewN ?_ _ | refine blk_drew ?_ | refine blk_alloc ?_ _)); exact BK130.out⟩, ⟨by (with_reducible repeat (first | refine blk_drewN ?_ _ | refine blk_drew ?_ | refine blk_alloc ?_ _)); refine blk_put (cs := #[.bool t135, .int .i64 t136, .int .i64 0]) ?_ 2 _ rfl; (with_reducible repeat (first | refine blk_drewN ?_ _ | refine blk_drew ?_ | refine blk_alloc ?_ _)); refine blk_put (cs := #[.bool t135, .int .i64 0, .int .i64 0]) ?_ 1 _ rfl; (with_reducible repeat (first | refine blk_drewN ?_ _ | refine blk_drew ?_ | refine blk_alloc ?_ _)); refine blk_put (cs := #[.bool false, .int .i64 0, .int .i64 0]) ?_ 0 _ rfl; (with_reducible repeat (first | refine blk_drewN ?_ _ | refine blk_drew ?_ | refine blk_alloc ?_ _)); exact BK131.out⟩, ⟨by repeat (first | (with_reducible first | exact HB.out | apply below_alloc | apply pw_below_drewN | apply below_drew1 | refine below_set ?_ GE130.out | refine below_set ?_ GE131.out) | exact HB.out)⟩⟩
                      · replace c33 := Bool.eq_false_iff.mpr c33
                        subst c33
                        have H1 : (gimballaw17_StepExact.j3 kj6 l0 x3_1 1 false ((rd_T43 l0 x3_1).f0.f0) ((rd_T43 l0 x3_1).f0.f1) ((rd_T43 l0 x3_1).f0.f2) ((rd_T43 l0 x3_1).f1) ((rd_T43 l0 x3_1).f2) false 0 0) = some r := by rw [if_neg (show ¬ (false = true) by decide)] at H; exact H
                        clear H
                        have H := H1
                        clear H1
                        have H' := Aside0.mk H
                        clear H
                        go_wp2
                        go_meet
                        case rel => exact ⟨_, (1), (false), (false), (0), (0), (by first | rfl | (simp; done) | (simp [*]; done)), (by first | rfl | (simp; done) | (simp [*]; done)), H', ⟨by have := HK1.out; have := HJ1.out; have := HJ6.out; first | omega | exact Nat.le_refl _⟩, ⟨by (with_reducible repeat (first | refine blk_drewN ?_ _ | refine blk_drew ?_ | refine blk_alloc ?_ _)); exact BK130.out⟩, ⟨by (with_reducible repeat (first | refine blk_drewN ?_ _ | refine blk_drew ?_ | refine blk_alloc ?_ _)); exact BK131.out⟩, ⟨by repeat (first | (with_reducible first | exact HB.out | apply below_alloc | apply pw_below_drewN | apply below_drew1 | refine below_set ?_ GE130.out | refine below_set ?_ GE131.out) | exact HB.out)⟩⟩
                    case rest =>
                      clear HC32
                      try clear c1
                      try clear p1
                      try clear q1
                      try clear hx1
                      try clear c2
                      try clear p2
                      try clear c3
                      try clear c3b0
                      try clear c4
                      try clear c5
                      try clear c5b0
                      try clear c6
                      try clear c6b0
                      try clear c12
                      try clear p12
                      try clear q12
                      try clear hx12
                      try clear c14
                      try clear c16
                      try clear c17
                      try clear c18
                      try clear c21
                      try clear c25
                      try clear c29
                      try clear c33
                      try clear c35
                      try clear hcz18_0
                      try clear hcz18_1
                      try clear hcz18_2
                      try clear hcz18_3
                      try clear hcz18_4
                      try clear hcz20_0
                      try clear hcz20_1
                      try clear hcz20_2
                      try clear hcz20_3
                      try clear hcz20_4
                      try clear hcz22_0
                      try clear hcz22_1
                      try clear hcz22_2
                      try clear hcz22_3
                      try clear hcz22_4
                      try clear hcz24_0
                      try clear hcz24_1
                      try clear hcz24_2
                      try clear hcz24_3
                      try clear hcz24_4
                      try clear hcz26_0
                      try clear hcz26_1
                      try clear hcz26_2
                      try clear hcz26_3
                      try clear hcz26_4
                      try clear hcz28_0
                      try clear hcz28_1
                      try clear hcz28_2
                      try clear hcz28_3
                      try clear hcz28_4
                      try clear hcz30_0
                      try clear hcz30_1
                      try clear hcz30_2
                      try clear hcz30_3
                      try clear hcz30_4
                      try clear hcz36_0
                      try clear hcz36_1
                      try clear hcz36_2
                      try clear hcz36_3
                      try clear hcz36_4
                      try clear hcz38_0
                      try clear hcz38_1
                      try clear hcz38_2
                      try clear hcz9_0
                      try clear hcz9_1
                      try clear hcz9_2
                      try clear hcz9_3
                      try clear hcz9_4
                      try clear hfz18_0
                      try clear hfz18_1
                      try clear hfz18_2
                      try clear hfz18_3
                      try clear hfz18_4
                      try clear hfz20_0
                      try clear hfz20_1
                      try clear hfz20_2
                      try clear hfz20_3
                      try clear hfz20_4
                      try clear hfz22_0
                      try clear hfz22_1
                      try clear hfz22_2
                      try clear hfz22_3
                      try clear hfz22_4
                      try clear hfz24_0
                      try clear hfz24_1
                      try clear hfz24_2
                      try clear hfz24_3
                      try clear hfz24_4
                      try clear hfz26_0
                      try clear hfz26_1
                      try clear hfz26_2
                      try clear hfz26_3
                      try clear hfz26_4
                      try clear hfz28_0
                      try clear hfz28_1
                      try clear hfz28_2
                      try clear hfz28_3
                      try clear hfz28_4
                      try clear hfz30_0
                      try clear hfz30_1
                      try clear hfz30_2
                      try clear hfz30_3
                      try clear hfz30_4
                      try clear hfz36_0
                      try clear hfz36_1
                      try clear hfz36_2
                      try clear hfz36_3
                      try clear hfz36_4
                      try clear hfz38_0
                      try clear hfz38_1
                      try clear hfz38_2
                      try clear hfz9_0
                      try clear hfz9_1
                      try clear hfz9_2
                      try clear hfz9_3
                      try clear hfz9_4
                      try clear hx129_0
                      try clear hx129_1
                      try clear hx129_2
                      try clear hx129_3
                      try clear hx129_4
                      try clear p1
                      try clear p12
                      try clear p129
                      try clear p2
                      try clear q1
                      try clear q12
                      try clear q129
                      obtain ⟨kq, x5_31, x7_31, x132000_31, x132001_31, x132002_31, rfl, rfl, HA, HJ31, BK130, BK131, HB⟩ := hcut
                      cases kq with
                      | zero => exact absurd HA.out (by simp [gimballaw17_StepExact.j3])
                      | succ kj31 =>
                        have H := HA.out
                        clear HA
                        simp only [gimballaw17_StepExact.j3] at H
                        replace H := Option.bind_eq_some_iff.mp H
                        obtain ⟨⟨t140, t141, t142, t143, t144⟩, A390, H⟩ := H
                        replace H : ((gimballaw17_num.f t144).bind fun t146 => (if t146 = x5_31 then (if (!(t140 == x132000_31) || (!(t141 == x132001_31) || (!(t142 == x132002_31)))) = true then (some false) else (if (t143 != x7_31) = true then (some false) else (gimballaw17_StepExact.l0 kj31 l0 (wrap64 (x3_1 + 1))))) else (some false))) = some r := H
                        have A39 := Aside0.mk A390
                        clear A390
                        replace H := Option.bind_eq_some_iff.mp H
                        obtain ⟨t146, A400, H⟩ := H
                        replace H : (if t146 = x5_31 then (if (!(t140 == x132000_31) || (!(t141 == x132001_31) || (!(t142 == x132002_31)))) = true then (some false) else (if (t143 != x7_31) = true then (some false) else (gimballaw17_StepExact.l0 kj31 l0 (wrap64 (x3_1 + 1))))) else (some false)) = some r := H
                        have A40 := Aside0.mk A400
                        clear A400
                        by_cases c41 : t146 = x5_31
                        · rw [if_pos c41] at H
                          have c41b0 : (t146 == x5_31) = true := beq_iff_eq.mpr c41
                          have c41b1 : (t146 != x5_31) = false := bne_eq_false_iff_eq.mpr c41
                          clear c41
                          by_cases c42 : (!(t140 == x132000_31) || (!(t141 == x132001_31) || (!(t142 == x132002_31)))) = true
                          · rw [if_pos c42] at H
                            have c42b0 : (!(t140 == x132000_31) || (!(t141 == x132001_31) || (!(t142 == x132002_31)))) = true := c42
                            clear c42
                            obtain rfl := Option.some.inj H
                            have hnb43 := NB130_131.out
                            have hnc43 := NB131_130.out
                            have hcz44_0 : wc.cell? ⟨gb130, 0, none⟩ = some (.bool ((rd_T43 l0 x3_1).f0.f0)) := (blk_cell BK130.out 0).trans rfl
                            have hcz44_1 : wc.cell? ⟨gb130, 1, none⟩ = some (.int .i64 ((rd_T43 l0 x3_1).f0.f1)) := (blk_cell BK130.out 1).trans rfl
                            have hcz44_2 : wc.cell? ⟨gb130, 2, none⟩ = some (.int .i64 ((rd_T43 l0 x3_1).f0.f2)) := (blk_cell BK130.out 2).trans rfl
                            have hcz44_3 : wc.cell? ⟨gb130, 3, none⟩ = some (.int .i64 ((rd_T43 l0 x3_1).f1)) := (blk_cell BK130.out 3).trans rfl
                            have hcz44_4 : wc.cell? ⟨gb130, 4, none⟩ = some (.int .i64 ((rd_T43 l0 x3_1).f2)) := (blk_cell BK130.out 4).trans rfl
                            have hfz44_0 := blk_frozen BK130.out 0
                            have hfz44_1 := blk_frozen BK130.out 1
                            have hfz44_2 := blk_frozen BK130.out 2
                            have hfz44_3 := blk_frozen BK130.out 3
                            have hfz44_4 := blk_frozen BK130.out 4
                            go_wp2_with (first | ((with_reducible refine gate_callee (f := 19) rfl ?_); refine goesL_ (some 64) rfl rfl Try.func19 (by kernel_rfl) rfl #[.agg #[.bool ((rd_T43 l0 x3_1).f0.f0), .int .i64 ((rd_T43 l0 x3_1).f0.f1), .int .i64 ((rd_T43 l0 x3_1).f0.f2)], .int .i64 ((rd_T43 l0 x3_1).f1), .int .i64 ((rd_T43 l0 x3_1).f2)] rfl (by (try simp only [List.map_toArray, List.map_cons, List.map_nil]); first | done | rfl | (simp only [List.length_drop, List.length_take]; rfl)) ?_; (with_reducible refine (step_Take.calls kj31 ((rd_T43 l0 x3_1).f0.f0) ((rd_T43 l0 x3_1).f0.f1) ((rd_T43 l0 x3_1).f0.f2) ((rd_T43 l0 x3_1).f1) ((rd_T43 l0 x3_1).f2) t140 t141 t142 t143 t144 _ A39.out).mono ?_); rintro e w45 ⟨rfl, hb⟩; refine ⟨_, rfl, ?_⟩; have n0_ := Aside0.mk (blk_below (g := gb130) (o := .cells #[.bool ((rd_T43 l0 x3_1).f0.f0), .int .i64 ((rd_T43 l0 x3_1).f0.f1), .int .i64 ((rd_T43 l0 x3_1).f0.f2), .int .i64 ((rd_T43 l0 x3_1).f1), .int .i64 ((rd_T43 l0 x3_1).f2)] 43 (0, 0)) (by (with_reducible repeat (first | refine blk_drewN ?_ _ | refine blk_drew ?_ | refine blk_alloc ?_ _)); exact BK130.out) hb); have n1_ := Aside0.mk (blk_below (g := gb131) (o := .cells #[.bool x132000_31, .int .i64 x132001_31, .int .i64 x132002_31] 41 (0, 0)) (by (with_reducible repeat (first | refine blk_drewN ?_ _ | refine blk_drew ?_ | refine blk_alloc ?_ _)); exact BK131.out) hb); have n2_ := Aside0.mk (below_step (by repeat (first | (with_reducible first | exact HB.out | apply below_alloc | apply pw_below_drewN | apply below_drew1 | refine below_set ?_ GE130.out | refine below_set ?_ GE131.out) | exact HB.out)) hb); clear BK130; clear BK131; clear HB; have BK130 := n0_; have BK131 := n1_; have HB := n2_; clear n0_ n1_ n2_; (try clear hb); (try clear hb2); (try clear hk); (try clear hi)) | ((with_reducible refine gate_dst (N := 8) rfl ?_); refine box_event ?hg (N := 8) ?hd (cs := #[.bool false, .int .i64 0, .int .i64 0]) (t := 41) ?hr ?_; (case hd => rfl); (case hg => rfl); (case hr => first | (go_simp; done) | (go_simp; rfl)); intro gb145 hg w46 hbox hb; have n0_ := Aside0.mk (blk_below (g := gb130) (o := .cells #[.bool ((rd_T43 l0 x3_1).f0.f0), .int .i64 ((rd_T43 l0 x3_1).f0.f1), .int .i64 ((rd_T43 l0 x3_1).f0.f2), .int .i64 ((rd_T43 l0 x3_1).f1), .int .i64 ((rd_T43 l0 x3_1).f2)] 43 (0, 0)) (by (with_reducible repeat (first | refine blk_drewN ?_ _ | refine blk_drew ?_ | refine blk_alloc ?_ _)); exact BK130.out) hb); have n1_ := Aside0.mk (blk_below (g := gb131) (o := .cells #[.bool x132000_31, .int .i64 x132001_31, .int .i64 x132002_31] 41 (0, 0)) (by (with_reducible repeat (first | refine blk_drewN ?_ _ | refine blk_drew ?_ | refine blk_alloc ?_ _)); exact BK131.out) hb); have n2_ := Aside0.mk (below_step (by repeat (first | (with_reducible first | exact HB.out | apply below_alloc | apply pw_below_drewN | apply below_drew1 | refine below_set ?_ GE130.out | refine below_set ?_ GE131.out) | exact HB.out)) hb); have n3_ := Aside0.mk (hbox); have n4_ := Aside0.mk ((by rw [hg]; exact (below_size (by repeat (first | (with_reducible first | exact HB.out | apply below_alloc | apply pw_below_drewN | apply below_drew1 | refine below_set ?_ GE130.out | refine below_set ?_ GE131.out) | exact HB.out))) : w.heap.size ≤ gb145)); have n5_ := Aside0.mk ((by rw [hg]; exact (below_size (by repeat (first | (with_reducible first | exact HB.out | apply below_alloc | apply pw_below_drewN | apply below_drew1 | refine below_set ?_ GE130.out | refine below_set ?_ GE131.out) | exact HB.out))) : w.heap.size ≤ gb145)); have n6_ := Aside0.mk ((by rw [hg]; exact Nat.ne_of_lt (blk_lt (g := gb130) (o := .cells #[.bool ((rd_T43 l0 x3_1).f0.f0), .int .i64 ((rd_T43 l0 x3_1).f0.f1), .int .i64 ((rd_T43 l0 x3_1).f0.f2), .int .i64 ((rd_T43 l0 x3_1).f1), .int .i64 ((rd_T43 l0 x3_1).f2)] 43 (0, 0)) (by (with_reducible repeat (first | refine blk_drewN ?_ _ | refine blk_drew ?_ | refine blk_alloc ?_ _)); exact BK130.out)) : gb130 ≠ gb145)); have n7_ := Aside0.mk ((by rw [hg]; exact Nat.ne_of_gt (blk_lt (g := gb130) (o := .cells #[.bool ((rd_T43 l0 x3_1).f0.f0), .int .i64 ((rd_T43 l0 x3_1).f0.f1), .int .i64 ((rd_T43 l0 x3_1).f0.f2), .int .i64 ((rd_T43 l0 x3_1).f1), .int .i64 ((rd_T43 l0 x3_1).f2)] 43 (0, 0)) (by (with_reducible repeat (first | refine blk_drewN ?_ _ | refine blk_drew ?_ | refine blk_alloc ?_ _)); exact BK130.out)) : gb145 ≠ gb130)); have n8_ := Aside0.mk ((by rw [hg]; exact Nat.ne_of_lt (blk_lt (g := gb131) (o := .cells #[.bool x132000_31, .int .i64 x132001_31, .int .i64 x132002_31] 41 (0, 0)) (by (with_reducible repeat (first | refine blk_drewN ?_ _ | refine blk_drew ?_ | refine blk_alloc ?_ _)); exact BK131.out)) : gb131 ≠ gb145)); have n9_ := Aside0.mk ((by rw [hg]; exact Nat.ne_of_gt (blk_lt (g := gb131) (o := .cells #[.bool x132000_31, .int .i64 x132001_31, .int .i64 x132002_31] 41 (0, 0)) (by (with_reducible repeat (first | refine blk_drewN ?_ _ | refine blk_drew ?_ | refine blk_alloc ?_ _)); exact BK131.out)) : gb145 ≠ gb131)); clear BK130; clear BK131; clear HB; have BK130 := n0_; have BK131 := n1_; have HB := n2_; have BK145 := n3_; have GW145 := n4_; have GE145 := n5_; have NB130_145 := n6_; have NB145_130 := n7_; have NB131_145 := n8_; have NB145_131 := n9_; clear n0_ n1_ n2_ n3_ n4_ n5_ n6_ n7_ n8_ n9_; clear hb hbox hg; have hnb47 := NB145_130.out; have hnc47 := NB130_145.out; have hnb48 := NB145_131.out; have hnc48 := NB131_145.out; have hcz49_0 : w46.cell? ⟨gb145, 0, none⟩ = some (.bool false) := (blk_cell BK145.out 0).trans rfl; have hcz49_1 : w46.cell? ⟨gb145, 1, none⟩ = some (.int .i64 0) := (blk_cell BK145.out 1).trans rfl; have hcz49_2 : w46.cell? ⟨gb145, 2, none⟩ = some (.int .i64 0) := (blk_cell BK145.out 2).trans rfl; have hfz49_0 := blk_frozen BK145.out 0; have hfz49_1 := blk_frozen BK145.out 1; have hfz49_2 := blk_frozen BK145.out 2) | ((with_reducible refine gate_callee (f := 20) rfl ?_); refine goesL_ (some 69) rfl rfl Try.func20 (by kernel_rfl) rfl #[.int .i64 t144] rfl (by (try simp only [List.map_toArray, List.map_cons, List.map_nil]); first | done | rfl | (simp only [List.length_drop, List.length_take]; rfl)) ?_; (with_reducible refine (gimballaw17_num.calls t144 t146 _ A40.out).mono ?_); rintro e w' ⟨rfl, ⟨nd, rfl⟩⟩; refine ⟨_, rfl, ?_⟩; have hcz50_0 : w46.cell? ⟨gb131, 0, none⟩ = some (.bool x132000_31) := (blk_cell BK131.out 0).trans rfl; have hcz50_1 : w46.cell? ⟨gb131, 1, none⟩ = some (.int .i64 x132001_31) := (blk_cell BK131.out 1).trans rfl; have hcz50_2 : w46.cell? ⟨gb131, 2, none⟩ = some (.int .i64 x132002_31) := (blk_cell BK131.out 2).trans rfl; have hfz50_0 := blk_frozen BK131.out 0; have hfz50_1 := blk_frozen BK131.out 1; have hfz50_2 := blk_frozen BK131.out 2))
                            go_ret
                            exact ⟨by first | rfl | (simp [errW_none, errW_some] <;> rfl) | (simp [*, errW_none, errW_some] <;> rfl), by repeat (first | (with_reducible first | exact HB.out | apply below_alloc | apply pw_below_drewN | apply below_drew1 | refine below_set ?_ GE130.out | refine below_set ?_ GE131.out | refine below_set ?_ GE145.out) | exact HB.out)⟩
                          · rw [if_neg c42] at H
                            have c42b0 : (!(t140 == x132000_31) || (!(t141 == x132001_31) || (!(t142 == x132002_31)))) = false := by simpa using c42
                            clear c42
                            by_cases c51 : (t143 != x7_31) = true
                            · rw [if_pos c51] at H
                              have c51b0 : (t143 != x7_31) = true := c51
                              (try (have c51b1 : decide (t143 = x7_31) = false := by simpa using c51))
                              (try (have c51b2 : (t143 == x7_31) = false := by simpa using c51))
                              (try (have c51b3 : ¬ (t143 = x7_31) := by simpa using c51))
                              clear c51
                              obtain rfl := Option.some.inj H
                              have hnb52 := NB130_131.out
                              have hnc52 := NB131_130.out
                              have hcz53_0 : wc.cell? ⟨gb130, 0, none⟩ = some (.bool ((rd_T43 l0 x3_1).f0.f0)) := (blk_cell BK130.out 0).trans rfl
                              have hcz53_1 : wc.cell? ⟨gb130, 1, none⟩ = some (.int .i64 ((rd_T43 l0 x3_1).f0.f1)) := (blk_cell BK130.out 1).trans rfl
                              have hcz53_2 : wc.cell? ⟨gb130, 2, none⟩ = some (.int .i64 ((rd_T43 l0 x3_1).f0.f2)) := (blk_cell BK130.out 2).trans rfl
                              have hcz53_3 : wc.cell? ⟨gb130, 3, none⟩ = some (.int .i64 ((rd_T43 l0 x3_1).f1)) := (blk_cell BK130.out 3).trans rfl
                              have hcz53_4 : wc.cell? ⟨gb130, 4, none⟩ = some (.int .i64 ((rd_T43 l0 x3_1).f2)) := (blk_cell BK130.out 4).trans rfl
                              have hfz53_0 := blk_frozen BK130.out 0
                              have hfz53_1 := blk_frozen BK130.out 1
                              have hfz53_2 := blk_frozen BK130.out 2
                              have hfz53_3 := blk_frozen BK130.out 3
                              have hfz53_4 := blk_frozen BK130.out 4
                              go_wp2_with (first | ((with_reducible refine gate_callee (f := 19) rfl ?_); refine goesL_ (some 64) rfl rfl Try.func19 (by kernel_rfl) rfl #[.agg #[.bool ((rd_T43 l0 x3_1).f0.f0), .int .i64 ((rd_T43 l0 x3_1).f0.f1), .int .i64 ((rd_T43 l0 x3_1).f0.f2)], .int .i64 ((rd_T43 l0 x3_1).f1), .int .i64 ((rd_T43 l0 x3_1).f2)] rfl (by (try simp only [List.map_toArray, List.map_cons, List.map_nil]); first | done | rfl | (simp only [List.length_drop, List.length_take]; rfl)) ?_; (with_reducible refine (step_Take.calls kj31 ((rd_T43 l0 x3_1).f0.f0) ((rd_T43 l0 x3_1).f0.f1) ((rd_T43 l0 x3_1).f0.f2) ((rd_T43 l0 x3_1).f1) ((rd_T43 l0 x3_1).f2) t140 t141 t142 t143 t144 _ A39.out).mono ?_); rintro e w54 ⟨rfl, hb⟩; refine ⟨_, rfl, ?_⟩; have n0_ := Aside0.mk (blk_below (g := gb130) (o := .cells #[.bool ((rd_T43 l0 x3_1).f0.f0), .int .i64 ((rd_T43 l0 x3_1).f0.f1), .int .i64 ((rd_T43 l0 x3_1).f0.f2), .int .i64 ((rd_T43 l0 x3_1).f1), .int .i64 ((rd_T43 l0 x3_1).f2)] 43 (0, 0)) (by (with_reducible repeat (first | refine blk_drewN ?_ _ | refine blk_drew ?_ | refine blk_alloc ?_ _)); exact BK130.out) hb); have n1_ := Aside0.mk (blk_below (g := gb131) (o := .cells #[.bool x132000_31, .int .i64 x132001_31, .int .i64 x132002_31] 41 (0, 0)) (by (with_reducible repeat (first | refine blk_drewN ?_ _ | refine blk_drew ?_ | refine blk_alloc ?_ _)); exact BK131.out) hb); have n2_ := Aside0.mk (below_step (by repeat (first | (with_reducible first | exact HB.out | apply below_alloc | apply pw_below_drewN | apply below_drew1 | refine below_set ?_ GE130.out | refine below_set ?_ GE131.out) | exact HB.out)) hb); clear BK130; clear BK131; clear HB; have BK130 := n0_; have BK131 := n1_; have HB := n2_; clear n0_ n1_ n2_; (try clear hb); (try clear hb2); (try clear hk); (try clear hi)) | ((with_reducible refine gate_dst (N := 8) rfl ?_); refine box_event ?hg (N := 8) ?hd (cs := #[.bool false, .int .i64 0, .int .i64 0]) (t := 41) ?hr ?_; (case hd => rfl); (case hg => rfl); (case hr => first | (go_simp; done) | (go_simp; rfl)); intro gb145 hg w55 hbox hb; have n0_ := Aside0.mk (blk_below (g := gb130) (o := .cells #[.bool ((rd_T43 l0 x3_1).f0.f0), .int .i64 ((rd_T43 l0 x3_1).f0.f1), .int .i64 ((rd_T43 l0 x3_1).f0.f2), .int .i64 ((rd_T43 l0 x3_1).f1), .int .i64 ((rd_T43 l0 x3_1).f2)] 43 (0, 0)) (by (with_reducible repeat (first | refine blk_drewN ?_ _ | refine blk_drew ?_ | refine blk_alloc ?_ _)); exact BK130.out) hb); have n1_ := Aside0.mk (blk_below (g := gb131) (o := .cells #[.bool x132000_31, .int .i64 x132001_31, .int .i64 x132002_31] 41 (0, 0)) (by (with_reducible repeat (first | refine blk_drewN ?_ _ | refine blk_drew ?_ | refine blk_alloc ?_ _)); exact BK131.out) hb); have n2_ := Aside0.mk (below_step (by repeat (first | (with_reducible first | exact HB.out | apply below_alloc | apply pw_below_drewN | apply below_drew1 | refine below_set ?_ GE130.out | refine below_set ?_ GE131.out) | exact HB.out)) hb); have n3_ := Aside0.mk (hbox); have n4_ := Aside0.mk ((by rw [hg]; exact (below_size (by repeat (first | (with_reducible first | exact HB.out | apply below_alloc | apply pw_below_drewN | apply below_drew1 | refine below_set ?_ GE130.out | refine below_set ?_ GE131.out) | exact HB.out))) : w.heap.size ≤ gb145)); have n5_ := Aside0.mk ((by rw [hg]; exact (below_size (by repeat (first | (with_reducible first | exact HB.out | apply below_alloc | apply pw_below_drewN | apply below_drew1 | refine below_set ?_ GE130.out | refine below_set ?_ GE131.out) | exact HB.out))) : w.heap.size ≤ gb145)); have n6_ := Aside0.mk ((by rw [hg]; exact Nat.ne_of_lt (blk_lt (g := gb130) (o := .cells #[.bool ((rd_T43 l0 x3_1).f0.f0), .int .i64 ((rd_T43 l0 x3_1).f0.f1), .int .i64 ((rd_T43 l0 x3_1).f0.f2), .int .i64 ((rd_T43 l0 x3_1).f1), .int .i64 ((rd_T43 l0 x3_1).f2)] 43 (0, 0)) (by (with_reducible repeat (first | refine blk_drewN ?_ _ | refine blk_drew ?_ | refine blk_alloc ?_ _)); exact BK130.out)) : gb130 ≠ gb145)); have n7_ := Aside0.mk ((by rw [hg]; exact Nat.ne_of_gt (blk_lt (g := gb130) (o := .cells #[.bool ((rd_T43 l0 x3_1).f0.f0), .int .i64 ((rd_T43 l0 x3_1).f0.f1), .int .i64 ((rd_T43 l0 x3_1).f0.f2), .int .i64 ((rd_T43 l0 x3_1).f1), .int .i64 ((rd_T43 l0 x3_1).f2)] 43 (0, 0)) (by (with_reducible repeat (first | refine blk_drewN ?_ _ | refine blk_drew ?_ | refine blk_alloc ?_ _)); exact BK130.out)) : gb145 ≠ gb130)); have n8_ := Aside0.mk ((by rw [hg]; exact Nat.ne_of_lt (blk_lt (g := gb131) (o := .cells #[.bool x132000_31, .int .i64 x132001_31, .int .i64 x132002_31] 41 (0, 0)) (by (with_reducible repeat (first | refine blk_drewN ?_ _ | refine blk_drew ?_ | refine blk_alloc ?_ _)); exact BK131.out)) : gb131 ≠ gb145)); have n9_ := Aside0.mk ((by rw [hg]; exact Nat.ne_of_gt (blk_lt (g := gb131) (o := .cells #[.bool x132000_31, .int .i64 x132001_31, .int .i64 x132002_31] 41 (0, 0)) (by (with_reducible repeat (first | refine blk_drewN ?_ _ | refine blk_drew ?_ | refine blk_alloc ?_ _)); exact BK131.out)) : gb145 ≠ gb131)); clear BK130; clear BK131; clear HB; have BK130 := n0_; have BK131 := n1_; have HB := n2_; have BK145 := n3_; have GW145 := n4_; have GE145 := n5_; have NB130_145 := n6_; have NB145_130 := n7_; have NB131_145 := n8_; have NB145_131 := n9_; clear n0_ n1_ n2_ n3_ n4_ n5_ n6_ n7_ n8_ n9_; clear hb hbox hg; have hnb56 := NB145_130.out; have hnc56 := NB130_145.out; have hnb57 := NB145_131.out; have hnc57 := NB131_145.out; have hcz58_0 : w55.cell? ⟨gb145, 0, none⟩ = some (.bool false) := (blk_cell BK145.out 0).trans rfl; have hcz58_1 : w55.cell? ⟨gb145, 1, none⟩ = some (.int .i64 0) := (blk_cell BK145.out 1).trans rfl; have hcz58_2 : w55.cell? ⟨gb145, 2, none⟩ = some (.int .i64 0) := (blk_cell BK145.out 2).trans rfl; have hfz58_0 := blk_frozen BK145.out 0; have hfz58_1 := blk_frozen BK145.out 1; have hfz58_2 := blk_frozen BK145.out 2) | ((with_reducible refine gate_callee (f := 20) rfl ?_); refine goesL_ (some 69) rfl rfl Try.func20 (by kernel_rfl) rfl #[.int .i64 t144] rfl (by (try simp only [List.map_toArray, List.map_cons, List.map_nil]); first | done | rfl | (simp only [List.length_drop, List.length_take]; rfl)) ?_; (with_reducible refine (gimballaw17_num.calls t144 t146 _ A40.out).mono ?_); rintro e w' ⟨rfl, ⟨nd, rfl⟩⟩; refine ⟨_, rfl, ?_⟩; have hcz59_0 : w55.cell? ⟨gb131, 0, none⟩ = some (.bool x132000_31) := (blk_cell BK131.out 0).trans rfl; have hcz59_1 : w55.cell? ⟨gb131, 1, none⟩ = some (.int .i64 x132001_31) := (blk_cell BK131.out 1).trans rfl; have hcz59_2 : w55.cell? ⟨gb131, 2, none⟩ = some (.int .i64 x132002_31) := (blk_cell BK131.out 2).trans rfl; have hfz59_0 := blk_frozen BK131.out 0; have hfz59_1 := blk_frozen BK131.out 1; have hfz59_2 := blk_frozen BK131.out 2))
                              go_ret
                              exact ⟨by first | rfl | (simp [errW_none, errW_some] <;> rfl) | (simp [*, errW_none, errW_some] <;> rfl), by repeat (first | (with_reducible first | exact HB.out | apply below_alloc | apply pw_below_drewN | apply below_drew1 | refine below_set ?_ GE130.out | refine below_set ?_ GE131.out | refine below_set ?_ GE145.out) | exact HB.out)⟩
                            · rw [if_neg c51] at H
                              have c51b0 : (t143 != x7_31) = false := by simpa using c51
                              (try (have c51b1 : decide (t143 = x7_31) = true := by simpa using c51))
                              (try (have c51b2 : (t143 == x7_31) = true := by simpa using c51))
                              clear c51
                              have H' := Aside0.mk H
                              clear H
                              have hnb60 := NB130_131.out
                              have hnc60 := NB131_130.out
                              have hcz61_0 : wc.cell? ⟨gb130, 0, none⟩ = some (.bool ((rd_T43 l0 x3_1).f0.f0)) := (blk_cell BK130.out 0).trans rfl
                              have hcz61_1 : wc.cell? ⟨gb130, 1, none⟩ = some (.int .i64 ((rd_T43 l0 x3_1).f0.f1)) := (blk_cell BK130.out 1).trans rfl
                              have hcz61_2 : wc.cell? ⟨gb130, 2, none⟩ = some (.int .i64 ((rd_T43 l0 x3_1).f0.f2)) := (blk_cell BK130.out 2).trans rfl
                              have hcz61_3 : wc.cell? ⟨gb130, 3, none⟩ = some (.int .i64 ((rd_T43 l0 x3_1).f1)) := (blk_cell BK130.out 3).trans rfl
                              have hcz61_4 : wc.cell? ⟨gb130, 4, none⟩ = some (.int .i64 ((rd_T43 l0 x3_1).f2)) := (blk_cell BK130.out 4).trans rfl
                              have hfz61_0 := blk_frozen BK130.out 0
                              have hfz61_1 := blk_frozen BK130.out 1
                              have hfz61_2 := blk_frozen BK130.out 2
                              have hfz61_3 := blk_frozen BK130.out 3
                              have hfz61_4 := blk_frozen BK130.out 4
                              go_wp2_with (first | ((with_reducible refine gate_callee (f := 19) rfl ?_); refine goesL_ (some 64) rfl rfl Try.func19 (by kernel_rfl) rfl #[.agg #[.bool ((rd_T43 l0 x3_1).f0.f0), .int .i64 ((rd_T43 l0 x3_1).f0.f1), .int .i64 ((rd_T43 l0 x3_1).f0.f2)], .int .i64 ((rd_T43 l0 x3_1).f1), .int .i64 ((rd_T43 l0 x3_1).f2)] rfl (by (try simp only [List.map_toArray, List.map_cons, List.map_nil]); first | done | rfl | (simp only [List.length_drop, List.length_take]; rfl)) ?_; (with_reducible refine (step_Take.calls kj31 ((rd_T43 l0 x3_1).f0.f0) ((rd_T43 l0 x3_1).f0.f1) ((rd_T43 l0 x3_1).f0.f2) ((rd_T43 l0 x3_1).f1) ((rd_T43 l0 x3_1).f2) t140 t141 t142 t143 t144 _ A39.out).mono ?_); rintro e w62 ⟨rfl, hb⟩; refine ⟨_, rfl, ?_⟩; have n0_ := Aside0.mk (blk_below (g := gb130) (o := .cells #[.bool ((rd_T43 l0 x3_1).f0.f0), .int .i64 ((rd_T43 l0 x3_1).f0.f1), .int .i64 ((rd_T43 l0 x3_1).f0.f2), .int .i64 ((rd_T43 l0 x3_1).f1), .int .i64 ((rd_T43 l0 x3_1).f2)] 43 (0, 0)) (by (with_reducible repeat (first | refine blk_drewN ?_ _ | refine blk_drew ?_ | refine blk_alloc ?_ _)); exact BK130.out) hb); have n1_ := Aside0.mk (blk_below (g := gb131) (o := .cells #[.bool x132000_31, .int .i64 x132001_31, .int .i64 x132002_31] 41 (0, 0)) (by (with_reducible repeat (first | refine blk_drewN ?_ _ | refine blk_drew ?_ | refine blk_alloc ?_ _)); exact BK131.out) hb); have n2_ := Aside0.mk (below_step (by repeat (first | (with_reducible first | exact HB.out | apply below_alloc | apply pw_below_drewN | apply below_drew1 | refine below_set ?_ GE130.out | refine below_set ?_ GE131.out) | exact HB.out)) hb); clear BK130; clear BK131; clear HB; have BK130 := n0_; have BK131 := n1_; have HB := n2_; clear n0_ n1_ n2_; (try clear hb); (try clear hb2); (try clear hk); (try clear hi)) | ((with_reducible refine gate_dst (N := 8) rfl ?_); refine box_event ?hg (N := 8) ?hd (cs := #[.bool false, .int .i64 0, .int .i64 0]) (t := 41) ?hr ?_; (case hd => rfl); (case hg => rfl); (case hr => first | (go_simp; done) | (go_simp; rfl)); intro gb145 hg w63 hbox hb; have n0_ := Aside0.mk (blk_below (g := gb130) (o := .cells #[.bool ((rd_T43 l0 x3_1).f0.f0), .int .i64 ((rd_T43 l0 x3_1).f0.f1), .int .i64 ((rd_T43 l0 x3_1).f0.f2), .int .i64 ((rd_T43 l0 x3_1).f1), .int .i64 ((rd_T43 l0 x3_1).f2)] 43 (0, 0)) (by (with_reducible repeat (first | refine blk_drewN ?_ _ | refine blk_drew ?_ | refine blk_alloc ?_ _)); exact BK130.out) hb); have n1_ := Aside0.mk (blk_below (g := gb131) (o := .cells #[.bool x132000_31, .int .i64 x132001_31, .int .i64 x132002_31] 41 (0, 0)) (by (with_reducible repeat (first | refine blk_drewN ?_ _ | refine blk_drew ?_ | refine blk_alloc ?_ _)); exact BK131.out) hb); have n2_ := Aside0.mk (below_step (by repeat (first | (with_reducible first | exact HB.out | apply below_alloc | apply pw_below_drewN | apply below_drew1 | refine below_set ?_ GE130.out | refine below_set ?_ GE131.out) | exact HB.out)) hb); have n3_ := Aside0.mk (hbox); have n4_ := Aside0.mk ((by rw [hg]; exact (below_size (by repeat (first | (with_reducible first | exact HB.out | apply below_alloc | apply pw_below_drewN | apply below_drew1 | refine below_set ?_ GE130.out | refine below_set ?_ GE131.out) | exact HB.out))) : w.heap.size ≤ gb145)); have n5_ := Aside0.mk ((by rw [hg]; exact (below_size (by repeat (first | (with_reducible first | exact HB.out | apply below_alloc | apply pw_below_drewN | apply below_drew1 | refine below_set ?_ GE130.out | refine below_set ?_ GE131.out) | exact HB.out))) : w.heap.size ≤ gb145)); have n6_ := Aside0.mk ((by rw [hg]; exact Nat.ne_of_lt (blk_lt (g := gb130) (o := .cells #[.bool ((rd_T43 l0 x3_1).f0.f0), .int .i64 ((rd_T43 l0 x3_1).f0.f1), .int .i64 ((rd_T43 l0 x3_1).f0.f2), .int .i64 ((rd_T43 l0 x3_1).f1), .int .i64 ((rd_T43 l0 x3_1).f2)] 43 (0, 0)) (by (with_reducible repeat (first | refine blk_drewN ?_ _ | refine blk_drew ?_ | refine blk_alloc ?_ _)); exact BK130.out)) : gb130 ≠ gb145)); have n7_ := Aside0.mk ((by rw [hg]; exact Nat.ne_of_gt (blk_lt (g := gb130) (o := .cells #[.bool ((rd_T43 l0 x3_1).f0.f0), .int .i64 ((rd_T43 l0 x3_1).f0.f1), .int .i64 ((rd_T43 l0 x3_1).f0.f2), .int .i64 ((rd_T43 l0 x3_1).f1), .int .i64 ((rd_T43 l0 x3_1).f2)] 43 (0, 0)) (by (with_reducible repeat (first | refine blk_drewN ?_ _ | refine blk_drew ?_ | refine blk_alloc ?_ _)); exact BK130.out)) : gb145 ≠ gb130)); have n8_ := Aside0.mk ((by rw [hg]; exact Nat.ne_of_lt (blk_lt (g := gb131) (o := .cells #[.bool x132000_31, .int .i64 x132001_31, .int .i64 x132002_31] 41 (0, 0)) (by (with_reducible repeat (first | refine blk_drewN ?_ _ | refine blk_drew ?_ | refine blk_alloc ?_ _)); exact BK131.out)) : gb131 ≠ gb145)); have n9_ := Aside0.mk ((by rw [hg]; exact Nat.ne_of_gt (blk_lt (g := gb131) (o := .cells #[.bool x132000_31, .int .i64 x132001_31, .int .i64 x132002_31] 41 (0, 0)) (by (with_reducible repeat (first | refine blk_drewN ?_ _ | refine blk_drew ?_ | refine blk_alloc ?_ _)); exact BK131.out)) : gb145 ≠ gb131)); clear BK130; clear BK131; clear HB; have BK130 := n0_; have BK131 := n1_; have HB := n2_; have BK145 := n3_; have GW145 := n4_; have GE145 := n5_; have NB130_145 := n6_; have NB145_130 := n7_; have NB131_145 := n8_; have NB145_131 := n9_; clear n0_ n1_ n2_ n3_ n4_ n5_ n6_ n7_ n8_ n9_; clear hb hbox hg; have hnb64 := NB145_130.out; have hnc64 := NB130_145.out; have hnb65 := NB145_131.out; have hnc65 := NB131_145.out; have hcz66_0 : w63.cell? ⟨gb145, 0, none⟩ = some (.bool false) := (blk_cell BK145.out 0).trans rfl; have hcz66_1 : w63.cell? ⟨gb145, 1, none⟩ = some (.int .i64 0) := (blk_cell BK145.out 1).trans rfl; have hcz66_2 : w63.cell? ⟨gb145, 2, none⟩ = some (.int .i64 0) := (blk_cell BK145.out 2).trans rfl; have hfz66_0 := blk_frozen BK145.out 0; have hfz66_1 := blk_frozen BK145.out 1; have hfz66_2 := blk_frozen BK145.out 2) | ((with_reducible refine gate_callee (f := 20) rfl ?_); refine goesL_ (some 69) rfl rfl Try.func20 (by kernel_rfl) rfl #[.int .i64 t144] rfl (by (try simp only [List.map_toArray, List.map_cons, List.map_nil]); first | done | rfl | (simp only [List.length_drop, List.length_take]; rfl)) ?_; (with_reducible refine (gimballaw17_num.calls t144 t146 _ A40.out).mono ?_); rintro e w' ⟨rfl, ⟨nd, rfl⟩⟩; refine ⟨_, rfl, ?_⟩; have hcz67_0 : w63.cell? ⟨gb131, 0, none⟩ = some (.bool x132000_31) := (blk_cell BK131.out 0).trans rfl; have hcz67_1 : w63.cell? ⟨gb131, 1, none⟩ = some (.int .i64 x132001_31) := (blk_cell BK131.out 1).trans rfl; have hcz67_2 : w63.cell? ⟨gb131, 2, none⟩ = some (.int .i64 x132002_31) := (blk_cell BK131.out 2).trans rfl; have hfz67_0 := blk_frozen BK131.out 0; have hfz67_1 := blk_frozen BK131.out 1; have hfz67_2 := blk_frozen BK131.out 2))
                              go_roundg kj31
                              case measure => have := HK1.out; have := HJ1.out; have := HJ6.out; have := HJ31.out; omega
                              case rel => exact ⟨(wrap64 (x3_1 + 1)), (by first | rfl | (simp; done) | (simp [*]; done)), H', ⟨by have := HK1.out; have := HJ1.out; have := HJ6.out; have := HJ31.out; omega⟩, ⟨by repeat (first | (with_reducible first | exact HB.out | apply below_alloc | apply pw_below_drewN | apply below_drew1 | refine below_set ?_ GE130.out | refine below_set ?_ GE131.out | refine below_set ?_ GE145.out) | exact HB.out)⟩⟩
                        · rw [if_neg c41] at H
                          have c41b0 : (t146 == x5_31) = false := beq_eq_false_iff_ne.mpr c41
                          have c41b1 : (t146 != x5_31) = true := bne_iff_ne.mpr c41
                          obtain rfl := Option.some.inj H
                          have hnb68 := NB130_131.out
                          have hnc68 := NB131_130.out
                          have hcz69_0 : wc.cell? ⟨gb130, 0, none⟩ = some (.bool ((rd_T43 l0 x3_1).f0.f0)) := (blk_cell BK130.out 0).trans rfl
                          have hcz69_1 : wc.cell? ⟨gb130, 1, none⟩ = some (.int .i64 ((rd_T43 l0 x3_1).f0.f1)) := (blk_cell BK130.out 1).trans rfl
                          have hcz69_2 : wc.cell? ⟨gb130, 2, none⟩ = some (.int .i64 ((rd_T43 l0 x3_1).f0.f2)) := (blk_cell BK130.out 2).trans rfl
                          have hcz69_3 : wc.cell? ⟨gb130, 3, none⟩ = some (.int .i64 ((rd_T43 l0 x3_1).f1)) := (blk_cell BK130.out 3).trans rfl
                          have hcz69_4 : wc.cell? ⟨gb130, 4, none⟩ = some (.int .i64 ((rd_T43 l0 x3_1).f2)) := (blk_cell BK130.out 4).trans rfl
                          have hfz69_0 := blk_frozen BK130.out 0
                          have hfz69_1 := blk_frozen BK130.out 1
                          have hfz69_2 := blk_frozen BK130.out 2
                          have hfz69_3 := blk_frozen BK130.out 3
                          have hfz69_4 := blk_frozen BK130.out 4
                          go_wp2_with (first | ((with_reducible refine gate_callee (f := 19) rfl ?_); refine goesL_ (some 64) rfl rfl Try.func19 (by kernel_rfl) rfl #[.agg #[.bool ((rd_T43 l0 x3_1).f0.f0), .int .i64 ((rd_T43 l0 x3_1).f0.f1), .int .i64 ((rd_T43 l0 x3_1).f0.f2)], .int .i64 ((rd_T43 l0 x3_1).f1), .int .i64 ((rd_T43 l0 x3_1).f2)] rfl (by (try simp only [List.map_toArray, List.map_cons, List.map_nil]); first | done | rfl | (simp only [List.length_drop, List.length_take]; rfl)) ?_; (with_reducible refine (step_Take.calls kj31 ((rd_T43 l0 x3_1).f0.f0) ((rd_T43 l0 x3_1).f0.f1) ((rd_T43 l0 x3_1).f0.f2) ((rd_T43 l0 x3_1).f1) ((rd_T43 l0 x3_1).f2) t140 t141 t142 t143 t144 _ A39.out).mono ?_); rintro e w70 ⟨rfl, hb⟩; refine ⟨_, rfl, ?_⟩; have n0_ := Aside0.mk (blk_below (g := gb130) (o := .cells #[.bool ((rd_T43 l0 x3_1).f0.f0), .int .i64 ((rd_T43 l0 x3_1).f0.f1), .int .i64 ((rd_T43 l0 x3_1).f0.f2), .int .i64 ((rd_T43 l0 x3_1).f1), .int .i64 ((rd_T43 l0 x3_1).f2)] 43 (0, 0)) (by (with_reducible repeat (first | refine blk_drewN ?_ _ | refine blk_drew ?_ | refine blk_alloc ?_ _)); exact BK130.out) hb); have n1_ := Aside0.mk (blk_below (g := gb131) (o := .cells #[.bool x132000_31, .int .i64 x132001_31, .int .i64 x132002_31] 41 (0, 0)) (by (with_reducible repeat (first | refine blk_drewN ?_ _ | refine blk_drew ?_ | refine blk_alloc ?_ _)); exact BK131.out) hb); have n2_ := Aside0.mk (below_step (by repeat (first | (with_reducible first | exact HB.out | apply below_alloc | apply pw_below_drewN | apply below_drew1 | refine below_set ?_ GE130.out | refine below_set ?_ GE131.out) | exact HB.out)) hb); clear BK130; clear BK131; clear HB; have BK130 := n0_; have BK131 := n1_; have HB := n2_; clear n0_ n1_ n2_; (try clear hb); (try clear hb2); (try clear hk); (try clear hi)) | ((with_reducible refine gate_dst (N := 8) rfl ?_); refine box_event ?hg (N := 8) ?hd (cs := #[.bool false, .int .i64 0, .int .i64 0]) (t := 41) ?hr ?_; (case hd => rfl); (case hg => rfl); (case hr => first | (go_simp; done) | (go_simp; rfl)); intro gb145 hg w71 hbox hb; have n0_ := Aside0.mk (blk_below (g := gb130) (o := .cells #[.bool ((rd_T43 l0 x3_1).f0.f0), .int .i64 ((rd_T43 l0 x3_1).f0.f1), .int .i64 ((rd_T43 l0 x3_1).f0.f2), .int .i64 ((rd_T43 l0 x3_1).f1), .int .i64 ((rd_T43 l0 x3_1).f2)] 43 (0, 0)) (by (with_reducible repeat (first | refine blk_drewN ?_ _ | refine blk_drew ?_ | refine blk_alloc ?_ _)); exact BK130.out) hb); have n1_ := Aside0.mk (blk_below (g := gb131) (o := .cells #[.bool x132000_31, .int .i64 x132001_31, .int .i64 x132002_31] 41 (0, 0)) (by (with_reducible repeat (first | refine blk_drewN ?_ _ | refine blk_drew ?_ | refine blk_alloc ?_ _)); exact BK131.out) hb); have n2_ := Aside0.mk (below_step (by repeat (first | (with_reducible first | exact HB.out | apply below_alloc | apply pw_below_drewN | apply below_drew1 | refine below_set ?_ GE130.out | refine below_set ?_ GE131.out) | exact HB.out)) hb); have n3_ := Aside0.mk (hbox); have n4_ := Aside0.mk ((by rw [hg]; exact (below_size (by repeat (first | (with_reducible first | exact HB.out | apply below_alloc | apply pw_below_drewN | apply below_drew1 | refine below_set ?_ GE130.out | refine below_set ?_ GE131.out) | exact HB.out))) : w.heap.size ≤ gb145)); have n5_ := Aside0.mk ((by rw [hg]; exact (below_size (by repeat (first | (with_reducible first | exact HB.out | apply below_alloc | apply pw_below_drewN | apply below_drew1 | refine below_set ?_ GE130.out | refine below_set ?_ GE131.out) | exact HB.out))) : w.heap.size ≤ gb145)); have n6_ := Aside0.mk ((by rw [hg]; exact Nat.ne_of_lt (blk_lt (g := gb130) (o := .cells #[.bool ((rd_T43 l0 x3_1).f0.f0), .int .i64 ((rd_T43 l0 x3_1).f0.f1), .int .i64 ((rd_T43 l0 x3_1).f0.f2), .int .i64 ((rd_T43 l0 x3_1).f1), .int .i64 ((rd_T43 l0 x3_1).f2)] 43 (0, 0)) (by (with_reducible repeat (first | refine blk_drewN ?_ _ | refine blk_drew ?_ | refine blk_alloc ?_ _)); exact BK130.out)) : gb130 ≠ gb145)); have n7_ := Aside0.mk ((by rw [hg]; exact Nat.ne_of_gt (blk_lt (g := gb130) (o := .cells #[.bool ((rd_T43 l0 x3_1).f0.f0), .int .i64 ((rd_T43 l0 x3_1).f0.f1), .int .i64 ((rd_T43 l0 x3_1).f0.f2), .int .i64 ((rd_T43 l0 x3_1).f1), .int .i64 ((rd_T43 l0 x3_1).f2)] 43 (0, 0)) (by (with_reducible repeat (first | refine blk_drewN ?_ _ | refine blk_drew ?_ | refine blk_alloc ?_ _)); exact BK130.out)) : gb145 ≠ gb130)); have n8_ := Aside0.mk ((by rw [hg]; exact Nat.ne_of_lt (blk_lt (g := gb131) (o := .cells #[.bool x132000_31, .int .i64 x132001_31, .int .i64 x132002_31] 41 (0, 0)) (by (with_reducible repeat (first | refine blk_drewN ?_ _ | refine blk_drew ?_ | refine blk_alloc ?_ _)); exact BK131.out)) : gb131 ≠ gb145)); have n9_ := Aside0.mk ((by rw [hg]; exact Nat.ne_of_gt (blk_lt (g := gb131) (o := .cells #[.bool x132000_31, .int .i64 x132001_31, .int .i64 x132002_31] 41 (0, 0)) (by (with_reducible repeat (first | refine blk_drewN ?_ _ | refine blk_drew ?_ | refine blk_alloc ?_ _)); exact BK131.out)) : gb145 ≠ gb131)); clear BK130; clear BK131; clear HB; have BK130 := n0_; have BK131 := n1_; have HB := n2_; have BK145 := n3_; have GW145 := n4_; have GE145 := n5_; have NB130_145 := n6_; have NB145_130 := n7_; have NB131_145 := n8_; have NB145_131 := n9_; clear n0_ n1_ n2_ n3_ n4_ n5_ n6_ n7_ n8_ n9_; clear hb hbox hg; have hnb72 := NB145_130.out; have hnc72 := NB130_145.out; have hnb73 := NB145_131.out; have hnc73 := NB131_145.out; have hcz74_0 : w71.cell? ⟨gb145, 0, none⟩ = some (.bool false) := (blk_cell BK145.out 0).trans rfl; have hcz74_1 : w71.cell? ⟨gb145, 1, none⟩ = some (.int .i64 0) := (blk_cell BK145.out 1).trans rfl; have hcz74_2 : w71.cell? ⟨gb145, 2, none⟩ = some (.int .i64 0) := (blk_cell BK145.out 2).trans rfl; have hfz74_0 := blk_frozen BK145.out 0; have hfz74_1 := blk_frozen BK145.out 1; have hfz74_2 := blk_frozen BK145.out 2) | ((with_reducible refine gate_callee (f := 20) rfl ?_); refine goesL_ (some 69) rfl rfl Try.func20 (by kernel_rfl) rfl #[.int .i64 t144] rfl (by (try simp only [List.map_toArray, List.map_cons, List.map_nil]); first | done | rfl | (simp only [List.length_drop, List.length_take]; rfl)) ?_; (with_reducible refine (gimballaw17_num.calls t144 t146 _ A40.out).mono ?_); rintro e w' ⟨rfl, ⟨nd, rfl⟩⟩; refine ⟨_, rfl, ?_⟩))
                          go_ret
                          exact ⟨by first | rfl | (simp [errW_none, errW_some] <;> rfl) | (simp [*, errW_none, errW_some] <;> rfl), by repeat (first | (with_reducible first | exact HB.out | apply below_alloc | apply pw_below_drewN | apply below_drew1 | refine below_set ?_ GE130.out | refine below_set ?_ GE131.out | refine below_set ?_ GE145.out) | exact HB.out)⟩
              · rw [if_neg c6] at H
                exact absurd H (by simp)
            · rw [if_neg c5] at H
              exact absurd H (by simp)
          · replace c4 := Bool.eq_false_iff.mpr c4
            subst c4
            have H1 : ((gimballaw17_wakes.f kj1).bind fun t128 => (some t128)) = some r := by rw [if_neg (show ¬ (false = true) by decide)] at H; exact H
            clear H
            have H := H1
            clear H1
            replace H := Option.bind_eq_some_iff.mp H
            obtain ⟨t128, A750, H⟩ := H
            replace H : (some t128) = some r := H
            have A75 := Aside0.mk A750
            clear A750
            obtain rfl := Option.some.inj H
            go_wp2_with (first | ((with_reducible refine gate_callee (f := 21) rfl ?_); refine goesL_ (some 82) rfl rfl Try.func21 (by kernel_rfl) rfl #[] rfl (by (try simp only [List.map_toArray, List.map_cons, List.map_nil]); first | done | rfl | (simp only [List.length_drop, List.length_take]; rfl)) ?_; (with_reducible refine (gimballaw17_wakes.calls kj1  t128 _ A75.out).mono ?_); rintro e w76 ⟨rfl, hb⟩; refine ⟨_, rfl, ?_⟩; have n0_ := Aside0.mk (below_step (by repeat (first | (with_reducible first | exact HB.out | apply below_alloc | apply pw_below_drewN | apply below_drew1) | exact HB.out)) hb); clear HB; have HB := n0_; clear n0_; (try clear hb); (try clear hb2); (try clear hk); (try clear hi)))
            go_ret
            exact ⟨by first | rfl | (simp [errW_none, errW_some] <;> rfl) | (simp [*, errW_none, errW_some] <;> rfl), by repeat (first | (with_reducible first | exact HB.out | apply below_alloc | apply pw_below_drewN | apply below_drew1) | exact HB.out)⟩

end Go.Proofs.Ytibdokjghhegfaa.PStepExact
