-- PRINTED BY print.sh 35421559b90ae4d0a3588c463048766b98c2df88dd9212a6774a882060cdf62d: not written by this session
import Derived.Test.YtibdokjghhegfaaPFallOncex0
import Derived.Test.YtibdokjghhegfaaPFallOncex1
import Derived.Test.YtibdokjghhegfaaPFallOncex3
namespace Go.Proofs.Ytibdokjghhegfaa.PFallOnce
open Go.RowKit Go.Proofs.YtibdokjghhegfaaW.PrintWords Go.Proofs.YtibdokjghhegfaaW.PrintLast Go.Proofs.YtibdokjghhegfaaW.PrintMore
attribute [local go_sem] max2_int min2_int max_two min_two max_three min_three max_four min_four   -- for this text's walks alone
set_option linter.unusedVariables false
set_option linter.unusedSimpArgs false

attribute [local go_sem high] eqA24
/-! ### gimballaw20_num: function 14 -/
def gimballaw20_num.f (a0 : Int) : Option (Int) := some a0
set_option maxHeartbeats 8000000 in
set_option maxRecDepth 100000 in
theorem gimballaw20_num.calls (a0 : Int) (r : Int) (w : World) (h : gimballaw20_num.f a0 = some r) :
    Calls Try.prog 14 #[.int .i64 a0] w fun e w' => e = .returned (.int .i64 r) ∧ Drawn0 w w' := by
  have H : (some a0) = some r := h
  clear h
  obtain rfl := Option.some.inj H
  go_enter Try.func14, Try.ntmps14
  go_wp2
  go_ret
  exact ⟨by first | rfl | (simp; done) | (simp [*]; done), by repeat (first | exact Drawn0.refl _ | apply Drawn0.step)⟩

/-! ### gimballaw20_wakes: function 15 -/
def gimballaw20_wakes.f (k : Nat)  : Option (Bool) := (fall_Take.f k false false 0 0 3).bind fun bt110 => ((gimballaw20_num.f bt110.2.2.2.2).bind fun t116 => (if t116 = 0 then (if bt110.2.2.2.1 = true then (some false) else (some (bt110.1 && (!bt110.2.1 && (bt110.2.2.1 == 3))))) else (some false)))
theorem gimballaw20_wakes.mono : ∀ k, LeO (gimballaw20_wakes.f k ) (gimballaw20_wakes.f (k + 1) ) := by
  intro  k
  unfold gimballaw20_wakes.f
  repeat' first
      | (with_reducible exact fall_Take.mono _ _ _ _ _ _)
      | (with_reducible exact LeO.refl _)
      | (with_reducible exact LeO.none _)
      | (with_reducible refine LeO.ite ?_ ?_)
      | (with_reducible refine LeO.bind ?_ (fun _ => ?_))
      | exact fall_Take.mono _ _ _ _ _ _
      | exact LeO.none _
      | refine LeO.ite ?_ ?_
      | refine LeO.bind ?_ (fun _ => ?_)
set_option maxHeartbeats 8000000 in
set_option maxRecDepth 100000 in
theorem gimballaw20_wakes.calls (k : Nat)  (r : Bool) (w : World) (h : gimballaw20_wakes.f k  = some r) :
    Calls Try.prog 15 #[] w fun e w' => e = .returned (.bool r) ∧ Below w.heap.size w w' := by
  have hu24 := Try.underlying24
  have HB := Aside0.mk (Below.refl w.heap.size w)
  have H : ((fall_Take.f k false false 0 0 3).bind fun bt110 => ((gimballaw20_num.f bt110.2.2.2.2).bind fun t116 => (if t116 = 0 then (if bt110.2.2.2.1 = true then (some false) else (some (bt110.1 && (!bt110.2.1 && (bt110.2.2.1 == 3))))) else (some false)))) = some r := h
  clear h
  replace H := Option.bind_eq_some_iff.mp H
  obtain ⟨⟨t110, t111, t112, t113, t114⟩, A10, H⟩ := H
  replace H : ((gimballaw20_num.f t114).bind fun t116 => (if t116 = 0 then (if t113 = true then (some false) else (some (t110 && (!t111 && (t112 == 3))))) else (some false))) = some r := H
  have A1 := Aside0.mk A10
  clear A10
  replace H := Option.bind_eq_some_iff.mp H
  obtain ⟨t116, A20, H⟩ := H
  replace H : (if t116 = 0 then (if t113 = true then (some false) else (some (t110 && (!t111 && (t112 == 3))))) else (some false)) = some r := H
  have A2 := Aside0.mk A20
  clear A20
  by_cases c3 : t116 = 0
  · rw [if_pos c3] at H
    have c3b0 : (t116 == 0) = true := beq_iff_eq.mpr c3
    have c3b1 : (t116 != 0) = false := bne_eq_false_iff_eq.mpr c3
    clear c3
    by_cases c4 : t113 = true
    · subst c4
      have H1 : (some false) = some r := by rw [if_pos rfl] at H; exact H
      clear H
      have H := H1
      clear H1
      obtain rfl := Option.some.inj H
      go_enter Try.func15, Try.ntmps15
      go_wp2_with (first | ((with_reducible refine gate_callee (f := 13) rfl ?_); refine goesL_ (some 6) rfl rfl Try.func13 (by kernel_rfl) rfl #[.agg #[.bool false, .bool false, .int .i64 0], .int .i64 0, .int .i64 3] rfl (by (try simp only [List.map_toArray, List.map_cons, List.map_nil]); first | done | rfl | (simp only [List.length_drop, List.length_take]; rfl)) ?_; (with_reducible refine (fall_Take.calls k false false 0 0 3 t110 t111 t112 true t114 _ A1.out).mono ?_); rintro e w5 ⟨rfl, hb⟩; refine ⟨_, rfl, ?_⟩; have n0_ := Aside0.mk (below_step (by repeat (first | (with_reducible first | exact HB.out | apply below_alloc | apply pw_below_drewN | apply below_drew1) | exact HB.out)) hb); clear HB; have HB := n0_; clear n0_; (try clear hb); (try clear hb2); (try clear hk); (try clear hi)) | ((with_reducible refine gate_dst (N := 1) rfl ?_); refine box_event ?hg (N := 1) ?hd (cs := #[.bool false, .bool false, .int .i64 0]) (t := 24) ?hr ?_; (case hd => rfl); (case hg => rfl); (case hr => first | (go_simp; done) | (go_simp; rfl)); intro gb115 hg w6 hbox hb; have n0_ := Aside0.mk (below_step (by repeat (first | (with_reducible first | exact HB.out | apply below_alloc | apply pw_below_drewN | apply below_drew1) | exact HB.out)) hb); have n1_ := Aside0.mk (hbox); have n2_ := Aside0.mk ((by rw [hg]; exact (below_size (by repeat (first | (with_reducible first | exact HB.out | apply below_alloc | apply pw_below_drewN | apply below_drew1) | exact HB.out))) : w.heap.size ≤ gb115)); have n3_ := Aside0.mk ((by rw [hg]; exact (below_size (by repeat (first | (with_reducible first | exact HB.out | apply below_alloc | apply pw_below_drewN | apply below_drew1) | exact HB.out))) : w.heap.size ≤ gb115)); clear HB; have HB := n0_; have BK115 := n1_; have GW115 := n2_; have GE115 := n3_; clear n0_ n1_ n2_ n3_; clear hb hbox hg; have hcz7_0 : w6.cell? ⟨gb115, 0, none⟩ = some (.bool false) := (blk_cell BK115.out 0).trans rfl; have hcz7_1 : w6.cell? ⟨gb115, 1, none⟩ = some (.bool false) := (blk_cell BK115.out 1).trans rfl; have hcz7_2 : w6.cell? ⟨gb115, 2, none⟩ = some (.int .i64 0) := (blk_cell BK115.out 2).trans rfl; have hfz7_0 := blk_frozen BK115.out 0; have hfz7_1 := blk_frozen BK115.out 1; have hfz7_2 := blk_frozen BK115.out 2) | ((with_reducible refine gate_callee (f := 14) rfl ?_); refine goesL_ (some 11) rfl rfl Try.func14 (by kernel_rfl) rfl #[.int .i64 t114] rfl (by (try simp only [List.map_toArray, List.map_cons, List.map_nil]); first | done | rfl | (simp only [List.length_drop, List.length_take]; rfl)) ?_; (with_reducible refine (gimballaw20_num.calls t114 t116 _ A2.out).mono ?_); rintro e w' ⟨rfl, ⟨nd, rfl⟩⟩; refine ⟨_, rfl, ?_⟩))
      go_ret
      exact ⟨by first | rfl | (simp [errW_none, errW_some] <;> rfl) | (simp [*, errW_none, errW_some] <;> rfl), by repeat (first | (with_reducible first | exact HB.out | apply below_alloc | apply pw_below_drewN | apply below_drew1 | refine below_set ?_ GE115.out) | exact HB.out)⟩
    · replace c4 := Bool.eq_false_iff.mpr c4
      subst c4
      have H1 : (some (t110 && (!t111 && (t112 == 3)))) = some r := by rw [if_neg (show ¬ (false = true) by decide)] at H; exact H
      clear H
      have H := H1
      clear H1
      obtain rfl := Option.some.inj H
      go_enter Try.func15, Try.ntmps15
      go_wp2_with (first | ((with_reducible refine gate_callee (f := 13) rfl ?_); refine goesL_ (some 6) rfl rfl Try.func13 (by kernel_rfl) rfl #[.agg #[.bool false, .bool false, .int .i64 0], .int .i64 0, .int .i64 3] rfl (by (try simp only [List.map_toArray, List.map_cons, List.map_nil]); first | done | rfl | (simp only [List.length_drop, List.length_take]; rfl)) ?_; (with_reducible refine (fall_Take.calls k false false 0 0 3 t110 t111 t112 false t114 _ A1.out).mono ?_); rintro e w8 ⟨rfl, hb⟩; refine ⟨_, rfl, ?_⟩; have n0_ := Aside0.mk (below_step (by repeat (first | (with_reducible first | exact HB.out | apply below_alloc | apply pw_below_drewN | apply below_drew1) | exact HB.out)) hb); clear HB; have HB := n0_; clear n0_; (try clear hb); (try clear hb2); (try clear hk); (try clear hi)) | ((with_reducible refine gate_dst (N := 1) rfl ?_); refine box_event ?hg (N := 1) ?hd (cs := #[.bool false, .bool false, .int .i64 0]) (t := 24) ?hr ?_; (case hd => rfl); (case hg => rfl); (case hr => first | (go_simp; done) | (go_simp; rfl)); intro gb115 hg w9 hbox hb; have n0_ := Aside0.mk (below_step (by repeat (first | (with_reducible first | exact HB.out | apply below_alloc | apply pw_below_drewN | apply below_drew1) | exact HB.out)) hb); have n1_ := Aside0.mk (hbox); have n2_ := Aside0.mk ((by rw [hg]; exact (below_size (by repeat (first | (with_reducible first | exact HB.out | apply below_alloc | apply pw_below_drewN | apply below_drew1) | exact HB.out))) : w.heap.size ≤ gb115)); have n3_ := Aside0.mk ((by rw [hg]; exact (below_size (by repeat (first | (with_reducible first | exact HB.out | apply below_alloc | apply pw_below_drewN | apply below_drew1) | exact HB.out))) : w.heap.size ≤ gb115)); clear HB; have HB := n0_; have BK115 := n1_; have GW115 := n2_; have GE115 := n3_; clear n0_ n1_ n2_ n3_; clear hb hbox hg; have hcz10_0 : w9.cell? ⟨gb115, 0, none⟩ = some (.bool false) := (blk_cell BK115.out 0).trans rfl; have hcz10_1 : w9.cell? ⟨gb115, 1, none⟩ = some (.bool false) := (blk_cell BK115.out 1).trans rfl; have hcz10_2 : w9.cell? ⟨gb115, 2, none⟩ = some (.int .i64 0) := (blk_cell BK115.out 2).trans rfl; have hfz10_0 := blk_frozen BK115.out 0; have hfz10_1 := blk_frozen BK115.out 1; have hfz10_2 := blk_frozen BK115.out 2) | ((with_reducible refine gate_callee (f := 14) rfl ?_); refine goesL_ (some 11) rfl rfl Try.func14 (by kernel_rfl) rfl #[.int .i64 t114] rfl (by (try simp only [List.map_toArray, List.map_cons, List.map_nil]); first | done | rfl | (simp only [List.length_drop, List.length_take]; rfl)) ?_; (with_reducible refine (gimballaw20_num.calls t114 t116 _ A2.out).mono ?_); rintro e w' ⟨rfl, ⟨nd, rfl⟩⟩; refine ⟨_, rfl, ?_⟩))
      go_ret
      exact ⟨by first | rfl | (simp [errW_none, errW_some] <;> rfl) | (simp [*, errW_none, errW_some] <;> rfl), by repeat (first | (with_reducible first | exact HB.out | apply below_alloc | apply pw_below_drewN | apply below_drew1 | refine below_set ?_ GE115.out) | exact HB.out)⟩
  · rw [if_neg c3] at H
    have c3b0 : (t116 == 0) = false := beq_eq_false_iff_ne.mpr c3
    have c3b1 : (t116 != 0) = true := bne_iff_ne.mpr c3
    obtain rfl := Option.some.inj H
    go_enter Try.func15, Try.ntmps15
    go_wp2_with (first | ((with_reducible refine gate_callee (f := 13) rfl ?_); refine goesL_ (some 6) rfl rfl Try.func13 (by kernel_rfl) rfl #[.agg #[.bool false, .bool false, .int .i64 0], .int .i64 0, .int .i64 3] rfl (by (try simp only [List.map_toArray, List.map_cons, List.map_nil]); first | done | rfl | (simp only [List.length_drop, List.length_take]; rfl)) ?_; (with_reducible refine (fall_Take.calls k false false 0 0 3 t110 t111 t112 t113 t114 _ A1.out).mono ?_); rintro e w11 ⟨rfl, hb⟩; refine ⟨_, rfl, ?_⟩; have n0_ := Aside0.mk (below_step (by repeat (first | (with_reducible first | exact HB.out | apply below_alloc | apply pw_below_drewN | apply below_drew1) | exact HB.out)) hb); clear HB; have HB := n0_; clear n0_; (try clear hb); (try clear hb2); (try clear hk); (try clear hi)) | ((with_reducible refine gate_dst (N := 1) rfl ?_); refine box_event ?hg (N := 1) ?hd (cs := #[.bool false, .bool false, .int .i64 0]) (t := 24) ?hr ?_; (case hd => rfl); (case hg => rfl); (case hr => first | (go_simp; done) | (go_simp; rfl)); intro gb115 hg w12 hbox hb; have n0_ := Aside0.mk (below_step (by repeat (first | (with_reducible first | exact HB.out | apply below_alloc | apply pw_below_drewN | apply below_drew1) | exact HB.out)) hb); have n1_ := Aside0.mk (hbox); have n2_ := Aside0.mk ((by rw [hg]; exact (below_size (by repeat (first | (with_reducible first | exact HB.out | apply below_alloc | apply pw_below_drewN | apply below_drew1) | exact HB.out))) : w.heap.size ≤ gb115)); have n3_ := Aside0.mk ((by rw [hg]; exact (below_size (by repeat (first | (with_reducible first | exact HB.out | apply below_alloc | apply pw_below_drewN | apply below_drew1) | exact HB.out))) : w.heap.size ≤ gb115)); clear HB; have HB := n0_; have BK115 := n1_; have GW115 := n2_; have GE115 := n3_; clear n0_ n1_ n2_ n3_; clear hb hbox hg; have hcz13_0 : w12.cell? ⟨gb115, 0, none⟩ = some (.bool false) := (blk_cell BK115.out 0).trans rfl; have hcz13_1 : w12.cell? ⟨gb115, 1, none⟩ = some (.bool false) := (blk_cell BK115.out 1).trans rfl; have hcz13_2 : w12.cell? ⟨gb115, 2, none⟩ = some (.int .i64 0) := (blk_cell BK115.out 2).trans rfl; have hfz13_0 := blk_frozen BK115.out 0; have hfz13_1 := blk_frozen BK115.out 1; have hfz13_2 := blk_frozen BK115.out 2) | ((with_reducible refine gate_callee (f := 14) rfl ?_); refine goesL_ (some 11) rfl rfl Try.func14 (by kernel_rfl) rfl #[.int .i64 t114] rfl (by (try simp only [List.map_toArray, List.map_cons, List.map_nil]); first | done | rfl | (simp only [List.length_drop, List.length_take]; rfl)) ?_; (with_reducible refine (gimballaw20_num.calls t114 t116 _ A2.out).mono ?_); rintro e w' ⟨rfl, ⟨nd, rfl⟩⟩; refine ⟨_, rfl, ?_⟩))
    go_ret
    exact ⟨by first | rfl | (simp [errW_none, errW_some] <;> rfl) | (simp [*, errW_none, errW_some] <;> rfl), by repeat (first | (with_reducible first | exact HB.out | apply below_alloc | apply pw_below_drewN | apply below_drew1 | refine below_set ?_ GE115.out) | exact HB.out)⟩

/-! ### gimballaw0_Within: function 16 -/
def gimballaw0_Within.f (a0 : Int) (a1 : Int) : Option (Int) := if (IntKind.u64.wrap (a1)) = 0 then (none) else (some (wrap64 (Int.tmod (IntKind.u64.wrap (a0)) (IntKind.u64.wrap (a1)))))
set_option maxHeartbeats 8000000 in
set_option maxRecDepth 100000 in
theorem gimballaw0_Within.calls (a0 : Int) (a1 : Int) (r : Int) (w : World) (h : gimballaw0_Within.f a0 a1 = some r) :
    Calls Try.prog 16 #[.int .i64 a0, .int .i64 a1] w fun e w' => e = .returned (.int .i64 r) ∧ Drawn0 w w' := by
  have H : (if (IntKind.u64.wrap (a1)) = 0 then (none) else (some (wrap64 (Int.tmod (IntKind.u64.wrap (a0)) (IntKind.u64.wrap (a1)))))) = some r := h
  clear h
  by_cases c3 : (IntKind.u64.wrap (a1)) = 0
  · rw [if_pos c3] at H
    exact absurd H (by simp)
  · rw [if_neg c3] at H
    have c3b0 : ((IntKind.u64.wrap (a1)) == 0) = false := beq_eq_false_iff_ne.mpr c3
    have c3b1 : ((IntKind.u64.wrap (a1)) != 0) = true := bne_iff_ne.mpr c3
    obtain rfl := Option.some.inj H
    go_enter Try.func16, Try.ntmps16
    go_wp2
    go_ret
    exact ⟨by first | rfl | (simp; done) | (simp [*]; done), by repeat (first | exact Drawn0.refl _ | apply Drawn0.step)⟩

/-! ### gimballaw20_FallOnce: function 4 -/
mutual
def gimballaw20_FallOnce.l0 : Nat → List (S26) → Int → Int → Bool → Int → Bool → Bool → Int → Option (Bool)
  | 0, _, _, _, _, _, _, _, _ => none
  | k + 1, x0, x4, x5, x6, x7, x118000, x118001, x118002 => if x7 < (x0.length : Int) then (gimballaw20_FallOnce.j1 k x0 x4 x5 x6 x7 (decide (x7 < 80)) x118000 x118001 x118002) else (gimballaw20_FallOnce.j1 k x0 x4 x5 x6 x7 false x118000 x118001 x118002)
def gimballaw20_FallOnce.j1 : Nat → List (S26) → Int → Int → Bool → Int → Bool → Bool → Bool → Int → Option (Bool)
  | 0, _, _, _, _, _, _, _, _, _ => none
  | k + 1, x0, x4, x5, x6, x7, x20, x118000, x118001, x118002 => if x20 = true then (if 0 ≤ x7 then (if x7 < (x0.length : Int) then ((gimballaw0_Within.f ((rd_T26 x0 x7).f2) 60).bind fun t120 => ((some (([0, 3268883, 9806650] : List Int) : List Int)).bind fun y121 => ((gimballaw0_Within.f ((rd_T26 x0 x7).f1) 3).bind fun t125 => (if 0 ≤ t125 then (if t125 < (y121.length : Int) then ((gimballaw0_Within.f ((rd_T26 x0 x7).f1) 7).bind fun t128 => (if t128 > 1 then (gimballaw20_FallOnce.j2 k x0 (wrap64 (x4 + t120)) x5 x6 x7 0 x118000 x118001 x118002) else (gimballaw20_FallOnce.j2 k x0 (wrap64 (x4 + t120)) x5 x6 x7 (rd y121 t125) x118000 x118001 x118002))) else (none)) else (none))))) else (none)) else (none)) else ((gimballaw20_wakes.f k).bind fun t118 => (some t118))
def gimballaw20_FallOnce.j2 : Nat → List (S26) → Int → Int → Bool → Int → Int → Bool → Bool → Int → Option (Bool)
  | 0, _, _, _, _, _, _, _, _, _ => none
  | k + 1, x0, x4, x5, x6, x7, x8, x118000, x118001, x118002 => (fall_Take.f k x118000 x118001 x118002 x8 x4).bind fun bt129 => ((gimballaw20_num.f bt129.2.2.2.2).bind fun t135 => (if t135 = 0 then (if x8 = 0 then (if x5 ≥ 0 then (if x6 = true then (gimballaw20_FallOnce.j3 k x0 x4 x5 x6 x7 x8 bt129.2.2.2.1 (bt129.2.2.2.1 != false) bt129.1 bt129.2.1 bt129.2.2.1) else (gimballaw20_FallOnce.j3 k x0 x4 x5 x6 x7 x8 bt129.2.2.2.1 (bt129.2.2.2.1 != (decide ((wrap64 (x4 - x5)) ≥ 100))) bt129.1 bt129.2.1 bt129.2.2.1)) else (gimballaw20_FallOnce.j3 k x0 x4 x5 x6 x7 x8 bt129.2.2.2.1 (bt129.2.2.2.1 != false) bt129.1 bt129.2.1 bt129.2.2.1)) else (gimballaw20_FallOnce.j3 k x0 x4 x5 x6 x7 x8 bt129.2.2.2.1 (bt129.2.2.2.1 != false) bt129.1 bt129.2.1 bt129.2.2.1)) else (gimballaw20_FallOnce.j3 k x0 x4 x5 x6 x7 x8 bt129.2.2.2.1 true bt129.1 bt129.2.1 bt129.2.2.1)))
def gimballaw20_FallOnce.j3 : Nat → List (S26) → Int → Int → Bool → Int → Int → Bool → Bool → Bool → Bool → Int → Option (Bool)
  | 0, _, _, _, _, _, _, _, _, _, _, _ => none
  | k + 1, x0, x4, x5, x6, x7, x8, x10, x77, x135000, x135001, x135002 => if x77 = true then (some false) else (if x8 = 9806650 then (gimballaw20_FallOnce.l0 k x0 x4 (-1) x10 (wrap64 (x7 + 1)) x135000 x135001 x135002) else (if x8 = 0 then (if x5 < 0 then (if x6 = true then (gimballaw20_FallOnce.l0 k x0 x4 x4 true (wrap64 (x7 + 1)) x135000 x135001 x135002) else (gimballaw20_FallOnce.l0 k x0 x4 x4 x10 (wrap64 (x7 + 1)) x135000 x135001 x135002)) else (if x6 = true then (gimballaw20_FallOnce.l0 k x0 x4 x5 true (wrap64 (x7 + 1)) x135000 x135001 x135002) else (gimballaw20_FallOnce.l0 k x0 x4 x5 x10 (wrap64 (x7 + 1)) x135000 x135001 x135002))) else (if x6 = true then (gimballaw20_FallOnce.l0 k x0 x4 x5 true (wrap64 (x7 + 1)) x135000 x135001 x135002) else (gimballaw20_FallOnce.l0 k x0 x4 x5 x10 (wrap64 (x7 + 1)) x135000 x135001 x135002))))
end
def gimballaw20_FallOnce.f (k : Nat) (l0 : List (S26)) : Option (Bool) := gimballaw20_FallOnce.l0 k l0 0 (-1) false 0 false false 0
theorem gimballaw20_FallOnce.mono_l : ∀ k, (∀ y0 y1 y2 y3 y4 y5 y6 y7, LeO (gimballaw20_FallOnce.l0 k y0 y1 y2 y3 y4 y5 y6 y7) (gimballaw20_FallOnce.l0 (k + 1) y0 y1 y2 y3 y4 y5 y6 y7)) ∧ (∀ y0 y1 y2 y3 y4 y5 y6 y7 y8, LeO (gimballaw20_FallOnce.j1 k y0 y1 y2 y3 y4 y5 y6 y7 y8) (gimballaw20_FallOnce.j1 (k + 1) y0 y1 y2 y3 y4 y5 y6 y7 y8)) ∧ (∀ y0 y1 y2 y3 y4 y5 y6 y7 y8, LeO (gimballaw20_FallOnce.j2 k y0 y1 y2 y3 y4 y5 y6 y7 y8) (gimballaw20_FallOnce.j2 (k + 1) y0 y1 y2 y3 y4 y5 y6 y7 y8)) ∧ (∀ y0 y1 y2 y3 y4 y5 y6 y7 y8 y9 y10, LeO (gimballaw20_FallOnce.j3 k y0 y1 y2 y3 y4 y5 y6 y7 y8 y9 y10) (gimballaw20_FallOnce.j3 (k + 1) y0 y1 y2 y3 y4 y5 y6 y7 y8 y9 y10))
  | 0 => ⟨fun _ _ _ _ _ _ _ _ r h => by simp [gimballaw20_FallOnce.l0] at h, fun _ _ _ _ _ _ _ _ _ r h => by simp [gimballaw20_FallOnce.j1] at h, fun _ _ _ _ _ _ _ _ _ r h => by simp [gimballaw20_FallOnce.j2] at h, fun _ _ _ _ _ _ _ _ _ _ _ r h => by simp [gimballaw20_FallOnce.j3] at h⟩
  | k + 1 => by
    obtain ⟨ih0, ih1, ih2, ih3⟩ := gimballaw20_FallOnce.mono_l k
    refine ⟨?_, ?_, ?_, ?_⟩
    · intro y0 y1 y2 y3 y4 y5 y6 y7
      unfold gimballaw20_FallOnce.l0
      repeat' first
      | (with_reducible exact ih0 _ _ _ _ _ _ _ _)
      | (with_reducible exact ih1 _ _ _ _ _ _ _ _ _)
      | (with_reducible exact ih2 _ _ _ _ _ _ _ _ _)
      | (with_reducible exact ih3 _ _ _ _ _ _ _ _ _ _ _)
      | (with_reducible exact fall_Take.mono _ _ _ _ _ _)
      | (with_reducible exact gimballaw20_wakes.mono _)
      | (with_reducible exact LeO.refl _)
      | (with_reducible exact LeO.none _)
      | (with_reducible refine LeO.ite ?_ ?_)
      | (with_reducible refine LeO.bind ?_ (fun _ => ?_))
      | exact ih0 _ _ _ _ _ _ _ _
      | exact ih1 _ _ _ _ _ _ _ _ _
      | exact ih2 _ _ _ _ _ _ _ _ _
      | exact ih3 _ _ _ _ _ _ _ _ _ _ _
      | exact fall_Take.mono _ _ _ _ _ _
      | exact gimballaw20_wakes.mono _
      | exact LeO.none _
      | refine LeO.ite ?_ ?_
      | refine LeO.bind ?_ (fun _ => ?_)
    · intro y0 y1 y2 y3 y4 y5 y6 y7 y8
      unfold gimballaw20_FallOnce.j1
      repeat' first
      | (with_reducible exact ih0 _ _ _ _ _ _ _ _)
      | (with_reducible exact ih1 _ _ _ _ _ _ _ _ _)
      | (with_reducible exact ih2 _ _ _ _ _ _ _ _ _)
      | (with_reducible exact ih3 _ _ _ _ _ _ _ _ _ _ _)
      | (with_reducible exact fall_Take.mono _ _ _ _ _ _)
      | (with_reducible exact gimballaw20_wakes.mono _)
      | (with_reducible exact LeO.refl _)
      | (with_reducible exact LeO.none _)
      | (with_reducible refine LeO.ite ?_ ?_)
      | (with_reducible refine LeO.bind ?_ (fun _ => ?_))
      | exact ih0 _ _ _ _ _ _ _ _
      | exact ih1 _ _ _ _ _ _ _ _ _
      | exact ih2 _ _ _ _ _ _ _ _ _
      | exact ih3 _ _ _ _ _ _ _ _ _ _ _
      | exact fall_Take.mono _ _ _ _ _ _
      | exact gimballaw20_wakes.mono _
      | exact LeO.none _
      | refine LeO.ite ?_ ?_
      | refine LeO.bind ?_ (fun _ => ?_)
    · intro y0 y1 y2 y3 y4 y5 y6 y7 y8
      unfold gimballaw20_FallOnce.j2
      repeat' first
      | (with_reducible exact ih0 _ _ _ _ _ _ _ _)
      | (with_reducible exact ih1 _ _ _ _ _ _ _ _ _)
      | (with_reducible exact ih2 _ _ _ _ _ _ _ _ _)
      | (with_reducible exact ih3 _ _ _ _ _ _ _ _ _ _ _)
      | (with_reducible exact fall_Take.mono _ _ _ _ _ _)
      | (with_reducible exact gimballaw20_wakes.mono _)
      | (with_reducible exact LeO.refl _)
      | (with_reducible exact LeO.none _)
      | (with_reducible refine LeO.ite ?_ ?_)
      | (with_reducible refine LeO.bind ?_ (fun _ => ?_))
      | exact ih0 _ _ _ _ _ _ _ _
      | exact ih1 _ _ _ _ _ _ _ _ _
      | exact ih2 _ _ _ _ _ _ _ _ _
      | exact ih3 _ _ _ _ _ _ _ _ _ _ _
      | exact fall_Take.mono _ _ _ _ _ _
      | exact gimballaw20_wakes.mono _
      | exact LeO.none _
      | refine LeO.ite ?_ ?_
      | refine LeO.bind ?_ (fun _ => ?_)
    · intro y0 y1 y2 y3 y4 y5 y6 y7 y8 y9 y10
      unfold gimballaw20_FallOnce.j3
      repeat' first
      | (with_reducible exact ih0 _ _ _ _ _ _ _ _)
      | (with_reducible exact ih1 _ _ _ _ _ _ _ _ _)
      | (with_reducible exact ih2 _ _ _ _ _ _ _ _ _)
      | (with_reducible exact ih3 _ _ _ _ _ _ _ _ _ _ _)
      | (with_reducible exact fall_Take.mono _ _ _ _ _ _)
      | (with_reducible exact gimballaw20_wakes.mono _)
      | (with_reducible exact LeO.refl _)
      | (with_reducible exact LeO.none _)
      | (with_reducible refine LeO.ite ?_ ?_)
      | (with_reducible refine LeO.bind ?_ (fun _ => ?_))
      | exact ih0 _ _ _ _ _ _ _ _
      | exact ih1 _ _ _ _ _ _ _ _ _
      | exact ih2 _ _ _ _ _ _ _ _ _
      | exact ih3 _ _ _ _ _ _ _ _ _ _ _
      | exact fall_Take.mono _ _ _ _ _ _
      | exact gimballaw20_wakes.mono _
      | exact LeO.none _
      | refine LeO.ite ?_ ?_
      | refine LeO.bind ?_ (fun _ => ?_)
theorem gimballaw20_FallOnce.mono : ∀ a0 k, LeO (gimballaw20_FallOnce.f k a0) (gimballaw20_FallOnce.f (k + 1) a0) := by
  intro a0 k
  obtain ⟨ih0, ih1, ih2, ih3⟩ := gimballaw20_FallOnce.mono_l k
  unfold gimballaw20_FallOnce.f
  repeat' first
      | (with_reducible exact ih0 _ _ _ _ _ _ _ _)
      | (with_reducible exact ih1 _ _ _ _ _ _ _ _ _)
      | (with_reducible exact ih2 _ _ _ _ _ _ _ _ _)
      | (with_reducible exact ih3 _ _ _ _ _ _ _ _ _ _ _)
      | (with_reducible exact fall_Take.mono _ _ _ _ _ _)
      | (with_reducible exact gimballaw20_wakes.mono _)
      | (with_reducible exact LeO.refl _)
      | (with_reducible exact LeO.none _)
      | (with_reducible refine LeO.ite ?_ ?_)
      | (with_reducible refine LeO.bind ?_ (fun _ => ?_))
      | exact ih0 _ _ _ _ _ _ _ _
      | exact ih1 _ _ _ _ _ _ _ _ _
      | exact ih2 _ _ _ _ _ _ _ _ _
      | exact ih3 _ _ _ _ _ _ _ _ _ _ _
      | exact fall_Take.mono _ _ _ _ _ _
      | exact gimballaw20_wakes.mono _
      | exact LeO.none _
      | refine LeO.ite ?_ ?_
      | refine LeO.bind ?_ (fun _ => ?_)
set_option maxHeartbeats 8000000 in
set_option maxRecDepth 100000 in
theorem gimballaw20_FallOnce.calls (k : Nat) (A0 : Option Addr) (c0 : Nat) (l0 : List (S26)) (r : Bool) (w : World) (hr0 : Kd.C k26 w A0 l0.length l0) (hc0 : l0.length ≤ c0) (h : gimballaw20_FallOnce.f k l0 = some r) :
    Calls Try.prog 4 #[.slice A0 l0.length c0] w fun e w' => e = .returned (.bool r) ∧ Below w.heap.size w w' := by
  have hu24 := Try.underlying24
  have HR0 := Aside0.mk hr0
  have HC0 := Aside0.mk hc0
  clear hr0 hc0
  have HB := Aside0.mk (Below.refl w.heap.size w)
  have H : (gimballaw20_FallOnce.l0 k l0 0 (-1) false 0 false false 0) = some r := h
  clear h
  have H' := Aside0.mk H
  clear H
  go_enter Try.func4, Try.ntmps4
  go_wp2_with (first | ((with_reducible refine gate_dst (N := 3) rfl ?_); refine box_event ?hg (N := 3) ?hd (cs := #[.bool false, .bool false, .int .i64 0]) (t := 24) ?hr ?_; (case hd => rfl); (case hg => rfl); (case hr => first | (go_simp; done) | (go_simp; rfl)); intro gb117 hg w2 hbox hb; have n0_ := Aside0.mk (below_step (by repeat (first | (with_reducible first | exact HB.out | apply below_alloc | apply pw_below_drewN | apply below_drew1) | exact HB.out)) hb); have n1_ := Aside0.mk (hbox); have n2_ := Aside0.mk ((by rw [hg]; exact (below_size (by repeat (first | (with_reducible first | exact HB.out | apply below_alloc | apply pw_below_drewN | apply below_drew1) | exact HB.out))) : w.heap.size ≤ gb117)); have n3_ := Aside0.mk ((by rw [hg]; exact (below_size (by repeat (first | (with_reducible first | exact HB.out | apply below_alloc | apply pw_below_drewN | apply below_drew1) | exact HB.out))) : w.heap.size ≤ gb117)); clear HB; have HB := n0_; have BK117 := n1_; have GW117 := n2_; have GE117 := n3_; clear n0_ n1_ n2_ n3_; clear hb hbox hg; have hcz3_0 : w2.cell? ⟨gb117, 0, none⟩ = some (.bool false) := (blk_cell BK117.out 0).trans rfl; have hcz3_1 : w2.cell? ⟨gb117, 1, none⟩ = some (.bool false) := (blk_cell BK117.out 1).trans rfl; have hcz3_2 : w2.cell? ⟨gb117, 2, none⟩ = some (.int .i64 0) := (blk_cell BK117.out 2).trans rfl; have hfz3_0 := blk_frozen BK117.out 0; have hfz3_1 := blk_frozen BK117.out 1; have hfz3_2 := blk_frozen BK117.out 2))
  go_loopg [4, 5, 6, 7] k (fun kq v4 v5 v6 v7 w' => ∃ (x4_1 : Int) (x5_1 : Int) (x6_1 : Bool) (x7_1 : Int) (x118000_1 : Bool) (x118001_1 : Bool) (x118002_1 : Int), v4 = .int .i64 x4_1 ∧ v5 = .int .i64 x5_1 ∧ v6 = .bool x6_1 ∧ v7 = .int .i64 x7_1 ∧ Aside0 (gimballaw20_FallOnce.l0 kq l0 x4_1 x5_1 x6_1 x7_1 x118000_1 x118001_1 x118002_1 = some r) ∧ Aside0 (kq ≤ k) ∧ Aside0 (w'.heap[gb117]? = some (.cells #[.bool x118000_1, .bool x118001_1, .int .i64 x118002_1] 24 (0, 0))) ∧ Aside0 (Below w.heap.size w w'))
  case atStart => exact ⟨(0), ((-1)), (false), (0), (false), (false), (0), (by first | rfl | (simp; done) | (simp [*]; done)), (by first | rfl | (simp; done) | (simp [*]; done)), (by first | rfl | (simp; done) | (simp [*]; done)), (by first | rfl | (simp; done) | (simp [*]; done)), H', ⟨Nat.le_refl _⟩, ⟨by (with_reducible repeat (first | refine blk_drewN ?_ _ | refine blk_drew ?_ | refine blk_alloc ?_ _)); refine blk_put (cs := #[.bool false, .bool false, .int .i64 0]) ?_ 2 _ rfl; (with_reducible repeat (first | refine blk_drewN ?_ _ | refine blk_drew ?_ | refine blk_alloc ?_ _)); refine blk_put (cs := #[.bool false, .bool false, .int .i64 0]) ?_ 1 _ rfl; (with_reducible repeat (first | refine blk_drewN ?_ _ | refine blk_drew ?_ | refine blk_alloc ?_ _)); refine blk_put (cs := #[.bool false, .bool false, .int .i64 0]) ?_ 0 _ rfl; (with_reducible repeat (first | refine blk_drewN ?_ _ | refine blk_drew ?_ | refine blk_alloc ?_ _)); exact BK117.out⟩, ⟨by repeat (first | (with_reducible first | exact HB.out | apply below_alloc | apply pw_below_drewN | apply below_drew1 | refine below_set ?_ GE117.out) | exact HB.out)⟩⟩
  case round =>
    clear H'
    try clear p2
    try clear hcz3_0
    try clear hcz3_1
    try clear hcz3_2
    try clear hfz3_0
    try clear hfz3_1
    try clear hfz3_2
    obtain ⟨x4_1, x5_1, x6_1, x7_1, x118000_1, x118001_1, x118002_1, rfl, rfl, rfl, rfl, HA, HK1, BK117, HB⟩ := hrel
    cases gk with
    | zero => exact absurd HA.out (by simp [gimballaw20_FallOnce.l0])
    | succ k1 =>
      have H := HA.out
      clear HA
      simp only [gimballaw20_FallOnce.l0] at H
      have HC4 := Aside0.mk H
      clear H
      go_upto_region 6 with (fail)
      go_cut [20] (fun v20 wc => ∃ (kq : Nat) (x20_3 : Bool), v20 = .bool x20_3 ∧ Aside0 (gimballaw20_FallOnce.j1 kq l0 x4_1 x5_1 x6_1 x7_1 x20_3 x118000_1 x118001_1 x118002_1 = some r) ∧ Aside0 (kq ≤ k1) ∧ Aside0 (wc.heap[gb117]? = some (.cells #[.bool x118000_1, .bool x118001_1, .int .i64 x118002_1] 24 (0, 0))) ∧ Aside0 (Below w.heap.size w wc))
      case first =>
        have H := HC4.out
        clear HC4
        by_cases c5 : x7_1 < (l0.length : Int)
        · rw [if_pos c5] at H
          have c5b0 : decide (x7_1 < (l0.length : Int)) = true := decide_eq_true c5
          clear c5
          (first | rw [c5b0] | (simp only [i64_w, i32_w]; rw [c5b0]) | skip)
          have H' := Aside0.mk H
          clear H
          go_wp2
          go_meet
          case rel => exact ⟨_, (decide (x7_1 < 80)), (by first | rfl | (simp; done) | (simp [*]; done)), H', ⟨by have := HK1.out; first | omega | exact Nat.le_refl _⟩, ⟨by (with_reducible repeat (first | refine blk_drewN ?_ _ | refine blk_drew ?_ | refine blk_alloc ?_ _)); exact BK117.out⟩, ⟨by repeat (first | (with_reducible first | exact HB.out | apply below_alloc | apply pw_below_drewN | apply below_drew1 | refine below_set ?_ GE117.out) | exact HB.out)⟩⟩
        · rw [if_neg c5] at H
          have c5b0 : decide (x7_1 < (l0.length : Int)) = false := decide_eq_false c5
          clear c5
          (first | rw [c5b0] | (simp only [i64_w, i32_w]; rw [c5b0]) | skip)
          have H' := Aside0.mk H
          clear H
          go_wp2
          go_meet
          case rel => exact ⟨_, (false), (by first | rfl | (simp; done) | (simp [*]; done)), H', ⟨by have := HK1.out; first | omega | exact Nat.le_refl _⟩, ⟨by (with_reducible repeat (first | refine blk_drewN ?_ _ | refine blk_drew ?_ | refine blk_alloc ?_ _)); exact BK117.out⟩, ⟨by repeat (first | (with_reducible first | exact HB.out | apply below_alloc | apply pw_below_drewN | apply below_drew1 | refine below_set ?_ GE117.out) | exact HB.out)⟩⟩
      case rest =>
        clear HC4
        try clear p2
        try clear c4
        try clear c5
        try clear c5b0
        try clear hcz3_0
        try clear hcz3_1
        try clear hcz3_2
        try clear hfz3_0
        try clear hfz3_1
        try clear hfz3_2
        try clear p2
        obtain ⟨kq, x20_3, rfl, HA, HJ3, BK117, HB⟩ := hcut
        cases kq with
        | zero => exact absurd HA.out (by simp [gimballaw20_FallOnce.j1])
        | succ kj3 =>
          have H := HA.out
          clear HA
          simp only [gimballaw20_FallOnce.j1] at H
          by_cases c6 : x20_3 = true
          · subst c6
            have H1 : (if 0 ≤ x7_1 then (if x7_1 < (l0.length : Int) then ((gimballaw0_Within.f ((rd_T26 l0 x7_1).f2) 60).bind fun t120 => ((some (([0, 3268883, 9806650] : List Int) : List Int)).bind fun y121 => ((gimballaw0_Within.f ((rd_T26 l0 x7_1).f1) 3).bind fun t125 => (if 0 ≤ t125 then (if t125 < (y121.length : Int) then ((gimballaw0_Within.f ((rd_T26 l0 x7_1).f1) 7).bind fun t128 => (if t128 > 1 then (gimballaw20_FallOnce.j2 kj3 l0 (wrap64 (x4_1 + t120)) x5_1 x6_1 x7_1 0 x118000_1 x118001_1 x118002_1) else (gimballaw20_FallOnce.j2 kj3 l0 (wrap64 (x4_1 + t120)) x5_1 x6_1 x7_1 (rd y121 t125) x118000_1 x118001_1 x118002_1))) else (none)) else (none))))) else (none)) else (none)) = some r := by rw [if_pos rfl] at H; exact H
            clear H
            have H := H1
            clear H1
            by_cases c7 : 0 ≤ x7_1
            · rw [if_pos c7] at H
              have c7b0 : decide (0 ≤ x7_1) = true := decide_eq_true c7
              clear c7
              by_cases c8 : x7_1 < (l0.length : Int)
              · rw [if_pos c8] at H
                have c8b0 : decide (x7_1 < (l0.length : Int)) = true := decide_eq_true c8
                clear c8
                replace H := Option.bind_eq_some_iff.mp H
                obtain ⟨t120, A90, H⟩ := H
                replace H : ((some (([0, 3268883, 9806650] : List Int) : List Int)).bind fun y121 => ((gimballaw0_Within.f ((rd_T26 l0 x7_1).f1) 3).bind fun t125 => (if 0 ≤ t125 then (if t125 < (y121.length : Int) then ((gimballaw0_Within.f ((rd_T26 l0 x7_1).f1) 7).bind fun t128 => (if t128 > 1 then (gimballaw20_FallOnce.j2 kj3 l0 (wrap64 (x4_1 + t120)) x5_1 x6_1 x7_1 0 x118000_1 x118001_1 x118002_1) else (gimballaw20_FallOnce.j2 kj3 l0 (wrap64 (x4_1 + t120)) x5_1 x6_1 x7_1 (rd y121 t125) x118000_1 x118001_1 x118002_1))) else (none)) else (none)))) = some r := H
                have A9 := Aside0.mk A90
                clear A90
                obtain ⟨y121, hy121⟩ : ∃ y_ : List Int, y_ = (([0, 3268883, 9806650] : List Int)) := ⟨_, rfl⟩
                replace H : ((gimballaw0_Within.f ((rd_T26 l0 x7_1).f1) 3).bind fun t125 => (if 0 ≤ t125 then (if t125 < (y121.length : Int) then ((gimballaw0_Within.f ((rd_T26 l0 x7_1).f1) 7).bind fun t128 => (if t128 > 1 then (gimballaw20_FallOnce.j2 kj3 l0 (wrap64 (x4_1 + t120)) x5_1 x6_1 x7_1 0 x118000_1 x118001_1 x118002_1) else (gimballaw20_FallOnce.j2 kj3 l0 (wrap64 (x4_1 + t120)) x5_1 x6_1 x7_1 (rd y121 t125) x118000_1 x118001_1 x118002_1))) else (none)) else (none))) = some r := by first | (rw [hy121]; with_reducible exact H) | (have H2_ := (Option.bind_some _ _).symm.trans H; rw [hy121]; with_reducible exact H2_) | (have H2_ := (Option.bind_some _ _).symm.trans H; with_reducible exact H2_) | with_reducible exact H | (rw [hy121]; exact H) | exact H
                have Ny121 := Aside0.mk hy121
                clear hy121
                replace H := Option.bind_eq_some_iff.mp H
                obtain ⟨t125, A100, H⟩ := H
                replace H : (if 0 ≤ t125 then (if t125 < (y121.length : Int) then ((gimballaw0_Within.f ((rd_T26 l0 x7_1).f1) 7).bind fun t128 => (if t128 > 1 then (gimballaw20_FallOnce.j2 kj3 l0 (wrap64 (x4_1 + t120)) x5_1 x6_1 x7_1 0 x118000_1 x118001_1 x118002_1) else (gimballaw20_FallOnce.j2 kj3 l0 (wrap64 (x4_1 + t120)) x5_1 x6_1 x7_1 (rd y121 t125) x118000_1 x118001_1 x118002_1))) else (none)) else (none)) = some r := H
                have A10 := Aside0.mk A100
                clear A100
                by_cases c11 : 0 ≤ t125
                · rw [if_pos c11] at H
                  have c11b0 : decide (0 ≤ t125) = true := decide_eq_true c11
                  clear c11
                  by_cases c12 : t125 < (y121.length : Int)
                  · rw [if_pos c12] at H
                    have c12b0 : decide (t125 < (y121.length : Int)) = true := decide_eq_true c12
                    clear c12
                    replace H := Option.bind_eq_some_iff.mp H
                    obtain ⟨t128, A130, H⟩ := H
                    replace H : (if t128 > 1 then (gimballaw20_FallOnce.j2 kj3 l0 (wrap64 (x4_1 + t120)) x5_1 x6_1 x7_1 0 x118000_1 x118001_1 x118002_1) else (gimballaw20_FallOnce.j2 kj3 l0 (wrap64 (x4_1 + t120)) x5_1 x6_1 x7_1 (rd y121 t125) x118000_1 x118001_1 x118002_1)) = some r := H
                    have A13 := Aside0.mk A130
                    clear A130
                    have HC14 := Aside0.mk H
                    clear H
                    have p119 : 0 ≤ (x7_1 : Int) := of_decide_eq_true (by first | (with_reducible assumption) | assumption)
                    have q119 : x7_1 < (l0.length : Int) := of_decide_eq_true (by first | (with_reducible assumption) | assumption)
                    obtain ⟨ad119, e119, hx119_0, hx119_1, hx119_2, hx119_3, hx119_4⟩ := at_T26 HR0.out x7_1 p119 q119
                    cases e119
                    replace hx119_0 := (HB.out.cell (World.block_lt_of_cell? w _ hx119_0)).trans hx119_0
                    replace hx119_1 := (HB.out.cell (World.block_lt_of_cell? w _ hx119_1)).trans hx119_1
                    replace hx119_2 := (HB.out.cell (World.block_lt_of_cell? w _ hx119_2)).trans hx119_2
                    replace hx119_3 := (HB.out.cell (World.block_lt_of_cell? w _ hx119_3)).trans hx119_3
                    replace hx119_4 := (HB.out.cell (World.block_lt_of_cell? w _ hx119_4)).trans hx119_4
                    replace p119 := eq_true p119
                    replace q119 := eq_true q119
                    go_upto_if 46 with (first | ((with_reducible refine gate_callee (f := 16) rfl ?_); refine goesL_ (some 29) rfl rfl Try.func16 (by kernel_rfl) rfl #[.int .i64 ((rd_T26 l0 x7_1).f2), .int .i64 60] rfl (by (try simp only [List.map_toArray, List.map_cons, List.map_nil]); first | done | rfl | (simp only [List.length_drop, List.length_take]; rfl)) ?_; (with_reducible refine (gimballaw0_Within.calls ((rd_T26 l0 x7_1).f2) 60 t120 _ A9.out).mono ?_); rintro e w' ⟨rfl, ⟨nd, rfl⟩⟩; refine ⟨_, rfl, ?_⟩) | ((with_reducible refine gate_dst (N := 31) rfl ?_); refine Kd.R_lit (Kd.int .i64) _ 2 ?hg (N := 31) ?hd (xs := ([0, 3268883, 9806650] : List Int)) (inner := [.int .i64 0, .int .i64 3268883, .int .i64 9806650]) (ok := fun _ => True) (okp := fun _ => True) ?hr ?hp (fun _ hk => hk) trivial (Below.refl _ _) (Nat.le_refl _) (by simp) ?_; (case hd => rfl); (case hg => rfl); (case hr => first | (go_simp; done) | (go_simp; rfl)); (case hp => exact (Reps.one (show Kd.M (Kd.int .i64) _ _ _ 0 [.int .i64 0] from rfl) (Reps.one (show Kd.M (Kd.int .i64) _ _ _ 3268883 [.int .i64 3268883] from rfl) (Reps.one (show Kd.M (Kd.int .i64) _ _ _ 9806650 [.int .i64 9806650] from rfl) (Reps.none _ _))))); intro v122 w15 ho16 hb hg_ hnew_; clear hg_ hnew_; (first | rw [← Ny121.out] at ho16 | (simp only [Int.reduceToNat] at ho16; rw [← Ny121.out] at ho16)); have n0_ := Aside0.mk (Kd.R_lower ho16 (below_size (by repeat (first | (with_reducible first | exact HB.out | apply below_alloc | apply pw_below_drewN | apply below_drew1 | refine below_set ?_ GE117.out) | exact HB.out)))); have n1_ := Aside0.mk (blk_below (g := gb117) (o := .cells #[.bool x118000_1, .bool x118001_1, .int .i64 x118002_1] 24 (0, 0)) (by (with_reducible repeat (first | refine blk_drewN ?_ _ | refine blk_drew ?_ | refine blk_alloc ?_ _)); exact BK117.out) hb); have n2_ := Aside0.mk (below_step (by repeat (first | (with_reducible first | exact HB.out | apply below_alloc | apply pw_below_drewN | apply below_drew1 | refine below_set ?_ GE117.out) | exact HB.out)) hb); clear BK117; clear HB; have HO123 := n0_; have BK117 := n1_; have HB := n2_; clear n0_ n1_ n2_; clear hb ho16; have p124 : 0 ≤ (x7_1 : Int) := of_decide_eq_true (by first | (with_reducible assumption) | assumption); have q124 : x7_1 < (l0.length : Int) := of_decide_eq_true (by first | (with_reducible assumption) | assumption); obtain ⟨ad124, e124, hx124_0, hx124_1, hx124_2, hx124_3, hx124_4⟩ := at_T26 HR0.out x7_1 p124 q124; obtain rfl : ad119 = ad124 := (by injection e124); replace hx124_0 := (HB.out.cell (World.block_lt_of_cell? w _ hx124_0)).trans hx124_0; replace hx124_1 := (HB.out.cell (World.block_lt_of_cell? w _ hx124_1)).trans hx124_1; replace hx124_2 := (HB.out.cell (World.block_lt_of_cell? w _ hx124_2)).trans hx124_2; replace hx124_3 := (HB.out.cell (World.block_lt_of_cell? w _ hx124_3)).trans hx124_3; replace hx124_4 := (HB.out.cell (World.block_lt_of_cell? w _ hx124_4)).trans hx124_4; replace p124 := eq_true p124; replace q124 := eq_true q124) | ((with_reducible refine gate_callee (f := 16) rfl ?_); refine goesL_ (some 37) rfl rfl Try.func16 (by kernel_rfl) rfl #[.int .i64 ((rd_T26 l0 x7_1).f1), .int .i64 3] rfl (by (try simp only [List.map_toArray, List.map_cons, List.map_nil]); first | done | rfl | (simp only [List.length_drop, List.length_take]; rfl)) ?_; (with_reducible refine (gimballaw0_Within.calls ((rd_T26 l0 x7_1).f1) 3 t125 _ A10.out).mono ?_); rintro e w' ⟨rfl, ⟨nd, rfl⟩⟩; refine ⟨_, rfl, ?_⟩; obtain ⟨Ao17, co17, eo17⟩ := Kd.R_slice HO123.out; subst eo17; have p126 : 0 ≤ (t125 : Int) := of_decide_eq_true (by first | (with_reducible assumption) | assumption); have q126 : t125 < (y121.length : Int) := of_decide_eq_true (by first | (with_reducible assumption) | assumption); obtain ⟨ad126, e126, hx126_0⟩ := Kd.at_int (Kd.R_reads' HO123.out).2.2 t125 p126 q126; cases e126; replace p126 := eq_true p126; replace q126 := eq_true q126; have p127 : 0 ≤ (x7_1 : Int) := of_decide_eq_true (by first | (with_reducible assumption) | assumption); have q127 : x7_1 < (l0.length : Int) := of_decide_eq_true (by first | (with_reducible assumption) | assumption); obtain ⟨ad127, e127, hx127_0, hx127_1, hx127_2, hx127_3, hx127_4⟩ := at_T26 HR0.out x7_1 p127 q127; obtain rfl : ad119 = ad127 := (by injection e127); replace hx127_0 := (HB.out.cell (World.block_lt_of_cell? w _ hx127_0)).trans hx127_0; replace hx127_1 := (HB.out.cell (World.block_lt_of_cell? w _ hx127_1)).trans hx127_1; replace hx127_2 := (HB.out.cell (World.block_lt_of_cell? w _ hx127_2)).trans hx127_2; replace hx127_3 := (HB.out.cell (World.block_lt_of_cell? w _ hx127_3)).trans hx127_3; replace hx127_4 := (HB.out.cell (World.block_lt_of_cell? w _ hx127_4)).trans hx127_4; replace p127 := eq_true p127; replace q127 := eq_true q127) | ((with_reducible refine gate_callee (f := 16) rfl ?_); refine goesL_ (some 45) rfl rfl Try.func16 (by kernel_rfl) rfl #[.int .i64 ((rd_T26 l0 x7_1).f1), .int .i64 7] rfl (by (try simp only [List.map_toArray, List.map_cons, List.map_nil]); first | done | rfl | (simp only [List.length_drop, List.length_take]; rfl)) ?_; (with_reducible refine (gimballaw0_Within.calls ((rd_T26 l0 x7_1).f1) 7 t128 _ A13.out).mono ?_); rintro e w' ⟨rfl, ⟨nd, rfl⟩⟩; refine ⟨_, rfl, ?_⟩))
                    (try simp only [Act.put, List.setIfInBounds_toArray, List.set_cons_zero, List.set_cons_succ])
                    go_cut [8] (fun v8 wc => ∃ (kq : Nat) (x8_13 : Int), v8 = .int .i64 x8_13 ∧ Aside0 (gimballaw20_FallOnce.j2 kq l0 (wrap64 (x4_1 + t120)) x5_1 x6_1 x7_1 x8_13 x118000_1 x118001_1 x118002_1 = some r) ∧ Aside0 (kq ≤ kj3) ∧ Aside0 (wc.heap[gb117]? = some (.cells #[.bool x118000_1, .bool x118001_1, .int .i64 x118002_1] 24 (0, 0))) ∧ Aside0 (Below w.heap.size w wc))
                    case first =>
                      have H := HC14.out
                      clear HC14
                      by_cases c18 : t128 > 1
                      · rw [if_pos c18] at H
                        have c18b0 : decide (1 < t128) = true := decide_eq_true c18
                        clear c18
                        (first | rw [c18b0] | (simp only [i64_w, i32_w]; rw [c18b0]) | skip)
                        have H' := Aside0.mk H
                        clear H
                        go_wp2
                        go_meet
                        case rel => exact ⟨_, (0), (by first | rfl | (simp; done) | (simp [*]; done)), H', ⟨by have := HK1.out; have := HJ3.out; first | omega | exact Nat.le_refl _⟩, ⟨by (with_reducible repeat (first | refine blk_drewN ?_ _ | refine blk_drew ?_ | refine blk_alloc ?_ _)); exact BK117.out⟩, ⟨by repeat (first | (with_reducible first | exact HB.out | apply below_alloc | apply pw_below_drewN | apply below_drew1 | refine below_set ?_ GE117.out) | exact HB.out)⟩⟩
                      · rw [if_neg c18] at H
                        have c18b0 : decide (1 < t128) = false := decide_eq_false c18
                        clear c18
                        (first | rw [c18b0] | (simp only [i64_w, i32_w]; rw [c18b0]) | skip)
                        have H' := Aside0.mk H
                        clear H
                        go_wp2
                        go_meet
                        case rel => exact ⟨_, (rd y121 t125), (by first | rfl | (simp; done) | (simp [*]; done)), H', ⟨by have := HK1.out; have := HJ3.out; first | omega | exact Nat.le_refl _⟩, ⟨by (with_reducible repeat (first | refine blk_drewN ?_ _ | refine blk_drew ?_ | refine blk_alloc ?_ _)); exact BK117.out⟩, ⟨by repeat (first | (with_reducible first | exact HB.out | apply below_alloc | apply pw_below_drewN | apply below_drew1 | refine below_set ?_ GE117.out) | exact HB.out)⟩⟩
                    case rest =>
                      clear HC14
                      try clear c1
                      try clear p1
                      try clear q1
                      try clear hx1
                      try clear p2
                      try clear c4
                      try clear c5
                      try clear c5b0
                      try clear c6
                      try clear p6
                      try clear c7
                      try clear c7b0
                      try clear c8
                      try clear c8b0
                      try clear c11
                      try clear c11b0
                      try clear p11
                      try clear q11
                      try clear hx11
                      try clear c12
                      try clear c12b0
                      try clear p12
                      try clear q12
                      try clear hx12
                      try clear c16
                      try clear c18
                      try clear c18b0
                      try clear hcz3_0
                      try clear hcz3_1
                      try clear hcz3_2
                      try clear hfz3_0
                      try clear hfz3_1
                      try clear hfz3_2
                      try clear hx119_0
                      try clear hx119_1
                      try clear hx119_2
                      try clear hx119_3
                      try clear hx119_4
                      try clear hx124_0
                      try clear hx124_1
                      try clear hx124_2
                      try clear hx124_3
                      try clear hx124_4
                      try clear hx126_0
                      try clear hx127_0
                      try clear hx127_1
                      try clear hx127_2
                      try clear hx127_3
                      try clear hx127_4
                      try clear p119
                      try clear p124
                      try clear p126
                      try clear p127
                      try clear p2
                      try clear q119
                      try clear q124
                      try clear q126
                      try clear q127
                      obtain ⟨kq, x8_13, rfl, HA, HJ13, BK117, HB⟩ := hcut
                      cases kq with
                      | zero => exact absurd HA.out (by simp [gimballaw20_FallOnce.j2])
                      | succ kj13 =>
                        have H := HA.out
                        clear HA
                        simp only [gimballaw20_FallOnce.j2] at H
                        replace H := Option.bind_eq_some_iff.mp H
                        obtain ⟨⟨t129, t130, t131, t132, t133⟩, A190, H⟩ := H
                        replace H : ((gimballaw20_num.f t133).bind fun t135 => (if t135 = 0 then (if x8_13 = 0 then (if x5_1 ≥ 0 then (if x6_1 = true then (gimballaw20_FallOnce.j3 kj13 l0 (wrap64 (x4_1 + t120)) x5_1 x6_1 x7_1 x8_13 t132 (t132 != false) t129 t130 t131) else (gimballaw20_FallOnce.j3 kj13 l0 (wrap64 (x4_1 + t120)) x5_1 x6_1 x7_1 x8_13 t132 (t132 != (decide ((wrap64 ((wrap64 (x4_1 + t120)) - x5_1)) ≥ 100))) t129 t130 t131)) else (gimballaw20_FallOnce.j3 kj13 l0 (wrap64 (x4_1 + t120)) x5_1 x6_1 x7_1 x8_13 t132 (t132 != false) t129 t130 t131)) else (gimballaw20_FallOnce.j3 kj13 l0 (wrap64 (x4_1 + t120)) x5_1 x6_1 x7_1 x8_13 t132 (t132 != false) t129 t130 t131)) else (gimballaw20_FallOnce.j3 kj13 l0 (wrap64 (x4_1 + t120)) x5_1 x6_1 x7_1 x8_13 t132 true t129 t130 t131))) = some r := H
                        have A19 := Aside0.mk A190
                        clear A190
                        have HC20 := Aside0.mk H
                        clear H
                        have hcz21_0 : wc.cell? ⟨gb117, 0, none⟩ = some (.bool x118000_1) := (blk_cell BK117.out 0).trans rfl
                        have hcz21_1 : wc.cell? ⟨gb117, 1, none⟩ = some (.bool x118001_1) := (blk_cell BK117.out 1).trans rfl
                        have hcz21_2 : wc.cell? ⟨gb117, 2, none⟩ = some (.int .i64 x118002_1) := (blk_cell BK117.out 2).trans rfl
                        have hfz21_0 := blk_frozen BK117.out 0
                        have hfz21_1 := blk_frozen BK117.out 1
                        have hfz21_2 := blk_frozen BK117.out 2
                        go_upto_region 13 with (first | ((with_reducible refine gate_callee (f := 13) rfl ?_); refine goesL_ (some 51) rfl rfl Try.func13 (by kernel_rfl) rfl #[.agg #[.bool x118000_1, .bool x118001_1, .int .i64 x118002_1], .int .i64 x8_13, .int .i64 (wrap64 (x4_1 + t120))] rfl (by (try simp only [List.map_toArray, List.map_cons, List.map_nil]); first | done | rfl | (simp only [List.length_drop, List.length_take]; rfl)) ?_; (with_reducible refine (fall_Take.calls kj13 x118000_1 x118001_1 x118002_1 x8_13 (wrap64 (x4_1 + t120)) t129 t130 t131 t132 t133 _ A19.out).mono ?_); rintro e w22 ⟨rfl, hb⟩; refine ⟨_, rfl, ?_⟩; have n0_ := Aside0.mk (blk_below (g := gb117) (o := .cells #[.bool x118000_1, .bool x118001_1, .int .i64 x118002_1] 24 (0, 0)) (by (with_reducible repeat (first | refine blk_drewN ?_ _ | refine blk_drew ?_ | refine blk_alloc ?_ _)); exact BK117.out) hb); have n1_ := Aside0.mk (below_step (by repeat (first | (with_reducible first | exact HB.out | apply below_alloc | apply pw_below_drewN | apply below_drew1 | refine below_set ?_ GE117.out) | exact HB.out)) hb); clear BK117; clear HB; have BK117 := n0_; have HB := n1_; clear n0_ n1_; (try clear hb); (try clear hb2); (try clear hk); (try clear hi)) | ((with_reducible refine gate_dst (N := 9) rfl ?_); refine box_event ?hg (N := 9) ?hd (cs := #[.bool false, .bool false, .int .i64 0]) (t := 24) ?hr ?_; (case hd => rfl); (case hg => rfl); (case hr => first | (go_simp; done) | (go_simp; rfl)); intro gb134 hg w23 hbox hb; have n0_ := Aside0.mk (blk_below (g := gb117) (o := .cells #[.bool x118000_1, .bool x118001_1, .int .i64 x118002_1] 24 (0, 0)) (by (with_reducible repeat (first | refine blk_drewN ?_ _ | refine blk_drew ?_ | refine blk_alloc ?_ _)); exact BK117.out) hb); have n1_ := Aside0.mk (below_step (by repeat (first | (with_reducible first | exact HB.out | apply below_alloc | apply pw_below_drewN | apply below_drew1 | refine below_set ?_ GE117.out) | exact HB.out)) hb); have n2_ := Aside0.mk (hbox); have n3_ := Aside0.mk ((by rw [hg]; exact (below_size (by repeat (first | (with_reducible first | exact HB.out | apply below_alloc | apply pw_below_drewN | apply below_drew1 | refine below_set ?_ GE117.out) | exact HB.out))) : w.heap.size ≤ gb134)); have n4_ := Aside0.mk ((by rw [hg]; exact (below_size (by repeat (first | (with_reducible first | exact HB.out | apply below_alloc | apply pw_below_drewN | apply below_drew1 | refine below_set ?_ GE117.out) | exact HB.out))) : w.heap.size ≤ gb134)); have n5_ := Aside0.mk ((by rw [hg]; exact Nat.ne_of_lt (blk_lt (g := gb117) (o := .cells #[.bool x118000_1, .bool x118001_1, .int .i64 x118002_1] 24 (0, 0)) (by (with_reducible repeat (first | refine blk_drewN ?_ _ | refine blk_drew ?_ | refine blk_alloc ?_ _)); exact BK117.out)) : gb117 ≠ gb134)); have n6_ := Aside0.mk ((by rw [hg]; exact Nat.ne_of_gt (blk_lt (g := gb117) (o := .cells #[.bool x118000_1, .bool x118001_1, .int .i64 x118002_1] 24 (0, 0)) (by (with_reducible repeat (first | refine blk_drewN ?_ _ | refine blk_drew ?_ | refine blk_alloc ?_ _)); exact BK117.out)) : gb134 ≠ gb117)); clear BK117; clear HB; have BK117 := n0_; have HB := n1_; have BK134 := n2_; have GW134 := n3_; have GE134 := n4_; have NB117_134 := n5_; have NB134_117 := n6_; clear n0_ n1_ n2_ n3_ n4_ n5_ n6_; clear hb hbox hg; have hnb24 := NB134_117.out; have hnc24 := NB117_134.out; have hcz25_0 : w23.cell? ⟨gb134, 0, none⟩ = some (.bool false) := (blk_cell BK134.out 0).trans rfl; have hcz25_1 : w23.cell? ⟨gb134, 1, none⟩ = some (.bool false) := (blk_cell BK134.out 1).trans rfl; have hcz25_2 : w23.cell? ⟨gb134, 2, none⟩ = some (.int .i64 0) := (blk_cell BK134.out 2).trans rfl; have hfz25_0 := blk_frozen BK134.out 0; have hfz25_1 := blk_frozen BK134.out 1; have hfz25_2 := blk_frozen BK134.out 2))
                        (try simp only [Act.put, List.setIfInBounds_toArray, List.set_cons_zero, List.set_cons_succ])
                        go_cut [77] (fun v77 wc => ∃ (kq : Nat) (x77_19 : Bool), v77 = .bool x77_19 ∧ Aside0 (gimballaw20_FallOnce.j3 kq l0 (wrap64 (x4_1 + t120)) x5_1 x6_1 x7_1 x8_13 t132 x77_19 t129 t130 t131 = some r) ∧ Aside0 (kq ≤ kj13) ∧ Aside0 (wc.heap[gb117]? = some (.cells #[.bool x118000_1, .bool x118001_1, .int .i64 x118002_1] 24 (0, 0))) ∧ Aside0 (wc.heap[gb134]? = some (.cells #[.bool t129, .bool t130, .int .i64 t131] 24 (0, 0))) ∧ Aside0 (Below w.heap.size w wc))
                        case first =>
                          have H := HC20.out
                          clear HC20
                          replace H := Option.bind_eq_some_iff.mp H
                          obtain ⟨t135, A260, H⟩ := H
                          replace H : (if t135 = 0 then (if x8_13 = 0 then (if x5_1 ≥ 0 then (if x6_1 = true then (gimballaw20_FallOnce.j3 kj13 l0 (wrap64 (x4_1 + t120)) x5_1 x6_1 x7_1 x8_13 t132 (t132 != false) t129 t130 t131) else (gimballaw20_FallOnce.j3 kj13 l0 (wrap64 (x4_1 + t120)) x5_1 x6_1 x7_1 x8_13 t132 (t132 != (decide ((wrap64 ((wrap64 (x4_1 + t120)) - x5_1)) ≥ 100))) t129 t130 t131)) else (gimballaw20_FallOnce.j3 kj13 l0 (wrap64 (x4_1 + t120)) x5_1 x6_1 x7_1 x8_13 t132 (t132 != false) t129 t130 t131)) else (gimballaw20_FallOnce.j3 kj13 l0 (wrap64 (x4_1 + t120)) x5_1 x6_1 x7_1 x8_13 t132 (t132 != false) t129 t130 t131)) else (gimballaw20_FallOnce.j3 kj13 l0 (wrap64 (x4_1 + t120)) x5_1 x6_1 x7_1 x8_13 t132 true t129 t130 t131)) = some r := H
                          have A26 := Aside0.mk A260
                          clear A260
                          by_cases c27 : t135 = 0
                          · rw [if_pos c27] at H
                            have c27b0 : (t135 == 0) = true := beq_iff_eq.mpr c27
                            have c27b1 : (t135 != 0) = false := bne_eq_false_iff_eq.mpr c27
                            clear c27
                            (first | rw [c27b0] | (simp only [i64_w, i32_w]; rw [c27b0]) | skip)
                            by_cases c28 : x8_13 = 0
                            · rw [if_pos c28] at H
                              have c28b0 : (x8_13 == 0) = true := beq_iff_eq.mpr c28
                              have c28b1 : (x8_13 != 0) = false := bne_eq_false_iff_eq.mpr c28
                              clear c28
                              by_cases c29 : x5_1 ≥ 0
                              · rw [if_pos c29] at H
                                have c29b0 : decide (0 ≤ x5_1) = true := decide_eq_true c29
                                clear c29
                                by_cases c30 : x6_1 = true
                                · subst c30
                                  have H1 : (gimballaw20_FallOnce.j3 kj13 l0 (wrap64 (x4_1 + t120)) x5_1 true x7_1 x8_13 t132 (t132 != false) t129 t130 t131) = some r := by rw [if_pos rfl] at H; exact H
                                  clear H
                                  have H := H1
                                  clear H1
                                  have H' := Aside0.mk H
                                  clear H
                                  go_wp2_with (first | ((with_reducible refine gate_callee (f := 14) rfl ?_); refine goesL_ (some 56) rfl rfl Try.func14 (by kernel_rfl) rfl #[.int .i64 t133] rfl (by (try simp only [List.map_toArray, List.map_cons, List.map_nil]); first | done | rfl | (simp only [List.length_drop, List.length_take]; rfl)) ?_; (with_reducible refine (gimballaw20_num.calls t133 t135 _ A26.out).mono ?_); rintro e w' ⟨rfl, ⟨nd, rfl⟩⟩; refine ⟨_, rfl, ?_⟩))
                                  go_meet
                                  case rel => exact ⟨_, ((t132 != false)), (by first | rfl | (simp; done) | (simp [*]; done)), H', ⟨by have := HK1.out; have := HJ3.out; have := HJ13.out; first | omega | exact Nat.le_refl _⟩, ⟨by (with_reducible repeat (first | refine blk_drewN ?_ _ | refine blk_drew ?_ | refine blk_alloc ?_ _)); refine blk_far ?_ NB117_134.out _; (with_reducible repeat (first | refine blk_drewN ?_ _ | refine blk_drew ?_ | refine blk_alloc ?_ _)); refine blk_far ?_ NB117_134.out _; (with_reducible repeat (first | refine blk_drewN ?_ _ | refine blk_drew ?_ | refine blk_alloc ?_ _)); refine blk_far ?_ NB117_134.out _; (with_reducible repeat (first | refine blk_drewN ?_ _ | refine blk_drew ?_ | refine blk_alloc ?_ _)); exact BK117.out⟩, ⟨by (with_reducible repeat (first | refine blk_drewN ?_ _ | refine blk_drew ?_ | refine blk_alloc ?_ _)); refine blk_put (cs := #[.bool t129, .bool t130, .int .i64 0]) ?_ 2 _ rfl; (with_reducible repeat (first | refine blk_drewN ?_ _ | refine blk_drew ?_ | refine blk_alloc ?_ _)); refine blk_put (cs := #[.bool t129, .bool false, .int .i64 0]) ?_ 1 _ rfl; (with_reducible repeat (first | refine blk_drewN ?_ _ | refine blk_drew ?_ | refine blk_alloc ?_ _)); refine blk_put (cs := #[.bool false, .bool false, .int .i64 0]) ?_ 0 _ rfl; (with_reducible repeat (first | refine blk_drewN ?_ _ | refine blk_drew ?_ | refine blk_alloc ?_ _)); exact BK134.out⟩, ⟨by repeat (first | (with_reducible first | exact HB.out | apply below_alloc | apply pw_below_drewN | apply below_drew1 | refine below_set ?_ GE117.out | refine below_set ?_ GE134.out) | exact HB.out)⟩⟩
                                · replace c30 := Bool.eq_false_iff.mpr c30
                                  subst c30
                                  have H1 : (gimballaw20_FallOnce.j3 kj13 l0 (wrap64 (x4_1 + t120)) x5_1 false x7_1 x8_13 t132 (t132 != (decide ((wrap64 ((wrap64 (x4_1 + t120)) - x5_1)) ≥ 100))) t129 t130 t131) = some r := by rw [if_neg (show ¬ (false = true) by decide)] at H; exact H
                                  clear H
                                  have H := H1
                                  clear H1
                                  have H' := Aside0.mk H
                                  clear H
                                  go_wp2_with (first | ((with_reducible refine gate_callee (f := 14) rfl ?_); refine goesL_ (some 56) rfl rfl Try.func14 (by kernel_rfl) rfl #[.int .i64 t133] rfl (by (try simp only [List.map_toArray, List.map_cons, List.map_nil]); first | done | rfl | (simp only [List.length_drop, List.length_take]; rfl)) ?_; (with_reducible refine (gimballaw20_num.calls t133 t135 _ A26.out).mono ?_); rintro e w' ⟨rfl, ⟨nd, rfl⟩⟩; refine ⟨_, rfl, ?_⟩))
                                  go_meet
                                  case rel => exact ⟨_, ((t132 != (decide ((wrap64 ((wrap64 (x4_1 + t120)) - x5_1)) ≥ 100)))), (by first | rfl | (simp; done) | (simp [*]; done)), H', ⟨by have := HK1.out; have := HJ3.out; have := HJ13.out; first | omega | exact Nat.le_refl _⟩, ⟨by (with_reducible repeat (first | refine blk_drewN ?_ _ | refine blk_drew ?_ | refine blk_alloc ?_ _)); refine blk_far ?_ NB117_134.out _; (with_reducible repeat (first | refine blk_drewN ?_ _ | refine blk_drew ?_ | refine blk_alloc ?_ _)); refine blk_far ?_ NB117_134.out _; (with_reducible repeat (first | refine blk_drewN ?_ _ | refine blk_drew ?_ | refine blk_alloc ?_ _)); refine blk_far ?_ NB117_134.out _; (with_reducible repeat (first | refine blk_drewN ?_ _ | refine blk_drew ?_ | refine blk_alloc ?_ _)); exact BK117.out⟩, ⟨by (with_reducible repeat (first | refine blk_drewN ?_ _ | refine blk_drew ?_ | refine blk_alloc ?_ _)); refine blk_put (cs := #[.bool t129, .bool t130, .int .i64 0]) ?_ 2 _ rfl; (with_reducible repeat (first | refine blk_drewN ?_ _ | refine blk_drew ?_ | refine blk_alloc ?_ _)); refine blk_put (cs := #[.bool t129, .bool false, .int .i64 0]) ?_ 1 _ rfl; (with_reducible repeat (first | refine blk_drewN ?_ _ | refine blk_drew ?_ | refine blk_alloc ?_ _)); refine blk_put (cs := #[.bool false, .bool false, .int .i64 0]) ?_ 0 _ rfl; (with_reducible repeat (first | refine blk_drewN ?_ _ | refine blk_drew ?_ | refine blk_alloc ?_ _)); exact BK134.out⟩, ⟨by repeat (first | (with_reducible first | exact HB.out | apply below_alloc | apply pw_below_drewN | apply below_drew1 | refine below_set ?_ GE117.out | refine below_set ?_ GE134.out) | exact HB.out)⟩⟩
                              · rw [if_neg c29] at H
                                have c29b0 : decide (0 ≤ x5_1) = false := decide_eq_false c29
                                clear c29
                                have H' := Aside0.mk H
                                clear H
                                go_wp2_with (first | ((with_reducible refine gate_callee (f := 14) rfl ?_); refine goesL_ (some 56) rfl rfl Try.func14 (by kernel_rfl) rfl #[.int .i64 t133] rfl (by (try simp only [List.map_toArray, List.map_cons, List.map_nil]); first | done | rfl | (simp only [List.length_drop, List.length_take]; rfl)) ?_; (with_reducible refine (gimballaw20_num.calls t133 t135 _ A26.out).mono ?_); rintro e w' ⟨rfl, ⟨nd, rfl⟩⟩; refine ⟨_, rfl, ?_⟩))
                                go_meet
                                case rel => exact ⟨_, ((t132 != false)), (by first | rfl | (simp; done) | (simp [*]; done)), H', ⟨by have := HK1.out; have := HJ3.out; have := HJ13.out; first | omega | exact Nat.le_refl _⟩, ⟨by (with_reducible repeat (first | refine blk_drewN ?_ _ | refine blk_drew ?_ | refine blk_alloc ?_ _)); refine blk_far ?_ NB117_134.out _; (with_reducible repeat (first | refine blk_drewN ?_ _ | refine blk_drew ?_ | refine blk_alloc ?_ _)); refine blk_far ?_ NB117_134.out _; (with_reducible repeat (first | refine blk_drewN ?_ _ | refine blk_drew ?_ | refine blk_alloc ?_ _)); refine blk_far ?_ NB117_134.out _; (with_reducible repeat (first | refine blk_drewN ?_ _ | refine blk_drew ?_ | refine blk_alloc ?_ _)); exact BK117.out⟩, ⟨by (with_reducible repeat (first | refine blk_drewN ?_ _ | refine blk_drew ?_ | refine blk_alloc ?_ _)); refine blk_put (cs := #[.bool t129, .bool t130, .int .i64 0]) ?_ 2 _ rfl; (with_reducible repeat (first | refine blk_drewN ?_ _ | refine blk_drew ?_ | refine blk_alloc ?_ _)); refine blk_put (cs := #[.bool t129, .bool false, .int .i64 0]) ?_ 1 _ rfl; (with_reducible repeat (first | refine blk_drewN ?_ _ | refine blk_drew ?_ | refine blk_alloc ?_ _)); refine blk_put (cs := #[.bool false, .bool false, .int .i64 0]) ?_ 0 _ rfl; (with_reducible repeat (first | refine blk_drewN ?_ _ | refine blk_drew ?_ | refine blk_alloc ?_ _)); exact BK134.out⟩, ⟨by repeat (first | (with_reducible first | exact HB.out | apply below_alloc | apply pw_below_drewN | apply below_drew1 | refine below_set ?_ GE117.out | refine below_set ?_ GE134.out) | exact HB.out)⟩⟩
                            · rw [if_neg c28] at H
                              have c28b0 : (x8_13 == 0) = false := beq_eq_false_iff_ne.mpr c28
                              have c28b1 : (x8_13 != 0) = true := bne_iff_ne.mpr c28
                              have H' := Aside0.mk H
                              clear H
                              go_wp2_with (first | ((with_reducible refine gate_callee (f := 14) rfl ?_); refine goesL_ (some 56) rfl rfl Try.func14 (by kernel_rfl) rfl #[.int .i64 t133] rfl (by (try simp only [List.map_toArray, List.map_cons, List.map_nil]); first | done | rfl | (simp only [List.length_drop, List.length_take]; rfl)) ?_; (with_reducible refine (gimballaw20_num.calls t133 t135 _ A26.out).mono ?_); rintro e w' ⟨rfl, ⟨nd, rfl⟩⟩; refine ⟨_, rfl, ?_⟩))
                              go_meet
                              case rel => exact ⟨_, ((t132 != false)), (by first | rfl | (simp; done) | (simp [*]; done)), H', ⟨by have := HK1.out; have := HJ3.out; have := HJ13.out; first | omega | exact Nat.le_refl _⟩, ⟨by (with_reducible repeat (first | refine blk_drewN ?_ _ | refine blk_drew ?_ | refine blk_alloc ?_ _)); refine blk_far ?_ NB117_134.out _; (with_reducible repeat (first | refine blk_drewN ?_ _ | refine blk_drew ?_ | refine blk_alloc ?_ _)); refine blk_far ?_ NB117_134.out _; (with_reducible repeat (first | refine blk_drewN ?_ _ | refine blk_drew ?_ | refine blk_alloc ?_ _)); refine blk_far ?_ NB117_134.out _; (with_reducible repeat (first | refine blk_drewN ?_ _ | refine blk_drew ?_ | refine blk_alloc ?_ _)); exact BK117.out⟩, ⟨by (with_reducible repeat (first | refine blk_drewN ?_ _ | refine blk_drew ?_ | refine blk_alloc ?_ _)); refine blk_put (cs := #[.bool t129, .bool t130, .int .i64 0]) ?_ 2 _ rfl; (with_reducible repeat (first | refine blk_drewN ?_ _ | refine blk_drew ?_ | refine blk_alloc ?_ _)); refine blk_put (cs := #[.bool t129, .bool false, .int .i64 0]) ?_ 1 _ rfl; (with_reducible repeat (first | refine blk_drewN ?_ _ | refine blk_drew ?_ | refine blk_alloc ?_ _)); refine blk_put (cs := #[.bool false, .bool false, .int .i64 0]) ?_ 0 _ rfl; (with_reducible repeat (first | refine blk_drewN ?_ _ | refine blk_drew ?_ | refine blk_alloc ?_ _)); exact BK134.out⟩, ⟨by repeat (first | (with_reducible first | exact HB.out | apply below_alloc | apply pw_below_drewN | apply below_drew1 | refine below_set ?_ GE117.out | refine below_set ?_ GE134.out) | exact HB.out)⟩⟩
                          · rw [if_neg c27] at H
                            have c27b0 : (t135 == 0) = false := beq_eq_false_iff_ne.mpr c27
                            have c27b1 : (t135 != 0) = true := bne_iff_ne.mpr c27
                            (first | rw [c27b0] | (simp only [i64_w, i32_w]; rw [c27b0]) | skip)
                            have H' := Aside0.mk H
                            clear H
                            go_wp2_with (first | ((with_reducible refine gate_callee (f := 14) rfl ?_); refine goesL_ (some 56) rfl rfl Try.func14 (by kernel_rfl) rfl #[.int .i64 t133] rfl (by (try simp only [List.map_toArray, List.map_cons, List.map_nil]); first | done | rfl | (simp only [List.length_drop, List.length_take]; rfl)) ?_; (with_reducible refine (gimballaw20_num.calls t133 t135 _ A26.out).mono ?_); rintro e w' ⟨rfl, ⟨nd, rfl⟩⟩; refine ⟨_, rfl, ?_⟩))
                            go_meet
                            case rel => exact ⟨_, (true), (by first | rfl | (simp; done) | (simp [*]; done)), H', ⟨by have := HK1.out; have := HJ3.out; have := HJ13.out; first | omega | exact Nat.le_refl _⟩, ⟨by (with_reducible repeat (first | refine blk_drewN ?_ _ | refine blk_drew ?_ | refine blk_alloc ?_ _)); refine blk_far ?_ NB117_134.out _; (with_reducible repeat (first | refine blk_drewN ?_ _ | refine blk_drew ?_ | refine blk_alloc ?_ _)); refine blk_far ?_ NB117_134.out _; (with_reducible repeat (first | refine blk_drewN ?_ _ | refine blk_drew ?_ | refine blk_alloc ?_ _)); refine blk_far ?_ NB117_134.out _; (with_reducible repeat (first | refine blk_drewN ?_ _ | refine blk_drew ?_ | refine blk_alloc ?_ _)); exact BK117.out⟩, ⟨by (with_reducible repeat (first | refine blk_drewN ?_ _ | refine blk_drew ?_ | refine blk_alloc ?_ _)); refine blk_put (cs := #[.bool t129, .bool t130, .int .i64 0]) ?_ 2 _ rfl; (with_reducible repeat (first | refine blk_drewN ?_ _ | refine blk_drew ?_ | refine blk_alloc ?_ _)); refine blk_put (cs := #[.bool t129, .bool false, .int .i64 0]) ?_ 1 _ rfl; (with_reducible repeat (first | refine blk_drewN ?_ _ | refine blk_drew ?_ | refine blk_alloc ?_ _)); refine blk_put (cs := #[.bool false, .bool false, .int .i64 0]) ?_ 0 _ rfl; (with_reducible repeat (first | refine blk_drewN ?_ _ | refine blk_drew ?_ | refine blk_alloc ?_ _)); exact BK134.out⟩, ⟨by repeat (first | (with_reducible first | exact HB.out | apply below_alloc | apply pw_below_drewN | apply below_drew1 | refine below_set ?_ GE117.out | refine below_set ?_ GE134.out) | exact HB.out)⟩⟩
                        case rest =>
                          clear HC20
                          try clear c1
                          try clear p1
                          try clear q1
                          try clear hx1
                          try clear c2
                          try clear p2
                          try clear c3
                          try clear c4
                          try clear c5
                          try clear c5b0
                          try clear c6
                          try clear p6
                          try clear c7
                          try clear c7b0
                          try clear c8
                          try clear c8b0
                          try clear c11
                          try clear c11b0
                          try clear p11
                          try clear q11
                          try clear hx11
                          try clear c12
                          try clear c12b0
                          try clear p12
                          try clear q12
                          try clear hx12
                          try clear c13
                          try clear c14
                          try clear c16
                          try clear c18
                          try clear c18b0
                          try clear c24
                          try clear c27
                          try clear c27b0
                          try clear c27b1
                          try clear c28
                          try clear c28b0
                          try clear c28b1
                          try clear c29
                          try clear c29b0
                          try clear c30
                          try clear hcz21_0
                          try clear hcz21_1
                          try clear hcz21_2
                          try clear hcz25_0
                          try clear hcz25_1
                          try clear hcz25_2
                          try clear hcz3_0
                          try clear hcz3_1
                          try clear hcz3_2
                          try clear hfz21_0
                          try clear hfz21_1
                          try clear hfz21_2
                          try clear hfz25_0
                          try clear hfz25_1
                          try clear hfz25_2
                          try clear hfz3_0
                          try clear hfz3_1
                          try clear hfz3_2
                          try clear hx119_0
                          try clear hx119_1
                          try clear hx119_2
                          try clear hx119_3
                          try clear hx119_4
                          try clear hx124_0
                          try clear hx124_1
                          try clear hx124_2
                          try clear hx124_3
                          try clear hx124_4
                          try clear hx126_0
                          try clear hx127_0
                          try clear hx127_1
                          try clear hx127_2
                          try clear hx127_3
                          try clear hx127_4
                          try clear p1
                          try clear p11
                          try clear p119
                          try clear p12
                          try clear p124
                          try clear p126
                          try clear p127
                          try clear p2
                          try clear p6
                          try clear q1
                          try clear q11
                          try clear q119
                          try clear q12
                          try clear q124
                          try clear q126
                          try clear q127
                          obtain ⟨kq, x77_19, rfl, HA, HJ19, BK117, BK134, HB⟩ := hcut
                          cases kq with
                          | zero => exact absurd HA.out (by simp [gimballaw20_FallOnce.j3])
                          | succ kj19 =>
                            have H := HA.out
                            clear HA
                            simp only [gimballaw20_FallOnce.j3] at H
                            by_cases c31 : x77_19 = true
                            · subst c31
                              have H1 : (some false) = some r := by rw [if_pos rfl] at H; exact H
                              clear H
                              have H := H1
                              clear H1
                              obtain rfl := Option.some.inj H
                              go_wp2
                              go_ret
                              exact ⟨by first | rfl | (simp [errW_none, errW_some] <;> rfl) | (simp [*, errW_none, errW_some] <;> rfl), by repeat (first | (with_reducible first | exact HB.out | apply below_alloc | apply pw_below_drewN | apply below_drew1 | refine below_set ?_ GE117.out | refine below_set ?_ GE134.out) | exact HB.out)⟩
                            · replace c31 := Bool.eq_false_iff.mpr c31
                              subst c31
                              have H1 : (if x8_13 = 9806650 then (gimballaw20_FallOnce.l0 kj19 l0 (wrap64 (x4_1 + t120)) (-1) t132 (wrap64 (x7_1 + 1)) t129 t130 t131) else (if x8_13 = 0 then (if x5_1 < 0 then (if x6_1 = true then (gimballaw20_FallOnce.l0 kj19 l0 (wrap64 (x4_1 + t120)) (wrap64 (x4_1 + t120)) true (wrap64 (x7_1 + 1)) t129 t130 t131) else (gimballaw20_FallOnce.l0 kj19 l0 (wrap64 (x4_1 + t120)) (wrap64 (x4_1 + t120)) t132 (wrap64 (x7_1 + 1)) t129 t130 t131)) else (if x6_1 = true then (gimballaw20_FallOnce.l0 kj19 l0 (wrap64 (x4_1 + t120)) x5_1 true (wrap64 (x7_1 + 1)) t129 t130 t131) else (gimballaw20_FallOnce.l0 kj19 l0 (wrap64 (x4_1 + t120)) x5_1 t132 (wrap64 (x7_1 + 1)) t129 t130 t131))) else (if x6_1 = true then (gimballaw20_FallOnce.l0 kj19 l0 (wrap64 (x4_1 + t120)) x5_1 true (wrap64 (x7_1 + 1)) t129 t130 t131) else (gimballaw20_FallOnce.l0 kj19 l0 (wrap64 (x4_1 + t120)) x5_1 t132 (wrap64 (x7_1 + 1)) t129 t130 t131)))) = some r := by rw [if_neg (show ¬ (false = true) by decide)] at H; exact H
                              clear H
                              have H := H1
                              clear H1
                              by_cases c32 : x8_13 = 9806650
                              · rw [if_pos c32] at H
                                have c32b0 : (x8_13 == 9806650) = true := beq_iff_eq.mpr c32
                                have c32b1 : (x8_13 != 9806650) = false := bne_eq_false_iff_eq.mpr c32
                                clear c32
                                have H' := Aside0.mk H
                                clear H
                                have hnb33 := NB134_117.out
                                have hnc33 := NB117_134.out
                                have hcz34_0 : wc.cell? ⟨gb134, 0, none⟩ = some (.bool t129) := (blk_cell BK134.out 0).trans rfl
                                have hcz34_1 : wc.cell? ⟨gb134, 1, none⟩ = some (.bool t130) := (blk_cell BK134.out 1).trans rfl
                                have hcz34_2 : wc.cell? ⟨gb134, 2, none⟩ = some (.int .i64 t131) := (blk_cell BK134.out 2).trans rfl
                                have hfz34_0 := blk_frozen BK134.out 0
                                have hfz34_1 := blk_frozen BK134.out 1
                                have hfz34_2 := blk_frozen BK134.out 2
                                have hcz35_0 : wc.cell? ⟨gb117, 0, none⟩ = some (.bool x118000_1) := (blk_cell BK117.out 0).trans rfl
                                have hcz35_1 : wc.cell? ⟨gb117, 1, none⟩ = some (.bool x118001_1) := (blk_cell BK117.out 1).trans rfl
                                have hcz35_2 : wc.cell? ⟨gb117, 2, none⟩ = some (.int .i64 x118002_1) := (blk_cell BK117.out 2).trans rfl
                                have hfz35_0 := blk_frozen BK117.out 0
                                have hfz35_1 := blk_frozen BK117.out 1
                                have hfz35_2 := blk_frozen BK117.out 2
                                go_wp2
                                go_roundg kj19
                                case measure => have := HK1.out; have := HJ3.out; have := HJ13.out; have := HJ19.out; omega
                                case rel => exact ⟨((wrap64 (x4_1 + t120))), ((-1)), (t132), (wrap64 (x7_1 + 1)), (t129), (t130), (t131), (by first | rfl | (simp; done) | (simp [*]; done)), (by first | rfl | (simp; done) | (simp [*]; done)), (by first | rfl | (simp; done) | (simp [*]; done)), (by first | rfl | (simp; done) | (simp [*]; done)), H', ⟨by have := HK1.out; have := HJ3.out; have := HJ13.out; have := HJ19.out; omega⟩, ⟨by (with_reducible repeat (first | refine blk_drewN ?_ _ | refine blk_drew ?_ | refine blk_alloc ?_ _)); refine blk_put (cs := #[.bool t129, .bool t130, .int .i64 x118002_1]) ?_ 2 _ rfl; (with_reducible repeat (first | refine blk_drewN ?_ _ | refine blk_drew ?_ | refine blk_alloc ?_ _)); refine blk_put (cs := #[.bool t129, .bool x118001_1, .int .i64 x118002_1]) ?_ 1 _ rfl; (with_reducible repeat (first | refine blk_drewN ?_ _ | refine blk_drew ?_ | refine blk_alloc ?_ _)); refine blk_put (cs := #[.bool x118000_1, .bool x118001_1, .int .i64 x118002_1]) ?_ 0 _ rfl; (with_reducible repeat (first | refine blk_drewN ?_ _ | refine blk_drew ?_ | refine blk_alloc ?_ _)); exact BK117.out⟩, ⟨by repeat (first | (with_reducible first | exact HB.out | apply below_alloc | apply pw_below_drewN | apply below_drew1 | refine below_set ?_ GE117.out | refine below_set ?_ GE134.out) | exact HB.out)⟩⟩
                              · rw [if_neg c32] at H
                                have c32b0 : (x8_13 == 9806650) = false := beq_eq_false_iff_ne.mpr c32
                                have c32b1 : (x8_13 != 9806650) = true := bne_iff_ne.mpr c32
                                by_cases c36 : x8_13 = 0
                                · rw [if_pos c36] at H
                                  have c36b0 : (x8_13 == 0) = true := beq_iff_eq.mpr c36
                                  have c36b1 : (x8_13 != 0) = false := bne_eq_false_iff_eq.mpr c36
                                  clear c36
                                  by_cases c37 : x5_1 < 0
                                  · rw [if_pos c37] at H
                                    have c37b0 : decide (x5_1 < 0) = true := decide_eq_true c37
                                    clear c37
                                    by_cases c38 : x6_1 = true
                                    · subst c38
                                      have H1 : (gimballaw20_FallOnce.l0 kj19 l0 (wrap64 (x4_1 + t120)) (wrap64 (x4_1 + t120)) true (wrap64 (x7_1 + 1)) t129 t130 t131) = some r := by rw [if_pos rfl] at H; exact H
                                      clear H
                                      have H := H1
                                      clear H1
                                      have H' := Aside0.mk H
                                      clear H
                                      have hnb39 := NB134_117.out
                                      have hnc39 := NB117_134.out
                                      have hcz40_0 : wc.cell? ⟨gb134, 0, none⟩ = some (.bool t129) := (blk_cell BK134.out 0).trans rfl
                                      have hcz40_1 : wc.cell? ⟨gb134, 1, none⟩ = some (.bool t130) := (blk_cell BK134.out 1).trans rfl
                                      have hcz40_2 : wc.cell? ⟨gb134, 2, none⟩ = some (.int .i64 t131) := (blk_cell BK134.out 2).trans rfl
                                      have hfz40_0 := blk_frozen BK134.out 0
                                      have hfz40_1 := blk_frozen BK134.out 1
                                      have hfz40_2 := blk_frozen BK134.out 2
                                      have hcz41_0 : wc.cell? ⟨gb117, 0, none⟩ = some (.bool x118000_1) := (blk_cell BK117.out 0).trans rfl
                                      have hcz41_1 : wc.cell? ⟨gb117, 1, none⟩ = some (.bool x118001_1) := (blk_cell BK117.out 1).trans rfl
                                      have hcz41_2 : wc.cell? ⟨gb117, 2, none⟩ = some (.int .i64 x118002_1) := (blk_cell BK117.out 2).trans rfl
                                      have hfz41_0 := blk_frozen BK117.out 0
                                      have hfz41_1 := blk_frozen BK117.out 1
                                      have hfz41_2 := blk_frozen BK117.out 2
                                      go_wp2
                                      go_roundg kj19
                                      case measure => have := HK1.out; have := HJ3.out; have := HJ13.out; have := HJ19.out; omega
                                      case rel => exact ⟨((wrap64 (x4_1 + t120))), ((wrap64 (x4_1 + t120))), (true), (wrap64 (x7_1 + 1)), (t129), (t130), (t131), (by first | rfl | (simp; done) | (simp [*]; done)), (by first | rfl | (simp; done) | (simp [*]; done)), (by first | rfl | (simp; done) | (simp [*]; done)), (by first | rfl | (simp; done) | (simp [*]; done)), H', ⟨by have := HK1.out; have := HJ3.out; have := HJ13.out; have := HJ19.out; omega⟩, ⟨by (with_reducible repeat (first | refine blk_drewN ?_ _ | refine blk_drew ?_ | refine blk_alloc ?_ _)); refine blk_put (cs := #[.bool t129, .bool t130, .int .i64 x118002_1]) ?_ 2 _ rfl; (with_reducible repeat (first | refine blk_drewN ?_ _ | refine blk_drew ?_ | refine blk_alloc ?_ _)); refine blk_put (cs := #[.bool t129, .bool x118001_1, .int .i64 x118002_1]) ?_ 1 _ rfl; (with_reducible repeat (first | refine blk_drewN ?_ _ | refine blk_drew ?_ | refine blk_alloc ?_ _)); refine blk_put (cs := #[.bool x118000_1, .bool x118001_1, .int .i64 x118002_1]) ?_ 0 _ rfl; (with_reducible repeat (first | refine blk_drewN ?_ _ | refine blk_drew ?_ | refine blk_alloc ?_ _)); exact BK117.out⟩, ⟨by repeat (first | (with_reducible first | exact HB.out | apply below_alloc | apply pw_below_drewN | apply below_drew1 | refine below_set ?_ GE117.out | refine below_set ?_ GE134.out) | exact HB.out)⟩⟩
                                    · replace c38 := Bool.eq_false_iff.mpr c38
                                      subst c38
                                      have H1 : (gimballaw20_FallOnce.l0 kj19 l0 (wrap64 (x4_1 + t120)) (wrap64 (x4_1 + t120)) t132 (wrap64 (x7_1 + 1)) t129 t130 t131) = some r := by rw [if_neg (show ¬ (false = true) by decide)] at H; exact H
                                      clear H
                                      have H := H1
                                      clear H1
                                      have H' := Aside0.mk H
                                      clear H
                                      have hnb42 := NB134_117.out
                                      have hnc42 := NB117_134.out
                                      have hcz43_0 : wc.cell? ⟨gb134, 0, none⟩ = some (.bool t129) := (blk_cell BK134.out 0).trans rfl
                                      have hcz43_1 : wc.cell? ⟨gb134, 1, none⟩ = some (.bool t130) := (blk_cell BK134.out 1).trans rfl
                                      have hcz43_2 : wc.cell? ⟨gb134, 2, none⟩ = some (.int .i64 t131) := (blk_cell BK134.out 2).trans rfl
                                      have hfz43_0 := blk_frozen BK134.out 0
                                      have hfz43_1 := blk_frozen BK134.out 1
                                      have hfz43_2 := blk_frozen BK134.out 2
                                      have hcz44_0 : wc.cell? ⟨gb117, 0, none⟩ = some (.bool x118000_1) := (blk_cell BK117.out 0).trans rfl
                                      have hcz44_1 : wc.cell? ⟨gb117, 1, none⟩ = some (.bool x118001_1) := (blk_cell BK117.out 1).trans rfl
                                      have hcz44_2 : wc.cell? ⟨gb117, 2, none⟩ = some (.int .i64 x118002_1) := (blk_cell BK117.out 2).trans rfl
                                      have hfz44_0 := blk_frozen BK117.out 0
                                      have hfz44_1 := blk_frozen BK117.out 1
                                      have hfz44_2 := blk_frozen BK117.out 2
                                      go_wp2
                                      go_roundg kj19
                                      case measure => have := HK1.out; have := HJ3.out; have := HJ13.out; have := HJ19.out; omega
                                      case rel => exact ⟨((wrap64 (x4_1 + t120))), ((wrap64 (x4_1 + t120))), (t132), (wrap64 (x7_1 + 1)), (t129), (t130), (t131), (by first | rfl | (simp; done) | (simp [*]; done)), (by first | rfl | (simp; done) | (simp [*]; done)), (by first | rfl | (simp; done) | (simp [*]; done)), (by first | rfl | (simp; done) | (simp [*]; done)), H', ⟨by have := HK1.out; have := HJ3.out; have := HJ13.out; have := HJ19.out; omega⟩, ⟨by (with_reducible repeat (first | refine blk_drewN ?_ _ | refine blk_drew ?_ | refine blk_alloc ?_ _)); refine blk_put (cs := #[.bool t129, .bool t130, .int .i64 x118002_1]) ?_ 2 _ rfl; (with_reducible repeat (first | refine blk_drewN ?_ _ | refine blk_drew ?_ | refine blk_alloc ?_ _)); refine blk_put (cs := #[.bool t129, .bool x118001_1, .int .i64 x118002_1]) ?_ 1 _ rfl; (with_reducible repeat (first | refine blk_drewN ?_ _ | refine blk_drew ?_ | refine blk_alloc ?_ _)); refine blk_put (cs := #[.bool x118000_1, .bool x118001_1, .int .i64 x118002_1]) ?_ 0 _ rfl; (with_reducible repeat (first | refine blk_drewN ?_ _ | refine blk_drew ?_ | refine blk_alloc ?_ _)); exact BK117.out⟩, ⟨by repeat (first | (with_reducible first | exact HB.out | apply below_alloc | apply pw_below_drewN | apply below_drew1 | refine below_set ?_ GE117.out | refine below_set ?_ GE134.out) | exact HB.out)⟩⟩
                                  · rw [if_neg c37] at H
                                    have c37b0 : decide (x5_1 < 0) = false := decide_eq_false c37
                                    clear c37
                                    by_cases c45 : x6_1 = true
                                    · subst c45
                                      have H1 : (gimballaw20_FallOnce.l0 kj19 l0 (wrap64 (x4_1 + t120)) x5_1 true (wrap64 (x7_1 + 1)) t129 t130 t131) = some r := by rw [if_pos rfl] at H; exact H
                                      clear H
                                      have H := H1
                                      clear H1
                                      have H' := Aside0.mk H
                                      clear H
                                      have hnb46 := NB134_117.out
                                      have hnc46 := NB117_134.out
                                      have hcz47_0 : wc.cell? ⟨gb134, 0, none⟩ = some (.bool t129) := (blk_cell BK134.out 0).trans rfl
                                      have hcz47_1 : wc.cell? ⟨gb134, 1, none⟩ = some (.bool t130) := (blk_cell BK134.out 1).trans rfl
                                      have hcz47_2 : wc.cell? ⟨gb134, 2, none⟩ = some (.int .i64 t131) := (blk_cell BK134.out 2).trans rfl
                                      have hfz47_0 := blk_frozen BK134.out 0
                                      have hfz47_1 := blk_frozen BK134.out 1
                                      have hfz47_2 := blk_frozen BK134.out 2
                                      have hcz48_0 : wc.cell? ⟨gb117, 0, none⟩ = some (.bool x118000_1) := (blk_cell BK117.out 0).trans rfl
                                      have hcz48_1 : wc.cell? ⟨gb117, 1, none⟩ = some (.bool x118001_1) := (blk_cell BK117.out 1).trans rfl
                                      have hcz48_2 : wc.cell? ⟨gb117, 2, none⟩ = some (.int .i64 x118002_1) := (blk_cell BK117.out 2).trans rfl
                                      have hfz48_0 := blk_frozen BK117.out 0
                                      have hfz48_1 := blk_frozen BK117.out 1
                                      have hfz48_2 := blk_frozen BK117.out 2
                                      go_wp2
                                      go_roundg kj19
                                      case measure => have := HK1.out; have := HJ3.out; have := HJ13.out; have := HJ19.out; omega
                                      case rel => exact ⟨((wrap64 (x4_1 + t120))), (x5_1), (true), (wrap64 (x7_1 + 1)), (t129), (t130), (t131), (by first | rfl | (simp; done) | (simp [*]; done)), (by first | rfl | (simp; done) | (simp [*]; done)), (by first | rfl | (simp; done) | (simp [*]; done)), (by first | rfl | (simp; done) | (simp [*]; done)), H', ⟨by have := HK1.out; have := HJ3.out; have := HJ13.out; have := HJ19.out; omega⟩, ⟨by (with_reducible repeat (first | refine blk_drewN ?_ _ | refine blk_drew ?_ | refine blk_alloc ?_ _)); refine blk_put (cs := #[.bool t129, .bool t130, .int .i64 x118002_1]) ?_ 2 _ rfl; (with_reducible repeat (first | refine blk_drewN ?_ _ | refine blk_drew ?_ | refine blk_alloc ?_ _)); refine blk_put (cs := #[.bool t129, .bool x118001_1, .int .i64 x118002_1]) ?_ 1 _ rfl; (with_reducible repeat (first | refine blk_drewN ?_ _ | refine blk_drew ?_ | refine blk_alloc ?_ _)); refine blk_put (cs := #[.bool x118000_1, .bool x118001_1, .int .i64 x118002_1]) ?_ 0 _ rfl; (with_reducible repeat (first | refine blk_drewN ?_ _ | refine blk_drew ?_ | refine blk_alloc ?_ _)); exact BK117.out⟩, ⟨by repeat (first | (with_reducible first | exact HB.out | apply below_alloc | apply pw_below_drewN | apply below_drew1 | refine below_set ?_ GE117.out | refine below_set ?_ GE134.out) | exact HB.out)⟩⟩
                                    · replace c45 := Bool.eq_false_iff.mpr c45
                                      subst c45
                                      have H1 : (gimballaw20_FallOnce.l0 kj19 l0 (wrap64 (x4_1 + t120)) x5_1 t132 (wrap64 (x7_1 + 1)) t129 t130 t131) = some r := by rw [if_neg (show ¬ (false = true) by decide)] at H; exact H
                                      clear H
                                      have H := H1
                                      clear H1
                                      have H' := Aside0.mk H
                                      clear H
                                      have hnb49 := NB134_117.out
                                      have hnc49 := NB117_134.out
                                      have hcz50_0 : wc.cell? ⟨gb134, 0, none⟩ = some (.bool t129) := (blk_cell BK134.out 0).trans rfl
                                      have hcz50_1 : wc.cell? ⟨gb134, 1, none⟩ = some (.bool t130) := (blk_cell BK134.out 1).trans rfl
                                      have hcz50_2 : wc.cell? ⟨gb134, 2, none⟩ = some (.int .i64 t131) := (blk_cell BK134.out 2).trans rfl
                                      have hfz50_0 := blk_frozen BK134.out 0
                                      have hfz50_1 := blk_frozen BK134.out 1
                                      have hfz50_2 := blk_frozen BK134.out 2
                                      have hcz51_0 : wc.cell? ⟨gb117, 0, none⟩ = some (.bool x118000_1) := (blk_cell BK117.out 0).trans rfl
                                      have hcz51_1 : wc.cell? ⟨gb117, 1, none⟩ = some (.bool x118001_1) := (blk_cell BK117.out 1).trans rfl
                                      have hcz51_2 : wc.cell? ⟨gb117, 2, none⟩ = some (.int .i64 x118002_1) := (blk_cell BK117.out 2).trans rfl
                                      have hfz51_0 := blk_frozen BK117.out 0
                                      have hfz51_1 := blk_frozen BK117.out 1
                                      have hfz51_2 := blk_frozen BK117.out 2
                                      go_wp2
                                      go_roundg kj19
                                      case measure => have := HK1.out; have := HJ3.out; have := HJ13.out; have := HJ19.out; omega
                                      case rel => exact ⟨((wrap64 (x4_1 + t120))), (x5_1), (t132), (wrap64 (x7_1 + 1)), (t129), (t130), (t131), (by first | rfl | (simp; done) | (simp [*]; done)), (by first | rfl | (simp; done) | (simp [*]; done)), (by first | rfl | (simp; done) | (simp [*]; done)), (by first | rfl | (simp; done) | (simp [*]; done)), H', ⟨by have := HK1.out; have := HJ3.out; have := HJ13.out; have := HJ19.out; omega⟩, ⟨by (with_reducible repeat (first | refine blk_drewN ?_ _ | refine blk_drew ?_ | refine blk_alloc ?_ _)); refine blk_put (cs := #[.bool t129, .bool t130, .int .i64 x118002_1]) ?_ 2 _ rfl; (with_reducible repeat (first | refine blk_drewN ?_ _ | refine blk_drew ?_ | refine blk_alloc ?_ _)); refine blk_put (cs := #[.bool t129, .bool x118001_1, .int .i64 x118002_1]) ?_ 1 _ rfl; (with_reducible repeat (first | refine blk_drewN ?_ _ | refine blk_drew ?_ | refine blk_alloc ?_ _)); refine blk_put (cs := #[.bool x118000_1, .bool x118001_1, .int .i64 x118002_1]) ?_ 0 _ rfl; (with_reducible repeat (first | refine blk_drewN ?_ _ | refine blk_drew ?_ | refine blk_alloc ?_ _)); exact BK117.out⟩, ⟨by repeat (first | (with_reducible first | exact HB.out | apply below_alloc | apply pw_below_drewN | apply below_drew1 | refine below_set ?_ GE117.out | refine below_set ?_ GE134.out) | exact HB.out)⟩⟩
                                · rw [if_neg c36] at H
                                  have c36b0 : (x8_13 == 0) = false := beq_eq_false_iff_ne.mpr c36
                                  have c36b1 : (x8_13 != 0) = true := bne_iff_ne.mpr c36
                                  by_cases c52 : x6_1 = true
                                  · subst c52
                                    have H1 : (gimballaw20_FallOnce.l0 kj19 l0 (wrap64 (x4_1 + t120)) x5_1 true (wrap64 (x7_1 + 1)) t129 t130 t131) = some r := by rw [if_pos rfl] at H; exact H
                                    clear H
                                    have H := H1
                                    clear H1
                                    have H' := Aside0.mk H
                                    clear H
                                    have hnb53 := NB134_117.out
                                    have hnc53 := NB117_134.out
                                    have hcz54_0 : wc.cell? ⟨gb134, 0, none⟩ = some (.bool t129) := (blk_cell BK134.out 0).trans rfl
                                    have hcz54_1 : wc.cell? ⟨gb134, 1, none⟩ = some (.bool t130) := (blk_cell BK134.out 1).trans rfl
                                    have hcz54_2 : wc.cell? ⟨gb134, 2, none⟩ = some (.int .i64 t131) := (blk_cell BK134.out 2).trans rfl
                                    have hfz54_0 := blk_frozen BK134.out 0
                                    have hfz54_1 := blk_frozen BK134.out 1
                                    have hfz54_2 := blk_frozen BK134.out 2
                                    have hcz55_0 : wc.cell? ⟨gb117, 0, none⟩ = some (.bool x118000_1) := (blk_cell BK117.out 0).trans rfl
                                    have hcz55_1 : wc.cell? ⟨gb117, 1, none⟩ = some (.bool x118001_1) := (blk_cell BK117.out 1).trans rfl
                                    have hcz55_2 : wc.cell? ⟨gb117, 2, none⟩ = some (.int .i64 x118002_1) := (blk_cell BK117.out 2).trans rfl
                                    have hfz55_0 := blk_frozen BK117.out 0
                                    have hfz55_1 := blk_frozen BK117.out 1
                                    have hfz55_2 := blk_frozen BK117.out 2
                                    go_wp2
                                    go_roundg kj19
                                    case measure => have := HK1.out; have := HJ3.out; have := HJ13.out; have := HJ19.out; omega
                                    case rel => exact ⟨((wrap64 (x4_1 + t120))), (x5_1), (true), (wrap64 (x7_1 + 1)), (t129), (t130), (t131), (by first | rfl | (simp; done) | (simp [*]; done)), (by first | rfl | (simp; done) | (simp [*]; done)), (by first | rfl | (simp; done) | (simp [*]; done)), (by first | rfl | (simp; done) | (simp [*]; done)), H', ⟨by have := HK1.out; have := HJ3.out; have := HJ13.out; have := HJ19.out; omega⟩, ⟨by (with_reducible repeat (first | refine blk_drewN ?_ _ | refine blk_drew ?_ | refine blk_alloc ?_ _)); refine blk_put (cs := #[.bool t129, .bool t130, .int .i64 x118002_1]) ?_ 2 _ rfl; (with_reducible repeat (first | refine blk_drewN ?_ _ | refine blk_drew ?_ | refine blk_alloc ?_ _)); refine blk_put (cs := #[.bool t129, .bool x118001_1, .int .i64 x118002_1]) ?_ 1 _ rfl; (with_reducible repeat (first | refine blk_drewN ?_ _ | refine blk_drew ?_ | refine blk_alloc ?_ _)); refine blk_put (cs := #[.bool x118000_1, .bool x118001_1, .int .i64 x118002_1]) ?_ 0 _ rfl; (with_reducible repeat (first | refine blk_drewN ?_ _ | refine blk_drew ?_ | refine blk_alloc ?_ _)); exact BK117.out⟩, ⟨by repeat (first | (with_reducible first | exact HB.out | apply below_alloc | apply pw_below_drewN | apply below_drew1 | refine below_set ?_ GE117.out | refine below_set ?_ GE134.out) | exact HB.out)⟩⟩
                                  · replace c52 := Bool.eq_false_iff.mpr c52
                                    subst c52
                                    have H1 : (gimballaw20_FallOnce.l0 kj19 l0 (wrap64 (x4_1 + t120)) x5_1 t132 (wrap64 (x7_1 + 1)) t129 t130 t131) = some r := by rw [if_neg (show ¬ (false = true) by decide)] at H; exact H
                                    clear H
                                    have H := H1
                                    clear H1
                                    have H' := Aside0.mk H
                                    clear H
                                    have hnb56 := NB134_117.out
                                    have hnc56 := NB117_134.out
                                    have hcz57_0 : wc.cell? ⟨gb134, 0, none⟩ = some (.bool t129) := (blk_cell BK134.out 0).trans rfl
                                    have hcz57_1 : wc.cell? ⟨gb134, 1, none⟩ = some (.bool t130) := (blk_cell BK134.out 1).trans rfl
                                    have hcz57_2 : wc.cell? ⟨gb134, 2, none⟩ = some (.int .i64 t131) := (blk_cell BK134.out 2).trans rfl
                                    have hfz57_0 := blk_frozen BK134.out 0
                                    have hfz57_1 := blk_frozen BK134.out 1
                                    have hfz57_2 := blk_frozen BK134.out 2
                                    have hcz58_0 : wc.cell? ⟨gb117, 0, none⟩ = some (.bool x118000_1) := (blk_cell BK117.out 0).trans rfl
                                    have hcz58_1 : wc.cell? ⟨gb117, 1, none⟩ = some (.bool x118001_1) := (blk_cell BK117.out 1).trans rfl
                                    have hcz58_2 : wc.cell? ⟨gb117, 2, none⟩ = some (.int .i64 x118002_1) := (blk_cell BK117.out 2).trans rfl
                                    have hfz58_0 := blk_frozen BK117.out 0
                                    have hfz58_1 := blk_frozen BK117.out 1
                                    have hfz58_2 := blk_frozen BK117.out 2
                                    go_wp2
                                    go_roundg kj19
                                    case measure => have := HK1.out; have := HJ3.out; have := HJ13.out; have := HJ19.out; omega
                                    case rel => exact ⟨((wrap64 (x4_1 + t120))), (x5_1), (t132), (wrap64 (x7_1 + 1)), (t129), (t130), (t131), (by first | rfl | (simp; done) | (simp [*]; done)), (by first | rfl | (simp; done) | (simp [*]; done)), (by first | rfl | (simp; done) | (simp [*]; done)), (by first | rfl | (simp; done) | (simp [*]; done)), H', ⟨by have := HK1.out; have := HJ3.out; have := HJ13.out; have := HJ19.out; omega⟩, ⟨by (with_reducible repeat (first | refine blk_drewN ?_ _ | refine blk_drew ?_ | refine blk_alloc ?_ _)); refine blk_put (cs := #[.bool t129, .bool t130, .int .i64 x118002_1]) ?_ 2 _ rfl; (with_reducible repeat (first | refine blk_drewN ?_ _ | refine blk_drew ?_ | refine blk_alloc ?_ _)); refine blk_put (cs := #[.bool t129, .bool x118001_1, .int .i64 x118002_1]) ?_ 1 _ rfl; (with_reducible repeat (first | refine blk_drewN ?_ _ | refine blk_drew ?_ | refine blk_alloc ?_ _)); refine blk_put (cs := #[.bool x118000_1, .bool x118001_1, .int .i64 x118002_1]) ?_ 0 _ rfl; (with_reducible repeat (first | refine blk_drewN ?_ _ | refine blk_drew ?_ | refine blk_alloc ?_ _)); exact BK117.out⟩, ⟨by repeat (first | (with_reducible first | exact HB.out | apply below_alloc | apply pw_below_drewN | apply below_drew1 | refine below_set ?_ GE117.out | refine below_set ?_ GE134.out) | exact HB.out)⟩⟩
                  · rw [if_neg c12] at H
                    exact absurd H (by simp)
                · rw [if_neg c11] at H
                  exact absurd H (by simp)
              · rw [if_neg c8] at H
                exact absurd H (by simp)
            · rw [if_neg c7] at H
              exact absurd H (by simp)
          · replace c6 := Bool.eq_false_iff.mpr c6
            subst c6
            have H1 : ((gimballaw20_wakes.f kj3).bind fun t118 => (some t118)) = some r := by rw [if_neg (show ¬ (false = true) by decide)] at H; exact H
            clear H
            have H := H1
            clear H1
            replace H := Option.bind_eq_some_iff.mp H
            obtain ⟨t118, A590, H⟩ := H
            replace H : (some t118) = some r := H
            have A59 := Aside0.mk A590
            clear A590
            obtain rfl := Option.some.inj H
            go_wp2_with (first | ((with_reducible refine gate_callee (f := 15) rfl ?_); refine goesL_ (some 94) rfl rfl Try.func15 (by kernel_rfl) rfl #[] rfl (by (try simp only [List.map_toArray, List.map_cons, List.map_nil]); first | done | rfl | (simp only [List.length_drop, List.length_take]; rfl)) ?_; (with_reducible refine (gimballaw20_wakes.calls kj3  t118 _ A59.out).mono ?_); rintro e w60 ⟨rfl, hb⟩; refine ⟨_, rfl, ?_⟩; have n0_ := Aside0.mk (blk_below (g := gb117) (o := .cells #[.bool x118000_1, .bool x118001_1, .int .i64 x118002_1] 24 (0, 0)) (by (with_reducible repeat (first | refine blk_drewN ?_ _ | refine blk_drew ?_ | refine blk_alloc ?_ _)); exact BK117.out) hb); have n1_ := Aside0.mk (below_step (by repeat (first | (with_reducible first | exact HB.out | apply below_alloc | apply pw_below_drewN | apply below_drew1 | refine below_set ?_ GE117.out) | exact HB.out)) hb); clear BK117; clear HB; have BK117 := n0_; have HB := n1_; clear n0_ n1_; (try clear hb); (try clear hb2); (try clear hk); (try clear hi)))
            go_ret
            exact ⟨by first | rfl | (simp [errW_none, errW_some] <;> rfl) | (simp [*, errW_none, errW_some] <;> rfl), by repeat (first | (with_reducible first | exact HB.out | apply below_alloc | apply pw_below_drewN | apply below_drew1 | refine below_set ?_ GE117.out) | exact HB.out)⟩

end Go.Proofs.Ytibdokjghhegfaa.PFallOnce
