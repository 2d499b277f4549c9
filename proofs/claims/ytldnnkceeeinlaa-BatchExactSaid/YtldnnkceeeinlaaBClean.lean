/- The reference's 'clean' and 'Forget'. No condition but the queue's own. -/
import Derived.Test.YtldnnkceeeinlaaBRefS
namespace Go.Proofs.Ytldnnkceeeinlaa
open Go.RowKit

def it00 : Value := .agg #[.int .i64 0, .int .i64 0, .int .i64 0, .int .i64 0, .int .i64 0, .int .i64 0, .int .i64 0, .int .i64 0, .int .i64 0, .int .i64 0, .int .i64 0, .int .i64 0, .int .i64 0, .int .i64 0]
theorem info85 : ∃ i0, Try.prog.info? 85 = some i0 ∧ i0.zero = some it00 ∧ i0.size = 14 ∧ i0.bytes = 112 := by
  have hm : (Try.prog.info? 85).map (fun i => (i.zero, i.size, i.bytes)) = some (some it00, 14, 112) := by kernel_rfl
  obtain ⟨i0, h1, h2, h3, h4⟩ := info_parts hm
  exact ⟨i0, h1, h2, h3, h4⟩
theorem flat14_get : ∀ (l : List It), (∀ x ∈ l, x.u.length = 8) → ∀ (i : Nat) (x : It) (r : Nat), l[i]? = some x → r < 14 → (l.flatMap itL)[i * 14 + r]? = (itL x)[r]? := by
  intro l
  induction l with
  | nil => intro _ i x r h; simp at h
  | cons y l ih =>
    intro h8 i x r h hr
    have hy := itL_len (h8 y (by simp))
    rw [List.flatMap_cons]
    cases i with
    | zero =>
      obtain rfl : y = x := by simpa using h
      rw [List.getElem?_append_left (by omega), Nat.zero_mul, Nat.zero_add]
    | succ i =>
      rw [List.getElem?_append_right (by omega), show (i + 1) * 14 + r - (itL y).length = i * 14 + r by omega]
      exact ih (fun z hz => h8 z (List.mem_cons_of_mem _ hz)) i x r (by simpa using h) hr
theorem RowL.of_own {B : Nat} {W : World} {v : Value} {m : List It} (h : W.ownsRow B 85 14 v m.length (m.flatMap itL)) (h8 : ∀ x ∈ m, x.u.length = 8) : RowL B W v m := by
  rcases h.2 with ⟨rfl, h0⟩ | ⟨g, cap, cur, rfl, e2, e3, e4, e5, e6, e7⟩
  · exact .inl ⟨List.eq_nil_of_length_eq_zero h0, rfl⟩
  · refine .inr ⟨g, 0, cap, rfl, e2, e5, cur, e3, e4, by omega, fun k x hx j u hu => ?_⟩
    have hj : j < 14 := by
      have := (List.getElem?_eq_some_iff.1 hu).1
      rwa [itL_len (h8 x (List.mem_of_getElem? hx))] at this
    have h1 := flat14_get m h8 k x j hx hj
    rw [hu, ← e7, List.getElem?_take] at h1
    split at h1
    · simpa using h1
    · simp at h1

theorem sweepM_snoc (m : List It) (i : Nat) (x : It) (hx : m[i]? = some x) : sweepM (m.take (i + 1)) = if waitsB x = true then sweepM (m.take i) ++ [x] else sweepM (m.take i) := by
  rw [List.take_add_one, hx, Option.toList_some, sweepM, List.filter_append]
  split
  · rename_i h; rw [List.filter_cons, if_pos h]; rfl
  · rename_i h; rw [List.filter_cons, if_neg h]; simp [sweepM]

structure Cl (W : World) (m : List It) (B : Nat) (i : Nat) (v : Value) (wr : World) : Prop where
  row : wr.ownsRow W.heap.size 85 14 v (sweepM (m.take i)).length ((sweepM (m.take i)).flatMap itL)
  keeps : Keeps [] W wr

set_option maxHeartbeats 3200000 in
set_option maxRecDepth 100000 in
theorem r_clean {B r : Nat} {W : World} {m : List It} {lost : List Int} (h : RL B W r m lost) :
    Calls Try.prog 40 #[.pointer (some ⟨r, 0, none⟩)] W fun e w' => (∃ v, e = .returned v) ∧ RL B w' r (sweepM m) lost ∧ RK B W w' := by
  obtain ⟨v, h⟩ := h
  obtain ⟨ad, cp, rfl⟩ := h.row.form
  have h64 := h.few
  have hBr : B ≤ W.heap.size := by have := h.base; have := lt_of_block h.own; omega
  have HQ := Go.Lib.hid h
  clear h
  obtain ⟨i0, hi0, hz0, hz1, hz2⟩ := info85
  have HI := Go.Lib.hid hi0
  have HZ0 := Go.Lib.hid hz0
  have HZ1 := Go.Lib.hid hz1
  have HZ2 := Go.Lib.hid hz2
  clear hi0 hz0 hz1 hz2
  go_enter Try.func40, Try.ntmps40
  go_upto_region 2 with fail
  go_loopw [2, 3] (fun sv si wr => ∃ i : Nat, si = .int .i64 i ∧ i ≤ m.length ∧ Hid (Cl W m B i sv wr)) (fun _ si _ => m.length - (intOf si).toNat)
  case atStart => exact ⟨0, rfl, by omega, World.ownsRow_nil _ _ _ _, Keeps.refl _ _⟩
  case round =>
    obtain ⟨i, rfl, hi, HC⟩ := hrel
    obtain ⟨w1, hw1⟩ : ∃ w1, w1 = wr := ⟨_, rfl⟩
    subst hw1
    have hq := HQ.out.keep (W' := w1) (fun i o ho _ => HC.out.keeps.heap ho (by simp))
    obtain ⟨c0, f0⟩ := cell_at hq.own (rA_zero _ lost)
    by_cases hlt : i < m.length
    · have d1 : decide (i < m.length) = true := decide_eq_true hlt
      obtain ⟨x, hx⟩ : ∃ x, m[i]? = some x := ⟨_, List.getElem?_eq_getElem hlt⟩
      obtain ⟨t0, t1, t2, t3, t4, t5, t6, t7, hu⟩ := eight (hq.wide x (List.mem_of_getElem? hx))
      obtain ⟨g, o, rfl, _, _, hrow⟩ := hq.row.at (by omega)
      have y0 : w1.cell? ⟨g, o + i * 14, none⟩ = some (.int .i64 x.e.s) := (hrow.cell hx (j := 0) rfl).1
      have y1 : w1.cell? ⟨g, o + i * 14 + 1, none⟩ = some (.int .i64 x.e.t) := (hrow.cell hx (j := 1) rfl).1
      have y2 : w1.cell? ⟨g, o + i * 14 + 2, none⟩ = some (.int .i64 x.e.v0) := (hrow.cell hx (j := 2) rfl).1
      have y3 : w1.cell? ⟨g, o + i * 14 + 3, none⟩ = some (.int .i64 x.e.v1) := (hrow.cell hx (j := 3) rfl).1
      have y4 : w1.cell? ⟨g, o + i * 14 + 4, none⟩ = some (.int .i64 x.e.v2) := (hrow.cell hx (j := 4) rfl).1
      have y5 : w1.cell? ⟨g, o + i * 14 + 5, none⟩ = some (.int .i64 x.e.v3) := (hrow.cell hx (j := 5) rfl).1
      have y6 : w1.cell? ⟨g, o + i * 14 + 6, none⟩ = some (.int .i64 t0) := (hrow.line hx (c := 0) (by rw [hu]; rfl)).1
      have y7 : w1.cell? ⟨g, o + i * 14 + 7, none⟩ = some (.int .i64 t1) := (hrow.line hx (c := 1) (by rw [hu]; rfl)).1
      have y8 : w1.cell? ⟨g, o + i * 14 + 8, none⟩ = some (.int .i64 t2) := (hrow.line hx (c := 2) (by rw [hu]; rfl)).1
      have y9 : w1.cell? ⟨g, o + i * 14 + 9, none⟩ = some (.int .i64 t3) := (hrow.line hx (c := 3) (by rw [hu]; rfl)).1
      have y10 : w1.cell? ⟨g, o + i * 14 + 10, none⟩ = some (.int .i64 t4) := (hrow.line hx (c := 4) (by rw [hu]; rfl)).1
      have y11 : w1.cell? ⟨g, o + i * 14 + 11, none⟩ = some (.int .i64 t5) := (hrow.line hx (c := 5) (by rw [hu]; rfl)).1
      have y12 : w1.cell? ⟨g, o + i * 14 + 12, none⟩ = some (.int .i64 t6) := (hrow.line hx (c := 6) (by rw [hu]; rfl)).1
      have y13 : w1.cell? ⟨g, o + i * 14 + 13, none⟩ = some (.int .i64 t7) := (hrow.line hx (c := 7) (by rw [hu]; rfl)).1
      have HLN : Hid (∀ (c : Nat) (t : Int), x.u[c]? = some t → w1.cell? ⟨g, o + i * 14 + 6 + c, none⟩ = some (.int .i64 t)) := fun c t ht => (hrow.line hx ht).1
      have HX := Go.Lib.hid hx
      have HU := Go.Lib.hid hu
      have HRW := Go.Lib.hid hrow
      clear hq hx hu hrow
      go_upto_region 6 with fail
      go_loopw [4, 5] (fun sb sc wx => ∃ (c : Nat) (b : Bool), sb = .bool b ∧ sc = .int .i64 c ∧ c ≤ 8 ∧ Hid (b = (x.u.take c).any (fun t => decide (0 ≤ t))) ∧ wx = w1) (fun _ sc _ => 8 - (intOf sc).toNat)
      case atStart => exact ⟨0, false, rfl, rfl, by omega, rfl, rfl⟩
      case round =>
        obtain ⟨c, b, rfl, rfl, hc8, HB, rfl⟩ := hrel
        by_cases hc : c < 8
        · have e1 : decide (c < 8) = true := decide_eq_true hc
          have e2 : decide ((c : Int) < 8) = true := decide_eq_true (by omega)
          have hc' : (c : Int) < 8 := by omega
          obtain ⟨t, ht⟩ : ∃ t, x.u[c]? = some t := ⟨_, List.getElem?_eq_getElem (by rw [HU.out]; exact hc)⟩
          have yt := HLN.out c t ht
          have hstep : (x.u.take (c + 1)).any (fun t => decide (0 ≤ t)) = (b || decide (0 ≤ t)) := by
            rw [List.take_add_one, ht, Option.toList_some, List.any_append, ← HB.out]
            simp
          cases b with
          | true =>
            have HB2 : Hid (true = (x.u.take (c + 1)).any (fun t => decide (0 ≤ t))) := Go.Lib.hid (by rw [hstep]; rfl)
            clear hstep ht HB
            go_wp2_with fail
            exact ⟨⟨c + 1, true, rfl, by go_num, by omega, HB2, trivial⟩, by simp [intOf]; omega⟩
          | false =>
            by_cases h0 : 0 ≤ t
            · have e3 : decide (0 ≤ t) = true := decide_eq_true h0
              have HB2 : Hid (true = (x.u.take (c + 1)).any (fun t => decide (0 ≤ t))) := Go.Lib.hid (by rw [hstep, e3]; rfl)
              clear hstep ht HB
              go_wp2_with fail
              exact ⟨⟨c + 1, true, rfl, by go_num, by omega, HB2, trivial⟩, by simp [intOf]; omega⟩
            · have e3 : decide (0 ≤ t) = false := decide_eq_false h0
              have HB2 : Hid (false = (x.u.take (c + 1)).any (fun t => decide (0 ≤ t))) := Go.Lib.hid (by rw [hstep, e3]; rfl)
              clear hstep ht HB
              go_wp2_with fail
              exact ⟨⟨c + 1, false, rfl, by go_num, by omega, HB2, trivial⟩, by simp [intOf]; omega⟩
        · have e1 : decide (c < 8) = false := decide_eq_false hc
          have e2 : decide ((c : Int) < 8) = false := decide_eq_false (by omega)
          have hbw : b = waitsB x := by
            rw [HB.out, waitsB, List.take_of_length_le (by rw [HU.out]; simp; omega)]
          clear HB
          have hss := sweepM_snoc m i x HX.out
          cases b with
          | true =>
            rw [if_pos hbw.symm] at hss
            have HSS := Go.Lib.hid hss
            have hls : (sweepM (m.take i)).length ≤ 64 := by
              have := List.length_filter_le waitsB (m.take i)
              rw [List.length_take] at this
              show (List.filter _ _).length ≤ 64
              omega
            have hbs := HC.out.keeps.size
            clear hss hbw
            have hitl : itL x = [.int .i64 x.e.s, .int .i64 x.e.t, .int .i64 x.e.v0, .int .i64 x.e.v1, .int .i64 x.e.v2, .int .i64 x.e.v3, .int .i64 t0, .int .i64 t1, .int .i64 t2, .int .i64 t3, .int .i64 t4, .int .i64 t5, .int .i64 t6, .int .i64 t7] := by rw [itL, HU.out]; rfl
            have HITL := Go.Lib.hid hitl
            have hix : (itL x).length = 14 := by rw [hitl]; rfl
            clear hitl
            go_wp2_with (at_builtin; refine wpList_append_own _ rfl _ _ 53 rfl W.heap.size 85 i0 it00 14 112 Try.underlying53 HI.out HZ0.out HZ1.out HZ2.out rfl (by decide) _ (sweepM (m.take i)).length _ rfl (HC.out.row.alloc _) ⟨wr.heap.size, 0, none⟩ 1 1 (itL x) rfl hix ?c1 ?c2 ?c3 ?c4 ?c5 ?_)
            case c1 =>
              intro j u hj
              rw [Addr.add_lit, Nat.zero_add]
              rw [HITL.out] at hj
              exact (cell_at (heap_alloc_new _ _) (by rw [List.getElem?_toArray]; exact hj)).1
            case c2 =>
              intro u hu
              rw [HITL.out] at hu
              simp only [List.mem_cons, List.not_mem_nil, or_false] at hu
              rcases hu with rfl | rfl | rfl | rfl | rfl | rfl | rfl | rfl | rfl | rfl | rfl | rfl | rfl | rfl <;> rfl
            case c3 => unfold maxLen; omega
            case c4 => omega
            case c5 => simp; omega
            intro v' w3 hown hgrow _
            have HC3 : Hid (Cl W m B (i + 1) v' w3) := by
              have h1 : Keeps [] W (wr.alloc (.cells #[.int .i64 x.e.s, .int .i64 x.e.t, .int .i64 x.e.v0, .int .i64 x.e.v1, .int .i64 x.e.v2, .int .i64 x.e.v3, .int .i64 t0, .int .i64 t1, .int .i64 t2, .int .i64 t3, .int .i64 t4, .int .i64 t5, .int .i64 t6, .int .i64 t7] 85)) := HC.out.keeps.alloc _
              have hb : ∀ j, u2.ownBlock = some j → W.heap.size ≤ j := fun j e => (HC.out.row.lt j e).1
              refine ⟨by rw [HSS.out, List.length_append, List.flatMap_append]; simpa using hown, ⟨hgrow.os.trans h1.os, hgrow.tape.trans h1.tape, hgrow.output.trans h1.output, Nat.le_trans h1.size hgrow.size, fun j hj _ => (hgrow.block j (Nat.lt_of_lt_of_le hj h1.size) (fun e => by have := hb j e.symm; omega)).trans (h1.block j hj (by simp))⟩⟩
            clear hown hgrow
            go_wp2_with fail
            exact ⟨⟨i + 1, by go_num, by omega, HC3⟩, by simp [intOf]; omega⟩
          | false =>
            rw [if_neg (by rw [← hbw]; simp)] at hss
            have HC2 : Hid (Cl W m B (i + 1) u2 wr) := ⟨by rw [hss]; exact HC.out.row, HC.out.keeps⟩
            clear hss hbw
            go_wp2_with fail
            exact ⟨⟨i + 1, by go_num, by omega, HC2⟩, by simp [intOf]; omega⟩
    · have d1 : decide (i < m.length) = false := decide_eq_false hlt
      have hrow : w1.ownsRow W.heap.size 85 14 u2 (sweepM m).length ((sweepM m).flatMap itL) := by
        have := HC.out.row
        rw [List.take_of_length_le (by omega)] at this
        exact this
      have h8 : ∀ x ∈ sweepM m, x.u.length = 8 := fun x hx => HQ.out.wide x (List.mem_filter.1 hx).1
      have hf : RowL B w1 u2 (sweepM m) := by
        rcases RowL.of_own hrow h8 with h | ⟨g, o, cap, h1, h2, h3⟩
        · exact .inl h
        · exact .inr ⟨g, o, cap, h1, by omega, h3⟩
      obtain ⟨ad', cp', rfl⟩ := hf.form
      have h64' : (sweepM m).length ≤ 64 := by
        have := List.length_filter_le waitsB m
        show (List.filter _ _).length ≤ 64
        omega
      have HF : Hid (RL B (w1.setCell ⟨r, 0, none⟩ (.slice ad' (sweepM m).length cp')) r (sweepM m) lost) := ⟨_, hq.swap hf h8 h64'⟩
      have HR : Hid (RK B W (w1.setCell ⟨r, 0, none⟩ (.slice ad' (sweepM m).length cp'))) := (RK.new HC.out.keeps).trans (hq.loseRK 0 0 _)
      clear hq hrow hf
      go_wp2
      go_end0
      exact ⟨⟨_, rfl⟩, HF.out, HR.out⟩
end Go.Proofs.Ytldnnkceeeinlaa
