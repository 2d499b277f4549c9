/- made: a hub of nothing. No condition. | frames, wakes: a new hub tells its state. No condition. -/
import Derived.Test.YtkhalpnonijogaaGreatX49
import Derived.Test.YtkhalpnonijogaaGreatX35
import Derived.Test.YtkhalpnonijogaaGreatX32
import Derived.Test.YtkhalpnonijogaaGreatX34
namespace Go.Proofs.YtkhalpnonijogaaGreat
open Go.RowKit

theorem results_tmp4 {fn : Func} {t u v x : Tmp} (h : fn.results = #[.tmp t, .tmp u, .tmp v, .tmp x]) (tmps : Array Value) (P : Program) (w : World) :
    (results fn tmps).run P w = .ok (.tuple #[tmps.getD t undef, tmps.getD u undef, tmps.getD v undef, tmps.getD x undef]) w := by
  simp [results, h]
/-- A hub made, of its own blocks. -/
def MadeF (w : World) (e : Ending) (w' : World) : Prop := ∃ h b f, e = .returned (.tuple #[.pointer (some ⟨h, 0, none⟩), .pointer (some ⟨b, 0, none⟩), .pointer (some ⟨f, 0, none⟩), .bool true]) ∧ (∀ own : Nat → Prop, (∀ k, w.heap.size ≤ k → k < w'.heap.size → own k) → HubIs own h 0 0 ⟨[], 0⟩ none w') ∧ Keeps [] w w'
set_option maxHeartbeats 6400000 in
set_option maxRecDepth 100000 in
theorem made_ok (w : World) : Calls Tryz.prog 9 #[.slice none 0 0, .slice none 0 0, .slice none 0 0] w (MadeF w) := by
  go_enter Tryz.func9, Tryz.ntmps9
  go_wp2_with fail
  refine (bus_new _).mono ?_
  rintro e w1 ⟨b, m, rfl, hb1, hm1, hbw, hk1⟩
  have HB1 : Hid (BusIs w1 b 0) := Go.Lib.hid ⟨m, hb1, hm1⟩
  have HK1 := Go.Lib.hid hk1
  have HBW := Go.Lib.hid (And.intro hbw (lt_of_block hb1))
  clear hb1 hm1 hbw hk1
  go_wp2_with fail
  refine (flash_new _).mono ?_
  rintro e w2 ⟨f, g, rfl, hf, hfw, hgw, hk2⟩
  have HN := Go.Lib.hid (hnew_ok (HB1.out.new hk2) hf ⟨by have := HBW.out.2; omega, by have := HBW.out.2; omega⟩)
  have HK2 := Go.Lib.hid hk2
  have HFW := Go.Lib.hid (And.intro hfw hgw)
  clear hf hfw hgw hk2
  go_wp2_with fail
  refine (num_ok _ _).mono ?_
  rintro e w3 ⟨rfl, rfl⟩
  go_wp2_with fail
  refine (num_ok _ _).mono ?_
  rintro e w3 ⟨rfl, rfl⟩
  go_wp2_with fail
  refine HN.out.mono ?_
  rintro e w3 ⟨h, rfl, hh, hk3⟩
  have HH := Go.Lib.hid hh
  have HK3 := Go.Lib.hid hk3
  clear hh hk3 HN
  go_wp2_with fail
  refine (num_ok _ _).mono ?_
  rintro e w4 ⟨rfl, rfl⟩
  go_wp2_with fail
  (try simp only [Exit.inBlock, Exit.then])
  refine bodyPost_ret (results_tmp4 rfl _ _ _) rfl ?_
  have z1 := HK1.out.size
  have z2 := HK2.out.size
  have z3 := HBW.out
  have z4 := HFW.out
  refine ⟨h, b, f, rfl, fun own hown => HH.out own (fun k h1 h2 => hown k (by omega) h2), ?_⟩
  refine keeps_out (HK1.out.trans HK2.out) HK3.out (by simp) (fun x hx => ?_)
  simp only [List.mem_cons, List.not_mem_nil, or_false] at hx
  rcases hx with rfl | rfl | rfl <;> right <;> omega
end Go.Proofs.YtkhalpnonijogaaGreat
namespace Go.Proofs.YtkhalpnonijogaaGreat
open Go.RowKit

theorem keeps_kx {own : Nat → Prop} {T : List Nat} {w w1 w2 : World} (h1 : Keeps [] w w1) (h2 : Kx own T w1 w2) (ho : ∀ k, own k → w.heap.size ≤ k) : Keeps [] w w2 :=
  ⟨h2.os.trans h1.os, h2.tape.trans h1.tape, h2.output.trans h1.output, Nat.le_trans h1.size h2.size, fun k hk _ => by
    rcases h2.blk k (Nat.lt_of_lt_of_le hk h1.size) with e | ⟨e, _⟩
    · rw [e]; exact h1.block k hk (by simp)
    · have := ho k e; omega⟩
/-- The one frame of a row of frames. -/
theorem frms_one {B : Nat} {w : World} {v : Value} (h : FrmsIs B [stF] w v) : ∃ g c A d, v = .slice (some ⟨g, 0, none⟩) 1 c ∧ w.cell? ⟨g, 1, none⟩ = some (.int .i64 9) ∧ w.cell? ⟨g, 2, none⟩ = some (.slice A 5 d) := by
  obtain ⟨p, h1, ⟨h2, h3⟩, h4⟩ := h
  obtain ⟨u, rfl⟩ : ∃ u, p = [u] := List.length_eq_one_iff.1 h1
  obtain ⟨A, d, rfl, _⟩ := h4 0 stF u rfl rfl
  rcases h3 with ⟨_, e⟩ | ⟨g, cap, cur, rfl, _, e3, e4, _, e6, e7⟩
  · simp at e
  · have k : ∀ (i : Nat) x, [Value.int .i64 0, Value.int .i64 9, Value.slice A 5 d][i]? = some x → w.cell? ⟨g, i, none⟩ = some x := fun i x hx => by
      have hl : i < 3 := (List.getElem?_eq_some_iff.1 hx).1
      rw [cell_of_row w g i cur 63 (0, 0) e3]
      have e8 : (cur.toList.take 3)[i]? = some x := by
        rw [show cur.toList.take 3 = _ from e7]; exact hx
      rw [List.getElem?_take, if_pos hl] at e8
      simpa using e8
    exact ⟨g, cap, A, d, rfl, k 1 _ rfl, k 2 _ rfl⟩
set_option maxHeartbeats 1600000 in
set_option maxRecDepth 100000 in
theorem frames_ok {g c : Nat} {w : World} (hc : 12 ≤ c) (h : Byts w (some ⟨g, 0, none⟩) stB) : Calls Tryz.prog 17 #[.slice (some ⟨g, 0, none⟩) 12 c] w fun e w' => ∃ v, e = .returned v ∧ FrmsIs w.heap.size [stF] w' v ∧ Keeps [] w w' := by
  have HS := Go.Lib.hid (scan_ok hc h)
  clear h
  go_enter Tryz.func17, Tryz.ntmps17
  go_wp2_with fail
  refine HS.out.mono ?_
  rintro e w1 ⟨v, rfl, hv, hk⟩
  have HE := Go.Lib.hid (And.intro hv hk)
  clear hv hk HS
  go_wp2_with fail
  go_ret
  exact ⟨_, rfl, HE.out⟩
set_option maxHeartbeats 6400000 in
set_option maxRecDepth 100000 in
theorem wakes_ok (w : World) : Calls Tryz.prog 14 #[] w fun e w' => e = .returned (.bool true) ∧ Keeps [] w w' := by
  go_enter Tryz.func14, Tryz.ntmps14
  go_wp2_with fail
  refine (made_ok _).mono ?_
  rintro e w1 ⟨h, b, f, rfl, hh, hk1⟩
  have HH : Hid (HubIs (fun k => w.heap.size ≤ k) h 0 0 ⟨[], 0⟩ none w1) := Go.Lib.hid (hh _ (fun k h1 _ => h1))
  have HK1 := Go.Lib.hid hk1
  clear hh hk1
  go_wp2_with fail
  refine (stat_ok _).mono ?_
  rintro e w2 ⟨v2, rfl, ho2, hk2⟩
  obtain ⟨A2, c2, rfl⟩ := own_form ho2
  have HST := Go.Lib.hid (step_ok (m := statF.enc.length) (d := c2) (F := [statF]) (data := statF.enc) (L := []) (D := A2) (HH.out.new hk2) (fun k hk => Nat.le_trans (HK1.out.trans hk2).size hk) (by simpa using Scn.take statF_ok Scn.nil) (fun f hf => .inr (by simpa using hf)) (fun i f hf => by
    cases i with
    | zero => simp [lastOf]
    | succ i => simp at hf) (by simp) (by simp) (by simp [Frm.enc_len, statF]) (Byts.of_own ho2) rfl (fun e => by
      subst e
      rcases ho2.2 with ⟨e1, e2⟩ | ⟨g, cap, cur, e1, _⟩
      · simp only [Value.slice.injEq, true_and] at e1
        exact ⟨e2, e1.2⟩
      · simp at e1))
  have HK2 := Go.Lib.hid (HK1.out.trans hk2)
  have el : statF.enc.length = 8 := rfl
  rw [el] at HST ⊢
  clear ho2 hk2 el
  go_wp2_with fail
  refine HST.out.mono ?_
  rintro e w3 ⟨g, v3, ub, rfl, hg, ho3, _, hk3⟩
  have ebs : (ansL [statF] 0).flatMap Frm.enc = stB := by
    rw [show ansL [statF] 0 = [outF 0 9 [8#8, 8#8, 8#8, 8#8, 8#8]] from rfl, List.flatMap_cons, List.flatMap_nil, List.append_nil, stB_eq]
  rw [ebs] at ho3
  have elb : stB.length = 12 := rfl
  rw [elb] at ho3
  obtain ⟨A3, c3, rfl⟩ := own_form ho3
  obtain ⟨g3, rfl, _, hc3, _⟩ := own_at ho3 (by omega)
  have HFR := Go.Lib.hid (frames_ok (c := c3) hc3 (Byts.of_own ho3))
  have HK3 := Go.Lib.hid (keeps_kx HK2.out hk3 (fun k hk => hk))
  clear ho3 hk3 ebs elb hg HST
  go_wp2_with fail
  refine HFR.out.mono ?_
  rintro e w4 ⟨v4, rfl, hf4, hk4⟩
  obtain ⟨g4, c4, A4, d4, rfl, q1, q2⟩ := frms_one hf4
  have HK4 := Go.Lib.hid (HK3.out.trans hk4)
  clear hf4 hk4 HFR
  go_wp2_with fail
  refine (num_ok _ _).mono ?_
  rintro e w5 ⟨rfl, rfl⟩
  go_wp2_with fail
  go_ret
  exact ⟨rfl, HK4.out⟩
end Go.Proofs.YtkhalpnonijogaaGreat
