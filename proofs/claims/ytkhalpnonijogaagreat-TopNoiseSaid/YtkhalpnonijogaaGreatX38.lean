/- sched.New of six. No condition. | drv.New. No condition but the numbers'. -/
import Derived.Test.YtkhalpnonijogaaGreatX37
import Derived.Test.YtkhalpnonijogaaGreatX12
import Derived.Deep.RegionLaw
namespace Go.Proofs.YtkhalpnonijogaaGreat
open Go.RowKit

set_option maxHeartbeats 800000 in
set_option maxRecDepth 100000 in
theorem wheel_new (w : World) : Calls Tryz.prog 81 #[] w fun e w' => (∃ v, e = .returned (.pointer (some ⟨v, 0, none⟩))) ∧ Keeps [] w w' := by
  go_enter Tryz.func81, Tryz.ntmps81
  go_wp2_with fail
  go_ret
  exact ⟨⟨_, rfl⟩, (Keeps.refl _ _).alloc _⟩
theorem info165 : ∃ i0, Tryz.prog.info? 165 = some i0 ∧ i0.zero = some (.chan none) ∧ i0.size = 1 ∧ i0.bytes = 8 := by
  have hm : (Tryz.prog.info? 165).map (fun i => (i.zero, i.size, i.bytes)) = some (some (.chan none), 1, 8) := by kernel_rfl
  obtain ⟨i0, h1, h2, h3, h4⟩ := info_parts hm
  exact ⟨i0, h1, h2, h3, h4⟩
/-- One channel more. -/
theorem app165 {w : World} {B x c k : Nat} {v : Value} {L : List Value} (h : w.ownsRow B 165 1 v k L) (hx : w.heap[x]? = some (.cells #[.chan (some c)] 165 (0, 0))) (hk : k ≤ 100) (hB : B ≤ w.heap.size) :
    ∃ v' w', (Builtin.append_ #[218, 218] 218 #[v, .slice (some ⟨x, 0, none⟩) 1 1]).run Tryz.prog w = .ok v' w' ∧ w'.ownsRow B 165 1 v' (k + 1) (L ++ [.chan (some c)]) ∧ w.grownBy w' v.ownBlock := by
  obtain ⟨i0, hi, hz0, hz1, hz2⟩ := info165
  obtain ⟨v', w', e1, e2, e3, _⟩ := run_append_own_at (P := Tryz.prog) w B 218 218 165 i0 _ 1 8 Tryz.underlying218 hi hz0 hz1 hz2 rfl (by omega) v k _ h ⟨x, 0, none⟩ 1 1 [.chan (some c)] rfl
    (fun j y hj => by
      rw [Addr.add_lit, cell_of_row w x _ _ 165 (0, 0) hx]
      simpa using hj) (fun y hy => by obtain rfl := List.mem_singleton.1 hy; rfl) (by unfold maxLen; omega) (by omega) hB
  exact ⟨v', w', e1, e2, e3⟩
theorem step_append_run {P : Program} {ops : Array Oper} {o : Oper} {a : Act} {w : World} {K : Act → World → Prop} {Q : Exit → Act → World → Prop} {E : Prop}
    (hg : o.guard = none) (d x : Operand) (dT sT : TypeId) (hop : o.op = Op.call { callee := Callee.builtin Builtin.append, args := #[d, x], argTypes := #[dT, sT] })
    (v u : Value) (hd : a.eval d = v) (hx : a.eval x = u) {v' : Value} {w' : World} (hr : (Builtin.append_ #[dT, sT] o.type #[v, u]).run P w = .ok v' w') (hK : K (a.put o.dst v') w') :
    if Region.wanted o (yielded ops a.tmps) = true then Oper.wp P o a w K Q else E := by
  have hw : Region.wanted o (yielded ops a.tmps) = true := by simp [Region.wanted, hg]
  rw [if_pos hw]
  unfold Oper.wp
  simp [execOp, hop, resolve, invoke, builtin, hd, hx, hr, Result.andThen]
  exact hK
/-- A scheduler of k channels, in making. -/
structure SchIs (lo : Nat) (w : World) (t wh k : Nat) : Prop where
  ex : ∃ (sv : Value) (L : List Value), w.heap[t]? = some (.cells #[sv, .pointer (some ⟨wh, 0, none⟩), .int .i64 0] 220 (0, 0)) ∧ w.ownsRow lo 165 1 sv k L ∧ ∀ i, i < k → ∃ c, L[i]? = some (.chan (some c)) ∧ w.heap[c]? = some (.chan 1 #[] false 0 0 false) ∧ lo ≤ c
set_option maxHeartbeats 3200000 in
set_option maxRecDepth 100000 in
theorem sched_new (w : World) : Calls Tryz.prog 49 #[.int .i64 6] w fun e w' => ∃ t wh, e = .returned (.tuple #[.pointer (some ⟨t, 0, none⟩), .int .i64 0]) ∧ SchIs w.heap.size w' t wh 6 ∧ w.heap.size ≤ t ∧ Keeps [] w w' := by
  have hmc : ∀ w, (Instr.makeChan 165 (.int .i64 1)).run Tryz.prog w = .ok (.chan (some w.heap.size)) (w.alloc (.chan 1 #[] false 0 0 false)) := mk_chan 1 (by omega)
  go_enter Tryz.func49, Tryz.ntmps49
  go_wp2_with fail
  refine (wheel_new _).mono ?_
  rintro e w1 ⟨⟨wh, rfl⟩, hk1⟩
  have HK1 := Go.Lib.hid hk1
  clear hk1
  go_upto_region 5 with fail
  obtain ⟨t, ht⟩ : ∃ t, t = w1.heap.size := ⟨_, rfl⟩
  obtain ⟨w2, hw2⟩ : ∃ w2, w2 = w1.alloc (.cells #[.slice none 0 0, .pointer (some ⟨wh, 0, none⟩), .int .i64 0] 220) := ⟨_, rfl⟩
  rw [← hw2, ← ht]
  have HI : Hid (SchIs w.heap.size w2 t wh 0 ∧ Keeps [] w w2) := Go.Lib.hid ⟨⟨_, [], by rw [hw2, ht]; exact heap_alloc_new _ _, World.ownsRow_nil _ _ _ _, fun i hi => by omega⟩, by rw [hw2]; exact HK1.out.alloc _⟩
  have htw : w.heap.size ≤ t := by rw [ht]; exact HK1.out.size
  clear hw2 ht
  go_loopw [15] (fun s15 wx => ∃ k : Nat, k ≤ 6 ∧ s15 = .int .i64 k ∧ Hid (SchIs w.heap.size wx t wh k ∧ Keeps [] w wx)) (fun s15 _ => 6 - (intOf s15).toNat)
  case atStart => exact ⟨0, by omega, rfl, HI⟩
  case round =>
    obtain ⟨k, hk, rfl, HK⟩ := hrel
    clear HI
    by_cases hlt : k < 6
    · obtain ⟨⟨sv, L, h1, h2, h3⟩, h4⟩ := HK.out
      obtain ⟨A, c, rfl⟩ := own_form h2
      have d1 : decide (k < 6) = true := decide_eq_true hlt
      have d2 : decide ((k : Int) < 6) = true := decide_eq_true (by omega)
      obtain ⟨W2, hW2⟩ : ∃ W2, W2 = (wr.drew.alloc (.chan 1 #[] false 0 0 false)).alloc (.cells #[.chan (some wr.heap.size)] 165) := ⟨_, rfl⟩
      have hkW : Keeps [] wr W2 := by rw [hW2]; exact ((((Keeps.refl [] wr).drew).alloc _).alloc _)
      have hx : W2.heap[wr.heap.size + 1]? = some (.cells #[.chan (some wr.heap.size)] 165 (0, 0)) := by
        rw [hW2, show wr.heap.size + 1 = (wr.drew.alloc (.chan 1 #[] false 0 0 false)).heap.size by simp [World.size_alloc]]
        exact heap_alloc_new _ _
      have hcn : W2.heap[wr.heap.size]? = some (.chan 1 #[] false 0 0 false) := by
        rw [hW2, Below.heap_alloc _ _ _ (by simp [World.size_alloc])]
        exact heap_alloc_new wr.drew _
      have ho2 := own_new h2 hkW
      obtain ⟨v3, w3, hr3, ho3, hg3⟩ := app165 ho2 hx (by omega) (Nat.le_trans h4.size hkW.size)
      obtain ⟨A3, c3, rfl⟩ := own_form ho3
      have hts : ∀ x ∈ (Value.slice A k c).ownBlock.toList, ∃ cs, W2.heap[x]? = some (.cells cs 165 (0, 0)) := own_type ho2
      have hkg : Keeps (Value.slice A k c).ownBlock.toList W2 w3 := ⟨hg3.os, hg3.tape, hg3.output, hg3.size, fun j hj hm => hg3.block j hj (fun e => hm (by simp [e]))⟩
      have h12 := hkW.heap h1 (by simp)
      have h13 := hkg.heap h12 (fun hm => by
        obtain ⟨cs, e⟩ := hts t hm
        rw [h12] at e; simp at e)
      obtain ⟨p0, p1, p2, f0, f1, f2⟩ := cells3 h1
      obtain ⟨q0, q1, q2, g0, g1, g2⟩ := cells3 h13
      have hks : Keeps [t] w3 (w3.setCell ⟨t, 0, none⟩ (.slice A3 (k + 1) c3)) := (Keeps.refl _ _).setCell (by simp) _
      have HE : Hid (SchIs w.heap.size (w3.setCell ⟨t, 0, none⟩ (.slice A3 (k + 1) c3)) t wh (k + 1) ∧ Keeps [] w (w3.setCell ⟨t, 0, none⟩ (.slice A3 (k + 1) c3))) := Go.Lib.hid (by
        refine ⟨⟨_, L ++ [.chan (some wr.heap.size)], (heap_setCell_self h13).trans (by rfl), own_apart ho3 hks (fun g e hm => ?_), fun i hi => ?_⟩, ((keeps_grow (h4.trans hkW) ho2 hg3).setNew htw _)⟩
        · rw [List.mem_singleton.1 hm] at e
          obtain ⟨cs, e'⟩ := own_type ho3 t (by simp [e])
          rw [h13] at e'; simp at e'
        · have hkc : ∀ (c' : Nat), W2.heap[c']? = some (.chan 1 #[] false 0 0 false) → (w3.setCell ⟨t, 0, none⟩ (.slice A3 (k + 1) c3)).heap[c']? = some (.chan 1 #[] false 0 0 false) := fun c' hc' => by
            refine hks.heap (hkg.heap hc' (fun hm => ?_)) (fun hm => ?_)
            · obtain ⟨cs, e⟩ := hts c' hm
              rw [hc'] at e; simp at e
            · rw [List.mem_singleton.1 hm, h12] at hc'; simp at hc'
          have hL : L.length = k := by have := h2.1; omega
          by_cases hik : i < k
          · obtain ⟨c', e1, e2, e3⟩ := h3 i hik
            exact ⟨c', by rw [List.getElem?_append_left (by omega)]; exact e1, hkc c' (hkW.heap e2 (by simp)), e3⟩
          · obtain rfl : i = k := by omega
            exact ⟨wr.heap.size, by rw [List.getElem?_append_right (by omega), hL, Nat.sub_self]; rfl, hkc _ hcn, h4.size⟩)
      have HR3 : (Builtin.append_ #[218, 218] 218 #[.slice A k c, .slice (some ⟨wr.heap.size + 1, 0, none⟩) 1 1]).run Tryz.prog ((wr.alloc (.chan 1 #[] false 0 0 false)).alloc (.cells #[.chan (some wr.heap.size)] 165)).drew = .ok (.slice A3 (k + 1) c3) w3 := by
        rw [hW2] at hr3
        exact hr3
      have htl := lt_of_block h1
      have htn : ¬ t = wr.heap.size := by omega
      have htn1 : ¬ t = wr.heap.size + 1 := by omega
      clear hr3 ho3 hg3 hts hkg h12 h13 hks hkW hx hcn ho2 h1 h2 h3 h4 HK hW2 q1 q2 p1 p2 f0 f1 f2 g1 g2 HK1
      go_upto_region 6 with fail
      have HR4 := Go.Lib.hid HR3
      clear HR3
      go_region_law (refine step_append_run rfl (.tmp 21) (.tmp 23) 218 218 rfl _ _ (by simp [Act.eval]) (by simp [Act.eval]) HR4.out ?_)
      all_goals go_wp2_with fail
      all_goals exact ⟨⟨k + 1, by omega, by go_num, HE⟩, by simp [intOf]; omega⟩
    · obtain rfl : k = 6 := by omega
      go_wp2_with fail
      go_ret2
      exact ⟨t, wh, rfl, HK.out.1, htw, HK.out.2⟩
end Go.Proofs.YtkhalpnonijogaaGreat
namespace Go.Proofs.YtkhalpnonijogaaGreat
open Go.RowKit

set_option maxHeartbeats 1600000 in
set_option maxRecDepth 100000 in
theorem dgood0 {a id : Int} (h1 : 0 ≤ a) (h2 : a ≤ 127) (h3 : 0 ≤ id) (h4 : id ≤ 255) (w : World) : Calls Tryz.prog 86 #[.agg (drvA a id false 1 0 0 false)] w (IsTrue w) := by
  have d1 : decide (a < 0) = false := decide_eq_false (by omega)
  have d2 : decide (127 < a) = false := decide_eq_false (by omega)
  have d3 : decide (id < 0) = false := decide_eq_false (by omega)
  have d4 : decide (255 < id) = false := decide_eq_false (by omega)
  unfold drvA
  go_enter Tryz.func86, Tryz.ntmps86
  go_wp2_with fail
  go_ret
  exact ⟨rfl, (Keeps.refl _ _).alloc _⟩
set_option maxHeartbeats 1600000 in
set_option maxRecDepth 100000 in
theorem drv_new {a id : Int} (h1 : 0 ≤ a) (h2 : a ≤ 127) (h3 : 0 ≤ id) (h4 : id ≤ 255) (w : World) : Calls Tryz.prog 52 #[.int .i64 a, .int .i64 id] w fun e w' => e = .returned (.tuple #[.agg (drvA a id false 1 0 0 false), .int .i64 0]) ∧ Keeps [] w w' := by
  have HG := Go.Lib.hid (fun W => dgood0 h1 h2 h3 h4 W)
  unfold drvA at HG ⊢
  clear h1 h2 h3 h4
  go_enter Tryz.func52, Tryz.ntmps52
  go_upto_region 2 with fail
  obtain ⟨x, hx⟩ : ∃ x, x = w.heap.size := ⟨_, rfl⟩
  obtain ⟨w0, hw0⟩ : ∃ w0, w0 = (w.alloc (.cells #[.int .i64 0, .int .i64 0, .bool false, .int .i64 0, .int .i64 0, .int .i64 0, .bool false, .int .i64 0, .int .i64 0] 85)).alloc (.cells #[.int .i64 a, .int .i64 id, .bool false, .int .i64 1, .int .i64 0, .int .i64 0, .bool false, .int .i64 0, .int .i64 0] 85) := ⟨_, rfl⟩
  rw [← hw0, ← hx]
  have hk0 : Keeps [] w w0 := by rw [hw0]; exact ((Keeps.refl _ _).alloc _).alloc _
  have h1 : w0.heap[x]? = some (.cells #[.int .i64 0, .int .i64 0, .bool false, .int .i64 0, .int .i64 0, .int .i64 0, .bool false, .int .i64 0, .int .i64 0] 85 (0, 0)) := by
    rw [hw0, Below.heap_alloc _ _ _ (by simp [hx]), hx]; exact heap_alloc_new _ _
  have h2 : w0.heap[x + 1]? = some (.cells #[.int .i64 a, .int .i64 id, .bool false, .int .i64 1, .int .i64 0, .int .i64 0, .bool false, .int .i64 0, .int .i64 0] 85 (0, 0)) := by
    rw [hw0, hx, ← World.size_alloc w (.cells #[.int .i64 0, .int .i64 0, .bool false, .int .i64 0, .int .i64 0, .int .i64 0, .bool false, .int .i64 0, .int .i64 0] 85)]; exact heap_alloc_new _ _
  have HX := Go.Lib.hid (Nat.le_of_eq hx.symm)
  have HK0 := Go.Lib.hid hk0
  have H1 := Go.Lib.hid h1
  have H2 := Go.Lib.hid h2
  have c0 := cells9 h2
  clear hx hw0 hk0 h1 h2
  obtain ⟨p0, p1, p2, p3, p4, p5, p6, p7, p8⟩ := c0
  go_wp2_with fail
  refine (HG.out _).mono ?_
  rintro e w1 ⟨rfl, hk1⟩
  have HK1 := Go.Lib.hid (HK0.out.trans hk1)
  have h11 := hk1.heap H1.out (by simp)
  have h12 := hk1.heap H2.out (by simp)
  obtain ⟨q0, q1, q2, q3, q4, q5, q6, q7, q8⟩ := cells9 h11
  obtain ⟨f0, f1, f2, f3, f4, f5, f6, f7, f8⟩ := free9 h11
  obtain ⟨r0, r1, r2, r3, r4, r5, r6, r7, r8⟩ := cells9 h12
  clear hk1 h11 h12 p0 p1 p2 p3 p4 p5 p6 p7 p8 HG
  go_wp2_with fail
  have hx9 := HX.out
  refine bodyPost_ret (v := .tuple #[.agg #[.int .i64 a, .int .i64 id, .bool false, .int .i64 1, .int .i64 0, .int .i64 0, .bool false, .int .i64 0, .int .i64 0], .int .i64 0]) (by simp [results, Tryz.f52, go_sem, q0, q1, q2, q3, q4, q5, q6, q7, q8]) rfl ⟨rfl, ?_⟩
  repeat (refine Keeps.setNew ?_ (by simp; omega) _)
  exact HK1.out
end Go.Proofs.YtkhalpnonijogaaGreat
