/- rate.Add: the row is one longer at most. No condition but the table's. -/
import Derived.Test.YtkhalpnonijogaaGreatX24
import Derived.Test.YtkhalpnonijogaaGreatX25
namespace Go.Proofs.YtkhalpnonijogaaGreat
open Go.RowKit

/-- A place in a table's row. -/
def AtF (g m : Nat) (rows : Value) (w : World) (e : Ending) (w' : World) : Prop := ∃ (gr c i m' : Nat) (L' : List Int), e = .returned (.pointer (some ⟨gr, i * 7 + 2, none⟩)) ∧ i < m' ∧ m' ≤ m + 1 ∧
  w'.heap[g]? = some (.cells #[.slice (some ⟨gr, 0, none⟩) m' c, .func (.func 79) #[] #[]] 210 (0, 0)) ∧ w'.ownsRow 0 323 7 (.slice (some ⟨gr, 0, none⟩) m' c) m' (ints L') ∧ Keeps (g :: rows.ownBlock.toList) w w' ∧ (rows.ownBlock = some gr ∨ w.heap.size ≤ gr)
theorem held_eq {w : World} {a : Addr} {v : Value} (h : w.cell? a = some v) : held w a = v := by simp [held, h]
set_option maxHeartbeats 3200000 in
set_option maxRecDepth 100000 in
theorem at_ok {g m : Nat} {rows : Value} {L : List Int} {k1 k2 : Int} {w : World} (hg : w.heap[g]? = some (.cells #[rows, .func (.func 79) #[] #[]] 210 (0, 0))) (ho : w.ownsRow 0 323 7 rows m (ints L)) (hm : m ≤ 900) :
    Calls Tryz.prog 156 #[.pointer (some ⟨g, 0, none⟩), .agg #[.int .i64 k1, .int .i64 k2]] w (AtF g m rows w) := by
  obtain ⟨A, c, rfl⟩ := own_form ho
  go_enter Tryz.func156, Tryz.ntmps156
  go_upto_region 1 with fail
  obtain ⟨y, hy⟩ : ∃ y, y = w.heap.size := ⟨_, rfl⟩
  obtain ⟨w0, hw0⟩ : ∃ w0, w0 = w.alloc (.cells #[.int .i64 k1, .int .i64 k2] 285) := ⟨_, rfl⟩
  rw [← hw0, ← hy]
  have hk0 : Keeps [] w w0 := by rw [hw0]; exact (Keeps.refl _ _).alloc _
  have hy0 : w0.heap[y]? = some (.cells #[.int .i64 k1, .int .i64 k2] 285 (0, 0)) := by rw [hw0, hy]; exact heap_alloc_new _ _
  have hg0 := hk0.heap hg (by simp)
  have ho0 := own_new ho hk0
  obtain ⟨p0, p1⟩ := key_cells hy0
  have HF := Go.Lib.hid (find_ok (k1 := k1) (k2 := k2) hg0 ho0 (by omega))
  have HG0 := Go.Lib.hid hg0
  have HO0 := Go.Lib.hid ho0
  have HY0 := Go.Lib.hid hy0
  have HK0 := Go.Lib.hid hk0
  clear hy hw0 hk0 hy0 hg0 ho0 ho hg
  go_wp2_with fail
  refine HF.out.mono ?_
  rintro e w1 ⟨i, b, rfl, him, hb, hk1⟩
  have hg1 := hk1.heap HG0.out (by simp)
  have ho1 := own_new HO0.out hk1
  have hy1 := hk1.heap HY0.out (by simp)
  have hk1' := HK0.out.trans hk1
  clear HF HG0 HO0 HY0 HK0 p0 p1 hk1
  cases b with
  | true =>
    have hi' := hb rfl
    obtain ⟨gr, rfl, _, hmc, _⟩ := own_at ho1 (by omega)
    have q0 := (cell_at hg1 (p := 0) rfl).1
    have i0 : (0 : Int) ≤ i := by omega
    have i1 : (i : Int) < m := by omega
    have HE : Hid (AtF g m (.slice (some ⟨gr, 0, none⟩) m c) w (.returned (.pointer (some ⟨gr, i * 7 + 2, none⟩))) w1) := Go.Lib.hid ⟨gr, c, i, m, L, rfl, hi', by omega, hg1, ho1, hk1'.mono (by simp), .inl rfl⟩
    clear hb hg1 ho1 hy1 hk1'
    go_wp2_with fail
    go_ret
    exact HE.out
  | false =>
    obtain ⟨p0, p1⟩ := key_cells hy1
    have q0 : w1.cell? ⟨g, 0, none⟩ = some (.slice A m c) := (cell_at hg1 (p := 0) rfl).1
    have q0' := (cell_at hg1 (p := 0) rfl).2
    have hlt := lt_of_block hg1
    have nn1 : ¬ g = w1.heap.size := by omega
    have nn2 : ¬ w1.heap.size = g := by omega
    have hlty := lt_of_block hy1
    have nn3 : ¬ y = w1.heap.size := by omega
    have nn4 : ¬ w1.heap.size = y := by omega
    have HG1 := Go.Lib.hid hg1
    have HO1 := Go.Lib.hid ho1
    have HK1 := Go.Lib.hid hk1'
    have HI := Go.Lib.hid him
    have hka : Keeps [] w1 (w1.alloc (.cells #[.int .i64 k1, .int .i64 k2, .int .i64 0, .int .i64 0, .int .i64 0, .int .i64 0, .int .i64 0] 323)).drew := ((Keeps.refl _ _).alloc _).drew
    have HKA := Go.Lib.hid hka
    have HC := Go.Lib.hid (insert_ok (i := i) (own_new ho1 hka) (heap_alloc_new w1 (.cells #[.int .i64 k1, .int .i64 k2, .int .i64 0, .int .i64 0, .int .i64 0, .int .i64 0, .int .i64 0] 323)) (fun e => by have := (ho1.lt _ e).2; omega) (by omega) him)
    clear hb hg1 ho1 hy1 hk1' him hka
    go_upto_region 3 with fail
    go_region_with ((go_at_call 213; (refine HC.out.mono ?_; rintro e w2 ⟨v2, L2, rfl, ho2, hk2, hf2⟩); obtain ⟨A2, c2, rfl⟩ := own_form ho2; have hg2 := hk2.heap (HKA.out.heap HG1.out (by simp)) (fun hm => by
        have h9 := own_type (own_new HO1.out HKA.out) _ hm
        obtain ⟨cs9, h9⟩ := h9
        rw [HKA.out.heap HG1.out (by simp)] at h9
        simp at h9); have u0 := (cell_at hg2 (p := 0) rfl).1; have u0' := (cell_at hg2 (p := 0) rfl).2; have HG2 := Go.Lib.hid hg2; have HO2 := Go.Lib.hid ho2; have HK2 := Go.Lib.hid hk2; have HF2 := Go.Lib.hid hf2; clear ho2 hk2 hf2 hg2))
    all_goals
      obtain ⟨gr, rfl, _, hmc2, _⟩ := own_at HO2.out (by omega)
      obtain ⟨w3, hw3⟩ : ∃ w3, w3 = w2.setCell ⟨g, 0, none⟩ (.slice (some ⟨gr, 0, none⟩) (m + 1) c2) := ⟨_, rfl⟩
      rw [← hw3]
      have hg3 : w3.heap[g]? = some (.cells #[.slice (some ⟨gr, 0, none⟩) (m + 1) c2, .func (.func 79) #[] #[]] 210 (0, 0)) := by rw [hw3]; exact heap_setCell_self HG2.out
      have hk3 : Keeps [g] w2 w3 := by rw [hw3]; exact (Keeps.refl _ _).setCell (by simp) _
      have ho3 := own_kept HO2.out (fun i cs fr hi => hk3.heap hi (fun hm => by have := only_of HG2.out i hm _ _ _ hi; simp at this))
      have hkw : Keeps (g :: (Value.slice A m c).ownBlock.toList) w w3 := ((((HK1.out.trans HKA.out).mono (by simp)).trans (HK2.out.mono (fun k hk => List.mem_cons_of_mem _ hk))).trans (hk3.mono (by simp)))
      have hgr : (Value.slice A m c).ownBlock = some gr ∨ w.heap.size ≤ gr := by
        rcases HF2.out with h | ⟨G, h, h'⟩
        · exact .inl h.symm
        · right
          have e : gr = G := by simpa [Value.ownBlock] using h
          have := (HK1.out.trans HKA.out).size
          omega
      have HE : Hid (AtF g m (.slice A m c) w (.returned (.pointer (some ⟨gr, i * 7 + 2, none⟩))) w3) := Go.Lib.hid ⟨gr, c2, i, m + 1, L2, rfl, by have := HI.out; omega, by omega, hg3, ho3, hkw, hgr⟩
      have r0 := (cell_at hg3 (p := 0) rfl).1
      have i0 : (0 : Int) ≤ i := by omega
      have i1 : (i : Int) < (m : Int) + 1 := by have := HI.out; omega
      clear hw3 hg3 hk3 ho3 hkw hgr q0 q0' u0 u0'
      go_wp2_with fail
      go_ret
      exact HE.out
theorem cells4' {w : World} {g : Nat} {c0 c1 c2 c3 : Value} {t : TypeId} (h : w.heap[g]? = some (.cells #[c0, c1, c2, c3] t (0, 0))) : w.cell? ⟨g, 0, none⟩ = some c0 ∧ w.cell? ⟨g, 1, none⟩ = some c1 ∧ w.cell? ⟨g, 2, none⟩ = some c2 ∧ w.cell? ⟨g, 3, none⟩ = some c3 := by
  simp [World.cell?, h]
theorem ints_set (L : List Int) (k : Nat) (n : Int) : (ints L).set k (.int .i64 n) = ints (L.set k n) := by simp [ints, List.map_set]
/-- The table, its old row, what is new. -/
def Fresh (g : Nat) (ob : Option Nat) (gr : Nat) (w w' : World) : Prop := Keeps (g :: ob.toList) w w' ∧ (ob = some gr ∨ w.heap.size ≤ gr)
/-- What Add leaves. -/
def AddF (g m : Nat) (rows : Value) (w : World) (e : Ending) (w' : World) : Prop := ∃ (gr c m' : Nat) (L' : List Int), e = .returned (.int .i64 0) ∧ m' ≤ m + 1 ∧
  w'.heap[g]? = some (.cells #[.slice (some ⟨gr, 0, none⟩) m' c, .func (.func 79) #[] #[]] 210 (0, 0)) ∧ w'.ownsRow 0 323 7 (.slice (some ⟨gr, 0, none⟩) m' c) m' (ints L') ∧ Fresh g rows.ownBlock gr w w'
set_option maxHeartbeats 3200000 in
set_option maxRecDepth 100000 in
theorem add_ok {g m : Nat} {rows : Value} {L : List Int} {x : Sb} {w : World} (hg : w.heap[g]? = some (.cells #[rows, .func (.func 79) #[] #[]] 210 (0, 0))) (ho : w.ownsRow 0 323 7 rows m (ints L)) (hm : m ≤ 900) (hx : x.Ok) :
    Calls Tryz.prog 100 #[.pointer (some ⟨g, 0, none⟩), .agg #[.int .i64 x.c, .int .i64 x.s, .int .i64 x.p, .int .i64 x.l]] w (AddF g m rows w) := by
  go_enter Tryz.func100, Tryz.ntmps100
  go_upto_region 1 with fail
  obtain ⟨y, hy⟩ : ∃ y, y = w.heap.size := ⟨_, rfl⟩
  obtain ⟨w0, hw0⟩ : ∃ w0, w0 = w.alloc (.cells #[.int .i64 x.c, .int .i64 x.s, .int .i64 x.p, .int .i64 x.l] 30) := ⟨_, rfl⟩
  rw [← hw0, ← hy]
  have hk0 : Keeps [] w w0 := by rw [hw0]; exact (Keeps.refl _ _).alloc _
  have hy0 : w0.heap[y]? = some (.cells #[.int .i64 x.c, .int .i64 x.s, .int .i64 x.p, .int .i64 x.l] 30 (0, 0)) := by rw [hw0, hy]; exact heap_alloc_new _ _
  obtain ⟨p0, p1, p2, p3⟩ := cells4' hy0
  have hys : w.heap.size ≤ y := Nat.le_of_eq hy.symm
  have HS := Go.Lib.hid (csub_yes hx)
  have HY0 := Go.Lib.hid hy0
  have HK0 := Go.Lib.hid hk0
  clear hy hw0 hk0 hy0 hx
  go_wp2_with fail
  refine (HS.out _).mono ?_
  rintro e w1 ⟨rfl, hk1⟩
  have HK1 := Go.Lib.hid (HK0.out.trans hk1)
  have hy1 := hk1.heap HY0.out (by simp)
  have hs1 := cells4' hy1
  have HY1 := Go.Lib.hid hy1
  have hglt := lt_of_block hg
  have HOL := Go.Lib.hid (fun g' (e : rows.ownBlock = some g') => (ho.lt g' e).2)
  have HA := Go.Lib.hid (fun W (hW : Keeps [] w W) => at_ok (k1 := x.c) (k2 := x.s) (hW.heap hg (by simp)) (own_new ho hW) hm)
  have hyl : Hid (y ∉ g :: rows.ownBlock.toList) := Go.Lib.hid (fun hm => by
    rw [List.mem_cons, Option.mem_toList] at hm
    rcases hm with rfl | hm
    · omega
    · have := HOL.out _ hm
      omega)
  clear hk1 hy1 HY0 HK0 HS p0 p1 p2 p3 HOL ho
  go_upto_region 3 with fail
  go_region_held3 (fun wx => wx.cell? ⟨y, 0, none⟩ = some (.int .i64 x.c) ∧ wx.cell? ⟨y, 1, none⟩ = some (.int .i64 x.s) ∧ wx.cell? ⟨y, 2, none⟩ = some (.int .i64 x.p) ∧ wx.cell? ⟨y, 3, none⟩ = some (.int .i64 x.l))
    (first | exact hs1 | exact cells4' HY2.out | exact cells4' ((((((Keeps.refl [gr] w2).setCell (by simp) _).setCell (by simp) _).setCell (by simp) _).setCell (by simp) _).heap HY2.out hyg.out) | fail)
    ((go_at_call 156; (refine (HA.out _ (HK1.out.drew)).mono ?_; rintro e w2 ⟨gr, c2, i, m2, L2, rfl, hi2, hm2, hg2, ho2, hk2, hf2⟩); obtain ⟨cur2, hgr2, hcs2, _⟩ := own_cells ho2; have hl2 : L2.length = m2 * 7 := by { have := ho2.1; simpa [ints] using this }; obtain ⟨e0, q0⟩ := int_at ho2 (k := i * 7 + 2) (by omega); obtain ⟨e1, q1⟩ := int_at ho2 (k := i * 7 + 2 + 1) (by omega); obtain ⟨e2, q2⟩ := int_at ho2 (k := i * 7 + 2 + 2) (by omega); obtain ⟨e3, q3⟩ := int_at ho2 (k := i * 7 + 2 + 3) (by omega); have f0 := frozen_of_row w2 gr (i * 7 + 2) cur2 323 hgr2; have f1 := frozen_of_row w2 gr (i * 7 + 2 + 1) cur2 323 hgr2; have f2 := frozen_of_row w2 gr (i * 7 + 2 + 2) cur2 323 hgr2; have f3 := frozen_of_row w2 gr (i * 7 + 2 + 3) cur2 323 hgr2; have HY2 := Go.Lib.hid (hk2.heap HY1.out hyl.out); have hyg : Hid (y ∉ [gr]) := Go.Lib.hid (by { rw [List.mem_singleton]; exact block_ne HY2.out hgr2 (by simp) }); have HG2 := Go.Lib.hid hg2; have HO2 := Go.Lib.hid ho2; have HK2 := Go.Lib.hid hk2; have HF2 := Go.Lib.hid hf2; have HGR := Go.Lib.hid hgr2; clear hg2 ho2 hk2 hf2 hgr2 hcs2 hl2))
  obtain ⟨w3, hw3⟩ : ∃ w3, w3 = ((((w2.setCell ⟨gr, i * 7 + 2, none⟩ (.int .i64 x.c)).setCell ⟨gr, i * 7 + 2 + 1, none⟩ (.int .i64 x.s)).setCell ⟨gr, i * 7 + 2 + 2, none⟩ (.int .i64 x.p)).setCell ⟨gr, i * 7 + 2 + 3, none⟩ (.int .i64 x.l)) := ⟨_, rfl⟩
  rw [← hw3]
  have hk3 : Keeps [gr] w2 w3 := by rw [hw3]; exact ((((Keeps.refl [gr] w2).setCell (by simp) _).setCell (by simp) _).setCell (by simp) _).setCell (by simp) _
  have hg3 := hk3.heap HG2.out (by rw [List.mem_singleton]; exact block_ne HG2.out HGR.out (by simp))
  have ho3 : w3.ownsRow 0 323 7 (.slice (some ⟨gr, 0, none⟩) m2 c2) m2 (ints ((((L2.set (i * 7 + 2) x.c).set (i * 7 + 2 + 1) x.s).set (i * 7 + 2 + 2) x.p).set (i * 7 + 2 + 3) x.l)) := by
    rw [hw3]
    have s1 := (HO2.out.stored (i * 7 + 2) (.int .i64 x.c)).1
    rw [ints_set] at s1
    have s2 := (s1.stored (i * 7 + 2 + 1) (.int .i64 x.s)).1
    rw [ints_set] at s2
    have s3 := (s2.stored (i * 7 + 2 + 2) (.int .i64 x.p)).1
    rw [ints_set] at s3
    have s4 := (s3.stored (i * 7 + 2 + 3) (.int .i64 x.l)).1
    rw [ints_set] at s4
    exact s4
  have hfr : rows.ownBlock = some gr ∨ w.heap.size ≤ gr := HF2.out.imp id (fun h => Nat.le_trans HK1.out.size h)
  have hkw : Keeps (g :: rows.ownBlock.toList) w w3 := (((HK1.out.drew).mono (by simp)).trans HK2.out).step hk3 (fun z hz => by
    rw [List.mem_singleton.1 hz]
    exact hfr.imp (fun h => by simp [h]) id)
  have HE : Hid (AddF g m rows w (.returned (.int .i64 0)) w3) := Go.Lib.hid ⟨gr, c2, m2, _, rfl, hm2, hg3, ho3, hkw, hfr⟩
  clear hw3 hk3 hg3 ho3 hfr hkw q0 q1 q2 q3 f0 f1 f2 f3
  go_wp2_with fail
  go_ret
  exact HE.out
end Go.Proofs.YtkhalpnonijogaaGreat
