/- rate: find: some place. No condition but the table's. -/
import Derived.Test.YtkhalpnonijogaaGreatX19
import Derived.Test.YtkhalpnonijogaaGreatX22
namespace Go.Proofs.YtkhalpnonijogaaGreat
open Go.RowKit

/-- A table of subscriptions behind a pointer, and the box that the closure holds. -/
structure CmpIs (w : World) (bx g : Nat) : Prop where
  b : w.heap[bx]? = some (.cells #[.pointer (some ⟨g, 0, none⟩)] 405 (0, 0))
  g : ∃ rows, w.heap[g]? = some (.cells #[rows, .func (.func 79) #[] #[]] 210 (0, 0))
theorem CmpIs.new {w w' : World} {bx g : Nat} (h : CmpIs w bx g) (hk : Keeps [] w w') : CmpIs w' bx g := by
  obtain ⟨rows, hg⟩ := h.g
  exact ⟨hk.heap h.b (by simp), rows, hk.heap hg (by simp)⟩
set_option maxHeartbeats 1600000 in
theorem cl_any {bx g : Nat} {w : World} (h : CmpIs w bx g) (a0 a1 a2 a3 a4 a5 a6 b0 b1 : Int) :
    Calls Tryz.prog 261 #[.agg #[.int .i64 a0, .int .i64 a1, .int .i64 a2, .int .i64 a3, .int .i64 a4, .int .i64 a5, .int .i64 a6], .agg #[.int .i64 b0, .int .i64 b1], .pointer (some ⟨bx, 0, none⟩)] w (SomeInt w) := by
  have HC := Go.Lib.hid order_any
  have H := Go.Lib.hid h
  clear h
  go_enter Tryz.func261, Tryz.ntmps261
  go_upto_region 1 with fail
  obtain ⟨x, hx⟩ : ∃ x, x = w.heap.size := ⟨_, rfl⟩
  obtain ⟨w0, hw0⟩ : ∃ w0, w0 = (w.alloc (.cells #[.int .i64 a0, .int .i64 a1, .int .i64 a2, .int .i64 a3, .int .i64 a4, .int .i64 a5, .int .i64 a6] 323)).alloc (.cells #[.int .i64 b0, .int .i64 b1] 285) := ⟨_, rfl⟩
  rw [← hw0, ← hx]
  have hk0 : Keeps [] w w0 := by rw [hw0]; exact ((Keeps.refl _ _).alloc _).alloc _
  have h1 : w0.heap[x]? = some (.cells #[.int .i64 a0, .int .i64 a1, .int .i64 a2, .int .i64 a3, .int .i64 a4, .int .i64 a5, .int .i64 a6] 323 (0, 0)) := by
    rw [hw0, Below.heap_alloc _ _ _ (by simp [hx]), hx]; exact heap_alloc_new _ _
  have h2 : w0.heap[x + 1]? = some (.cells #[.int .i64 b0, .int .i64 b1] 285 (0, 0)) := by
    rw [hw0, hx, ← World.size_alloc w (.cells #[.int .i64 a0, .int .i64 a1, .int .i64 a2, .int .i64 a3, .int .i64 a4, .int .i64 a5, .int .i64 a6] 323)]; exact heap_alloc_new _ _
  obtain ⟨rows, hg⟩ := (H.out.new hk0).g
  have hs0 : w0.cell? ⟨x, 0, none⟩ = some (.int .i64 a0) ∧ w0.cell? ⟨x, 1, none⟩ = some (.int .i64 a1) ∧ w0.cell? ⟨x + 1, 0, none⟩ = some (.int .i64 b0) ∧ w0.cell? ⟨x + 1, 1, none⟩ = some (.int .i64 b1) ∧ w0.cell? ⟨bx, 0, none⟩ = some (.pointer (some ⟨g, 0, none⟩)) ∧ w0.cell? ⟨g, 1, none⟩ = some (.func (.func 79) #[] #[]) :=
    ⟨(cell_at h1 (p := 0) rfl).1, (cell_at h1 (p := 1) rfl).1, (cell_at h2 (p := 0) rfl).1, (cell_at h2 (p := 1) rfl).1, (cell_at (H.out.new hk0).b (p := 0) rfl).1, (cell_at hg (p := 1) rfl).1⟩
  have HK0 := Go.Lib.hid hk0
  clear hw0 hx hk0 h1 h2 hg
  go_region_held3 (fun wx => wx.cell? ⟨x, 0, none⟩ = some (.int .i64 a0) ∧ wx.cell? ⟨x, 1, none⟩ = some (.int .i64 a1) ∧ wx.cell? ⟨x + 1, 0, none⟩ = some (.int .i64 b0) ∧ wx.cell? ⟨x + 1, 1, none⟩ = some (.int .i64 b1) ∧ wx.cell? ⟨bx, 0, none⟩ = some (.pointer (some ⟨g, 0, none⟩)) ∧ wx.cell? ⟨g, 1, none⟩ = some (.func (.func 79) #[] #[]))
    (first | exact hs0 | exact hs1 | fail)
    ((go_at_call 79; (refine (HC.out _ _ _ _ _).mono ?_; rintro e w1 ⟨n, rfl, hk1⟩); have HK1 := Go.Lib.hid hk1; have hs1 : w1.cell? ⟨x, 0, none⟩ = some (.int .i64 a0) ∧ w1.cell? ⟨x, 1, none⟩ = some (.int .i64 a1) ∧ w1.cell? ⟨x + 1, 0, none⟩ = some (.int .i64 b0) ∧ w1.cell? ⟨x + 1, 1, none⟩ = some (.int .i64 b1) ∧ w1.cell? ⟨bx, 0, none⟩ = some (.pointer (some ⟨g, 0, none⟩)) ∧ w1.cell? ⟨g, 1, none⟩ = some (.func (.func 79) #[] #[]) := ⟨hk1.cell hs0.1 (by simp), hk1.cell hs0.2.1 (by simp), hk1.cell hs0.2.2.1 (by simp), hk1.cell hs0.2.2.2.1 (by simp), hk1.cell hs0.2.2.2.2.1 (by simp), hk1.cell hs0.2.2.2.2.2 (by simp)⟩; clear hk1))
  go_wp2_with fail
  go_ret
  exact ⟨_, rfl, (HK0.out.drew).trans HK1.out⟩
def FoundF (m : Nat) (w : World) (e : Ending) (w' : World) : Prop := ∃ (i : Nat) (b : Bool), e = .returned (.tuple #[.int .i64 i, .bool b]) ∧ i ≤ m ∧ (b = true → i < m) ∧ Keeps [] w w'
theorem key_cells {w : World} {y : Nat} {k1 k2 : Int} (h : w.heap[y]? = some (.cells #[.int .i64 k1, .int .i64 k2] 285 (0, 0))) : w.cell? ⟨y, 0, none⟩ = some (.int .i64 k1) ∧ w.cell? ⟨y, 1, none⟩ = some (.int .i64 k2) := ⟨(cell_at h (p := 0) rfl).1, (cell_at h (p := 1) rfl).1⟩
theorem keep9 {w w' : World} {a0 a1 a2 a3 a4 a5 a6 a7 a8 : Addr} {v0 v1 v2 v3 v4 v5 v6 v7 v8 : Value} (hk : Keeps [] w w') (h : w.cell? a0 = some v0 ∧ w.cell? a1 = some v1 ∧ w.cell? a2 = some v2 ∧ w.cell? a3 = some v3 ∧ w.cell? a4 = some v4 ∧ w.cell? a5 = some v5 ∧ w.cell? a6 = some v6 ∧ w.cell? a7 = some v7 ∧ w.cell? a8 = some v8) :
    w'.cell? a0 = some v0 ∧ w'.cell? a1 = some v1 ∧ w'.cell? a2 = some v2 ∧ w'.cell? a3 = some v3 ∧ w'.cell? a4 = some v4 ∧ w'.cell? a5 = some v5 ∧ w'.cell? a6 = some v6 ∧ w'.cell? a7 = some v7 ∧ w'.cell? a8 = some v8 := by
  obtain ⟨h0, h1, h2, h3, h4, h5, h6, h7, h8⟩ := h
  exact ⟨hk.cell h0 (by simp), hk.cell h1 (by simp), hk.cell h2 (by simp), hk.cell h3 (by simp), hk.cell h4 (by simp), hk.cell h5 (by simp), hk.cell h6 (by simp), hk.cell h7 (by simp), hk.cell h8 (by simp)⟩
set_option maxHeartbeats 3200000 in
set_option maxRecDepth 100000 in
theorem bsearch_ok {bx g B m : Nat} {rows : Value} {L : List Int} {k1 k2 : Int} {w : World} (h : CmpIs w bx g) (ho : w.ownsRow B 323 7 rows m (ints L)) (hm : m ≤ 1000) :
    Calls Tryz.prog 260 #[rows, .agg #[.int .i64 k1, .int .i64 k2], .func (.func 261) #[] #[.pointer (some ⟨bx, 0, none⟩)]] w (FoundF m w) := by
  have hL : L.length = m * 7 := by have := ho.1; simpa [ints] using this
  obtain ⟨A, c, rfl⟩ := own_form ho
  have HL := Go.Lib.hid hL
  go_enter Tryz.func260, Tryz.ntmps260
  go_upto_region 1 with fail
  obtain ⟨y, hy⟩ : ∃ y, y = w.heap.size := ⟨_, rfl⟩
  obtain ⟨w0, hw0⟩ : ∃ w0, w0 = w.alloc (.cells #[.int .i64 k1, .int .i64 k2] 285) := ⟨_, rfl⟩
  rw [← hw0, ← hy]
  have hk0 : Keeps [] w w0 := by rw [hw0]; exact (Keeps.refl _ _).alloc _
  have hy0 : w0.heap[y]? = some (.cells #[.int .i64 k1, .int .i64 k2] 285 (0, 0)) := by rw [hw0, hy]; exact heap_alloc_new _ _
  have H := Go.Lib.hid (h.new hk0)
  have HO := Go.Lib.hid (own_new ho hk0)
  have HY := Go.Lib.hid hy0
  have HK0 := Go.Lib.hid hk0
  clear hL h ho hy hw0 hk0 hy0
  go_wp2_with fail
  go_loopw [9, 10] (fun s9 s10 wx => ∃ (i j : Nat), i ≤ j ∧ j ≤ m ∧ s9 = .int .i64 i ∧ s10 = .int .i64 j ∧ Hid (Keeps [] w0 wx)) (fun s9 s10 _ => (intOf s10).toNat - (intOf s9).toNat)
  case atStart => exact ⟨0, m, by omega, by omega, rfl, rfl, Go.Lib.hid (Keeps.refl _ _)⟩
  case round =>
    obtain ⟨i, j, hij, hjm, rfl, rfl, HK⟩ := hrel
    by_cases hlt : i < j
    · have hor := own_new HO.out HK.out
      obtain ⟨gr, rfl, _, hmc, _⟩ := own_at hor (by omega)
      obtain ⟨p, hp⟩ : ∃ p, p = (i + j) / 2 := ⟨_, rfl⟩
      have hpi : i ≤ p := by omega
      have hpj : p < j := by omega
      have HP := Go.Lib.hid hp
      clear hp
      go_upto_region 5 with fail
      have hpp : ((i : Int) + j) / 2 = p := by have := HP.out; omega
      rw [hpp]
      have hl := HL.out
      obtain ⟨e0, q0⟩ := int_at hor (k := p * 7) (by omega)
      obtain ⟨e1, q1⟩ := int_at hor (k := p * 7 + 1) (by omega)
      obtain ⟨e2, q2⟩ := int_at hor (k := p * 7 + 2) (by omega)
      obtain ⟨e3, q3⟩ := int_at hor (k := p * 7 + 3) (by omega)
      obtain ⟨e4, q4⟩ := int_at hor (k := p * 7 + 4) (by omega)
      obtain ⟨e5, q5⟩ := int_at hor (k := p * 7 + 5) (by omega)
      obtain ⟨e6, q6⟩ := int_at hor (k := p * 7 + 6) (by omega)
      obtain ⟨r0, r1⟩ := key_cells (HK.out.heap HY.out (by simp))
      have hs0 := And.intro q0 (And.intro q1 (And.intro q2 (And.intro q3 (And.intro q4 (And.intro q5 (And.intro q6 (And.intro r0 r1)))))))
      have i0 : (0 : Int) ≤ p := by omega
      have i1 : (p : Int) < m := by omega
      have HCL := Go.Lib.hid (fun W (hW : Keeps [] wr W) => cl_any ((H.out.new HK.out).new hW) e0 e1 e2 e3 e4 e5 e6 k1 k2)
      clear hpp hor hl q0 q1 q2 q3 q4 q5 q6 r0 r1
      go_region_held3 (fun wx => wx.cell? ⟨gr, p * 7, none⟩ = some (.int .i64 e0) ∧ wx.cell? ⟨gr, p * 7 + 1, none⟩ = some (.int .i64 e1) ∧ wx.cell? ⟨gr, p * 7 + 2, none⟩ = some (.int .i64 e2) ∧ wx.cell? ⟨gr, p * 7 + 3, none⟩ = some (.int .i64 e3) ∧ wx.cell? ⟨gr, p * 7 + 4, none⟩ = some (.int .i64 e4) ∧ wx.cell? ⟨gr, p * 7 + 5, none⟩ = some (.int .i64 e5) ∧ wx.cell? ⟨gr, p * 7 + 6, none⟩ = some (.int .i64 e6) ∧ wx.cell? ⟨y, 0, none⟩ = some (.int .i64 k1) ∧ wx.cell? ⟨y, 1, none⟩ = some (.int .i64 k2))
        (first | exact hs0 | exact keep9 HK1.out hs0 | fail)
        ((go_at_call 261; (refine (HCL.out _ (Keeps.refl _ _).drew).mono ?_; rintro e w1 ⟨n, rfl, hk1⟩); have HK1 := Go.Lib.hid hk1; clear hk1))
      have HK2 : Hid (Keeps [] w0 w1) := Go.Lib.hid ((HK.out.drew).trans HK1.out)
      clear hs0 HCL i0 i1
      by_cases hn : n < 0
      · have hn' : decide (n < 0) = true := decide_eq_true hn
        go_wp2_with fail
        exact ⟨⟨p + 1, j, by omega, by omega, by go_num, rfl, HK2⟩, by simp [intOf]; omega⟩
      · have hn' : decide (n < 0) = false := decide_eq_false hn
        go_wp2_with fail
        exact ⟨⟨i, p, by omega, by omega, rfl, rfl, HK2⟩, by simp [intOf]; omega⟩
    · obtain rfl : i = j := by omega
      by_cases him : i < m
      · have hor := own_new HO.out HK.out
        obtain ⟨gr, rfl, _, hmc, _⟩ := own_at hor (by omega)
        have hl := HL.out
        obtain ⟨e0, q0⟩ := int_at hor (k := i * 7) (by omega)
        obtain ⟨e1, q1⟩ := int_at hor (k := i * 7 + 1) (by omega)
        obtain ⟨e2, q2⟩ := int_at hor (k := i * 7 + 2) (by omega)
        obtain ⟨e3, q3⟩ := int_at hor (k := i * 7 + 3) (by omega)
        obtain ⟨e4, q4⟩ := int_at hor (k := i * 7 + 4) (by omega)
        obtain ⟨e5, q5⟩ := int_at hor (k := i * 7 + 5) (by omega)
        obtain ⟨e6, q6⟩ := int_at hor (k := i * 7 + 6) (by omega)
        obtain ⟨r0, r1⟩ := key_cells (HK.out.heap HY.out (by simp))
        have hs0 := And.intro q0 (And.intro q1 (And.intro q2 (And.intro q3 (And.intro q4 (And.intro q5 (And.intro q6 (And.intro r0 r1)))))))
        have i0 : (0 : Int) ≤ i := by omega
        have i1 : (i : Int) < m := by omega
        have i2 : decide ((i : Int) < m) = true := decide_eq_true i1
        have i3 : decide (i < m) = true := decide_eq_true him
        have HCL := Go.Lib.hid (fun W (hW : Keeps [] wr W) => cl_any ((H.out.new HK.out).new hW) e0 e1 e2 e3 e4 e5 e6 k1 k2)
        clear hor hl q0 q1 q2 q3 q4 q5 q6 r0 r1
        go_upto_region 8 with fail
        go_region_held3 (fun wx => wx.cell? ⟨gr, i * 7, none⟩ = some (.int .i64 e0) ∧ wx.cell? ⟨gr, i * 7 + 1, none⟩ = some (.int .i64 e1) ∧ wx.cell? ⟨gr, i * 7 + 2, none⟩ = some (.int .i64 e2) ∧ wx.cell? ⟨gr, i * 7 + 3, none⟩ = some (.int .i64 e3) ∧ wx.cell? ⟨gr, i * 7 + 4, none⟩ = some (.int .i64 e4) ∧ wx.cell? ⟨gr, i * 7 + 5, none⟩ = some (.int .i64 e5) ∧ wx.cell? ⟨gr, i * 7 + 6, none⟩ = some (.int .i64 e6) ∧ wx.cell? ⟨y, 0, none⟩ = some (.int .i64 k1) ∧ wx.cell? ⟨y, 1, none⟩ = some (.int .i64 k2))
          (first | exact hs0 | exact keep9 HK1.out hs0 | fail)
          ((go_at_call 261; (refine (HCL.out _ (Keeps.refl _ _).drew).mono ?_; rintro e w1 ⟨n, rfl, hk1⟩); have HK1 := Go.Lib.hid hk1; clear hk1))
        go_wp2_with fail
        go_ret2
        exact ⟨i, _, rfl, by omega, fun _ => him, (HK0.out.trans (HK.out.drew)).trans HK1.out⟩
      · have i2 : decide ((i : Int) < m) = false := decide_eq_false (by omega)
        have i3 : decide (i < m) = false := decide_eq_false him
        go_upto_region 8 with fail
        go_quiet (fail)
        go_wp2_with fail
        go_ret2
        exact ⟨i, false, rfl, by omega, fun h => by simp at h, HK0.out.trans (HK.out.drewN _)⟩
set_option maxHeartbeats 1600000 in
theorem find_ok {g B m : Nat} {rows : Value} {L : List Int} {k1 k2 : Int} {w : World} (hg : w.heap[g]? = some (.cells #[rows, .func (.func 79) #[] #[]] 210 (0, 0))) (ho : w.ownsRow B 323 7 rows m (ints L)) (hm : m ≤ 1000) :
    Calls Tryz.prog 203 #[.pointer (some ⟨g, 0, none⟩), .agg #[.int .i64 k1, .int .i64 k2]] w (FoundF m w) := by
  obtain ⟨A, c, rfl⟩ := own_form ho
  go_enter Tryz.func203, Tryz.ntmps203
  go_upto_region 1 with fail
  obtain ⟨x, hx⟩ : ∃ x, x = w.heap.size := ⟨_, rfl⟩
  obtain ⟨w0, hw0⟩ : ∃ w0, w0 = (w.alloc (.cells #[.pointer (some ⟨g, 0, none⟩)] 405)).alloc (.cells #[.int .i64 k1, .int .i64 k2] 285) := ⟨_, rfl⟩
  rw [← hw0, ← hx]
  have hk0 : Keeps [] w w0 := by rw [hw0]; exact ((Keeps.refl _ _).alloc _).alloc _
  have h1 : w0.heap[x]? = some (.cells #[.pointer (some ⟨g, 0, none⟩)] 405 (0, 0)) := by
    rw [hw0, Below.heap_alloc _ _ _ (by simp [hx]), hx]; exact heap_alloc_new _ _
  have h2 : w0.heap[x + 1]? = some (.cells #[.int .i64 k1, .int .i64 k2] 285 (0, 0)) := by
    rw [hw0, hx, ← World.size_alloc w (.cells #[.pointer (some ⟨g, 0, none⟩)] 405)]; exact heap_alloc_new _ _
  have hg0 := hk0.heap hg (by simp)
  have hs0 : w0.cell? ⟨x, 0, none⟩ = some (.pointer (some ⟨g, 0, none⟩)) ∧ w0.cell? ⟨x + 1, 0, none⟩ = some (.int .i64 k1) ∧ w0.cell? ⟨x + 1, 1, none⟩ = some (.int .i64 k2) ∧ w0.cell? ⟨g, 0, none⟩ = some (.slice A m c) :=
    ⟨(cell_at h1 (p := 0) rfl).1, (cell_at h2 (p := 0) rfl).1, (cell_at h2 (p := 1) rfl).1, (cell_at hg0 (p := 0) rfl).1⟩
  have HB := Go.Lib.hid (fun W (hW : Keeps [] w0 W) => bsearch_ok (k1 := k1) (k2 := k2) (CmpIs.new ⟨h1, _, hg0⟩ hW) (own_new (own_new ho hk0) hW) hm)
  have HK0 := Go.Lib.hid hk0
  clear hw0 hx hk0 h1 h2 hg0 ho hg
  go_region_held3 (fun wx => wx.cell? ⟨x, 0, none⟩ = some (.pointer (some ⟨g, 0, none⟩)) ∧ wx.cell? ⟨x + 1, 0, none⟩ = some (.int .i64 k1) ∧ wx.cell? ⟨x + 1, 1, none⟩ = some (.int .i64 k2) ∧ wx.cell? ⟨g, 0, none⟩ = some (.slice A m c))
    (first | exact hs0 | exact ⟨HK1.out.cell hs0.1 (by simp), HK1.out.cell hs0.2.1 (by simp), HK1.out.cell hs0.2.2.1 (by simp), HK1.out.cell hs0.2.2.2 (by simp)⟩ | fail)
    ((go_at_call 260; (refine (HB.out _ (Keeps.refl _ _).drew).mono ?_; rintro e w1 ⟨i, b, rfl, hi, hb, hk1⟩); have HK1 := Go.Lib.hid hk1; have HI := Go.Lib.hid (And.intro hi hb); clear hk1 hi hb))
  go_wp2_with fail
  go_ret2
  exact ⟨i, b, rfl, HI.out.1, HI.out.2, (HK0.out.drew).trans HK1.out⟩
end Go.Proofs.YtkhalpnonijogaaGreat
