/- power.Of, Has, needs, Needs. No condition but the memory's. | rate.All: a row of subscriptions, numbers. No condition but the table's. -/
import Derived.Test.YtkhalpnonijogaaGreatX20
import Derived.Laws.BitsAllLaws
namespace Go.Proofs.YtkhalpnonijogaaGreat
open Go.RowKit

theorem or32_rng (a b : Int) : 0 ≤ bits .or .u32 a b ∧ bits .or .u32 a b < 4294967296 := by
  show 0 ≤ IntKind.u32.wrap _ ∧ IntKind.u32.wrap _ < 4294967296
  rw [IntKind.wrap_u32']
  omega
/-- Some word of 32 bits. -/
def Some32 (w : World) (e : Ending) (w' : World) : Prop := ∃ v : Int, 0 ≤ v ∧ v < 4294967296 ∧ e = .returned (.int .u32 v) ∧ w = w'
theorem of_any {g n : Nat} {l : List Int} {w : World} (hn : n = l.length) (hc : ∀ i x, l[i]? = some x → w.cell? ⟨g, i, none⟩ = some (.int .i64 x)) (hl : ∀ x ∈ l, 0 ≤ x ∧ x ≤ 31) (h9 : n ≤ 100) :
    Calls Tryz.prog 262 #[.slice (some ⟨g, 0, none⟩) n n] w (Some32 w) := by
  have HC := Go.Lib.hid hc
  have HL := Go.Lib.hid hl
  have HN := Go.Lib.hid hn
  clear hc hl hn
  go_enter Tryz.func262, Tryz.ntmps262
  go_wp2_with fail
  go_loopw [2, 7] (fun s2 sj wx => ∃ (j : Nat) (v : Int), j ≤ n ∧ 0 ≤ v ∧ v < 4294967296 ∧ sj = .int .i64 j ∧ s2 = .int .u32 v ∧ wx = w) (fun _ sj _ => n - (intOf sj).toNat)
  case atStart => exact ⟨0, 0, by omega, by omega, by omega, rfl, rfl, rfl⟩
  case round =>
    obtain ⟨j, v, hj, h0, h1, rfl, rfl, rfl⟩ := hrel
    by_cases hjn : j < n
    · obtain ⟨x, hx⟩ : ∃ x, l[j]? = some x := ⟨_, List.getElem?_eq_getElem (by have := HN.out; omega)⟩
      obtain ⟨x0, x1⟩ := HL.out x (List.mem_of_getElem? hx)
      have hcx := HC.out j x hx
      clear hx
      go_wp2_with fail
      exact ⟨⟨j + 1, _, by omega, (or32_rng _ _).1, (or32_rng _ _).2, by go_num, rfl, trivial⟩, by simp [intOf]; omega⟩
    · obtain rfl : j = n := by omega
      go_wp2_with fail
      go_ret
      exact ⟨v, h0, h1, rfl, rfl⟩
theorem has_any {v x : Int} (x0 : 0 ≤ x) (x1 : x ≤ 31) (w : World) : Calls Tryz.prog 205 #[.int .u32 v, .int .i64 x] w fun e w' => (∃ b, e = .returned (.bool b)) ∧ w = w' := by
  go_enter Tryz.func205, Tryz.ntmps205
  go_wp2_with fail
  go_ret
  exact ⟨⟨_, rfl⟩, rfl⟩
theorem of1 {a : Int} (h0 : 0 ≤ a) (h1 : a ≤ 31) (W : World) : Calls Tryz.prog 262 #[.slice (some ⟨W.heap.size, 0, none⟩) 1 1] (W.alloc (.cells #[.int .i64 a] 3)) (Some32 (W.alloc (.cells #[.int .i64 a] 3))) := by
  have hg := heap_alloc_new W (.cells #[.int .i64 a] 3)
  refine of_any (l := [a]) rfl (fun i x hx => ?_) (by simp; omega) (by omega)
  have hi : i < 1 := by simpa using (List.getElem?_eq_some_iff.1 hx).1
  obtain rfl : i = 0 := by omega
  obtain rfl : a = x := by simpa using hx
  exact (cell_at hg (p := 0) rfl).1
theorem of2 {a b : Int} (h0 : 0 ≤ a) (h1 : a ≤ 31) (h2 : 0 ≤ b) (h3 : b ≤ 31) (W : World) : Calls Tryz.prog 262 #[.slice (some ⟨W.heap.size, 0, none⟩) 2 2] (W.alloc (.cells #[.int .i64 a, .int .i64 b] 3)) (Some32 (W.alloc (.cells #[.int .i64 a, .int .i64 b] 3))) := by
  have hg := heap_alloc_new W (.cells #[.int .i64 a, .int .i64 b] 3)
  refine of_any (l := [a, b]) rfl (fun i x hx => ?_) (by simp; omega) (by omega)
  have hi : i < 2 := by simpa using (List.getElem?_eq_some_iff.1 hx).1
  obtain rfl | rfl : i = 0 ∨ i = 1 := by omega
  · obtain rfl : a = x := by simpa using hx
    exact (cell_at hg (p := 0) rfl).1
  · obtain rfl : b = x := by simpa using hx
    exact (cell_at hg (p := 1) rfl).1
def Any32 (w : World) (e : Ending) (w' : World) : Prop := ∃ v : Int, 0 ≤ v ∧ v < 4294967296 ∧ e = .returned (.int .u32 v) ∧ Keeps [] w w'
set_option maxHeartbeats 3200000 in
theorem needs_any {s : Nat} (h1 : 1 ≤ s) (h15 : s ≤ 15) (w : World) : Calls Tryz.prog 204 #[.int .i64 s] w (Any32 w) := by
  have H1 := Go.Lib.hid (fun (a : Int) (h0 : 0 ≤ a) (h1 : a ≤ 31) (W : World) => of1 h0 h1 W)
  have H2 := Go.Lib.hid (fun (a b : Int) (h0 : 0 ≤ a) (h1 : a ≤ 31) (h2 : 0 ≤ b) (h3 : b ≤ 31) (W : World) => of2 h0 h1 h2 h3 W)
  go_enter Tryz.func204, Tryz.ntmps204
  go_upto_region 2 with (go_at_call 262; (with_reducible refine (H2.out _ _ (by omega) (by omega) (by omega) (by omega) _).mono ?_); rintro e w' ⟨v, h0, h1, rfl, rfl⟩)
  obtain ⟨w1, hw1⟩ : ∃ w1, w1 = w.alloc (.cells #[.int .i64 1, .int .i64 2] 3) := ⟨_, rfl⟩
  rw [← hw1]
  have HK1 : Hid (Keeps [] w w1) := Go.Lib.hid (by rw [hw1]; exact (Keeps.refl _ _).alloc _)
  clear hw1 H2
  go_wp2_with (go_at_call 262; (with_reducible refine (H1.out _ (by omega) (by omega) _).mono ?_); rintro e w' ⟨v, h0, h1, rfl, rfl⟩)
  all_goals
    go_ret
    first
      | exact ⟨_, (or32_rng _ _).1, (or32_rng _ _).2, rfl, HK1.out.alloc _⟩
      | exact ⟨_, by assumption, by assumption, rfl, HK1.out.alloc _⟩
      | exact ⟨_, by assumption, by assumption, rfl, HK1.out⟩
/-- Ints. -/
def ints (l : List Int) : List Value := l.map (.int .i64 ·)
theorem info3 : ∃ i0, Tryz.prog.info? 3 = some i0 ∧ i0.zero = some (.int .i64 0) ∧ i0.size = 1 ∧ i0.bytes = 8 := by
  have hm : (Tryz.prog.info? 3).map (fun i => (i.zero, i.size, i.bytes)) = some (some (.int .i64 0), 1, 8) := by kernel_rfl
  obtain ⟨i0, h1, h2, h3, h4⟩ := info_parts hm
  exact ⟨i0, h1, h2, h3, h4⟩
theorem app3 {w : World} {B x n : Nat} {v : Value} {xs : List Int} {a : Int} (h : w.ownsRow B 3 1 v n (ints xs)) (hx : w.heap[x]? = some (.cells #[.int .i64 a] 3 (0, 0))) (hl : n ≤ 100000) (hB : B ≤ w.heap.size) :
    ∃ v' w', (Builtin.append_ #[25, 25] 25 #[v, .slice (some ⟨x, 0, none⟩) 1 1]).run Tryz.prog w = .ok v' w' ∧ w'.ownsRow B 3 1 v' (n + 1) (ints (xs ++ [a])) ∧ w.grownBy w' v.ownBlock := by
  obtain ⟨i0, hi, hz0, hz1, hz2⟩ := info3
  obtain ⟨v', w', e1, e2, e3, _⟩ := run_append_own_at (P := Tryz.prog) w B 25 25 3 i0 _ 1 8 Tryz.underlying25 hi hz0 hz1 hz2 rfl (by omega) v n _ h ⟨x, 0, none⟩ 1 1 [.int .i64 a] rfl
    (fun j y hj => by
      rw [Addr.add_lit, cell_of_row w x _ _ 3 (0, 0) hx]
      simpa using hj) (fun y hy => by
      simp only [List.mem_cons, List.not_mem_nil, or_false] at hy
      subst hy
      rfl) (by unfold maxLen; omega) (by omega) hB
  exact ⟨v', w', e1, by rw [ints, List.map_append]; exact e2, e3⟩
def NeedF (w : World) (e : Ending) (w' : World) : Prop := ∃ (v : Value) (xs : List Int), e = .returned (.tuple #[v, .int .i64 0]) ∧ w'.ownsRow w.heap.size 3 1 v xs.length (ints xs) ∧ (∀ x ∈ xs, 1 ≤ x ∧ x ≤ 5) ∧ xs.length ≤ 5 ∧ Keeps [] w w'
set_option maxHeartbeats 3200000 in
set_option maxRecDepth 100000 in
theorem needs_row {s : Nat} (h1 : 1 ≤ s) (h15 : s ≤ 15) (w : World) : Calls Tryz.prog 147 #[.int .i64 s] w (NeedF w) := by
  have HS := Go.Lib.hid (sensor_yes h1 h15)
  have HN := Go.Lib.hid (needs_any h1 h15)
  go_enter Tryz.func147, Tryz.ntmps147
  go_wp2_with (go_at_call 202; refine (HS.out _).mono ?_; rintro e w' ⟨rfl, rfl⟩)
  refine (HN.out _).mono ?_
  rintro e w1 ⟨m, hm0, hm1, rfl, hk1⟩
  have HK1 := Go.Lib.hid hk1
  clear hk1 HS HN
  go_wp2_with fail
  go_loopw [4, 6] (fun s4 s6 wx => ∃ (d : Nat) (xs : List Int), 1 ≤ d ∧ d ≤ 6 ∧ s6 = .int .i64 d ∧ Hid (xs.length + 1 ≤ d) ∧ Hid (∀ x ∈ xs, 1 ≤ x ∧ x ≤ 5) ∧ Hid (wx.ownsRow w.heap.size 3 1 s4 xs.length (ints xs)) ∧ Hid (Keeps [] w wx)) (fun _ s6 _ => 6 - (intOf s6).toNat)
  case atStart => exact ⟨1, [], by omega, by omega, rfl, Go.Lib.hid (by simp), Go.Lib.hid (by simp), Go.Lib.hid (World.ownsRow_nil _ _ _ _), HK1⟩
  case round =>
    obtain ⟨d, xs, hd1, hd6, rfl, HL, HX, HO, HK⟩ := hrel
    clear HK1
    by_cases hd : d < 6
    · have HH := Go.Lib.hid (has_any (v := m) (x := d) (by omega) (by omega))
      have hbb := HK.out.size
      have hll := HL.out
      obtain ⟨A4, c4, rfl⟩ := own_form HO.out
      obtain ⟨v5, w5, hr5, ho5, hg5⟩ := app3 (w := wr.alloc (.cells #[.int .i64 d] 3)) (x := wr.heap.size) (a := d) (HO.out.alloc _) (heap_alloc_new _ _) (by omega) (by simp; omega)
      have hk5 := keeps_grow (HK.out.alloc (.cells #[.int .i64 d] 3)) (HO.out.alloc _) hg5
      have HR5 := Go.Lib.hid hr5
      have HO5 := Go.Lib.hid ho5
      have HK5 := Go.Lib.hid hk5
      clear hr5 ho5 hg5 hk5 hbb hll
      go_wp2_with fail
      refine (HH.out _).mono ?_
      rintro e w' ⟨⟨b, rfl⟩, rfl⟩
      cases b
      · go_wp2_with fail
        exact ⟨⟨d + 1, xs, by omega, by omega, by go_num, Go.Lib.hid (by have := HL.out; omega), HX, HO, HK⟩, by simp [intOf]; omega⟩
      · go_wp2_with (at_builtin; refine wpList_append_run (by rfl) (by rfl) HR5.out ?_)
        refine ⟨⟨d + 1, xs ++ [(d : Int)], by omega, by omega, by go_num, Go.Lib.hid (by have := HL.out; simp; omega), Go.Lib.hid (fun x hx => ?_), Go.Lib.hid (by rw [List.length_append]; exact HO5.out), HK5⟩, by simp [intOf]; omega⟩
        rcases List.mem_append.1 hx with hx | hx
        · exact HX.out x hx
        · rw [List.mem_singleton.1 hx]; omega
    · obtain rfl : d = 6 := by omega
      go_wp2_with fail
      go_ret2
      exact ⟨_, xs, rfl, HO.out, HX.out, by have := HL.out; omega, HK.out⟩
end Go.Proofs.YtkhalpnonijogaaGreat
namespace Go.Proofs.YtkhalpnonijogaaGreat
open Go.RowKit

theorem int_at {B E sz g m c k : Nat} {L : List Int} {w : World} (h : w.ownsRow B E sz (.slice (some ⟨g, 0, none⟩) m c) m (ints L)) (hk : k < L.length) : ∃ e, w.cell? ⟨g, k, none⟩ = some (.int .i64 e) := by
  have h1 := h.cells (g := g) rfl k (.int .i64 L[k]) (by simp [ints, List.getElem?_eq_getElem hk])
  rw [Addr.add_lit, Nat.zero_add] at h1
  exact ⟨_, h1⟩
theorem info30 : ∃ i0, Tryz.prog.info? 30 = some i0 ∧ i0.zero = some (.agg #[.int .i64 0, .int .i64 0, .int .i64 0, .int .i64 0]) ∧ i0.size = 4 ∧ i0.bytes = 32 := by
  have hm : (Tryz.prog.info? 30).map (fun i => (i.zero, i.size, i.bytes)) = some (some (.agg #[.int .i64 0, .int .i64 0, .int .i64 0, .int .i64 0]), 4, 32) := by kernel_rfl
  obtain ⟨i0, h1, h2, h3, h4⟩ := info_parts hm
  exact ⟨i0, h1, h2, h3, h4⟩
theorem app30 {w : World} {B x n : Nat} {v : Value} {xs : List Int} {a b c d : Int} (h : w.ownsRow B 30 4 v n (ints xs)) (hx : w.heap[x]? = some (.cells #[.int .i64 a, .int .i64 b, .int .i64 c, .int .i64 d] 30 (0, 0))) (hl : n ≤ 100000) (hB : B ≤ w.heap.size) :
    ∃ v' w', (Builtin.append_ #[24, 24] 24 #[v, .slice (some ⟨x, 0, none⟩) 1 1]).run Tryz.prog w = .ok v' w' ∧ w'.ownsRow B 30 4 v' (n + 1) (ints (xs ++ [a, b, c, d])) ∧ w.grownBy w' v.ownBlock := by
  obtain ⟨i0, hi, hz0, hz1, hz2⟩ := info30
  obtain ⟨v', w', e1, e2, e3, _⟩ := run_append_own_at (P := Tryz.prog) w B 24 24 30 i0 _ 4 32 Tryz.underlying24 hi hz0 hz1 hz2 rfl (by omega) v n _ h ⟨x, 0, none⟩ 1 1 [.int .i64 a, .int .i64 b, .int .i64 c, .int .i64 d] rfl
    (fun j y hj => by
      rw [Addr.add_lit, cell_of_row w x _ _ 30 (0, 0) hx]
      simpa using hj) (fun y hy => by
      simp only [List.mem_cons, List.not_mem_nil, or_false] at hy
      rcases hy with rfl | rfl | rfl | rfl <;> rfl) (by unfold maxLen; omega) (by omega) hB
  exact ⟨v', w', e1, by rw [ints, List.map_append]; exact e2, e3⟩
/-- A row of subscriptions, numbers; what was there is as it was. -/
def SubsF (w : World) (n : Nat) (e : Ending) (w' : World) : Prop := ∃ (v : Value) (M : List Int), e = .returned v ∧ w'.ownsRow w.heap.size 30 4 v n (ints M) ∧ Keeps [] w w'

set_option maxHeartbeats 3200000 in
set_option maxRecDepth 100000 in
theorem all_ok {r m B : Nat} {rows fv : Value} {L : List Int} {w : World} (hr : w.heap[r]? = some (.cells #[rows, fv] 210 (0, 0))) (ho : w.ownsRow B 323 7 rows m (ints L)) (hm : m ≤ 1000) :
    Calls Tryz.prog 110 #[.pointer (some ⟨r, 0, none⟩)] w (SubsF w m) := by
  have p0 := (cell_at hr (p := 0) rfl).1
  have hL : L.length = m * 7 := by have := ho.1; simpa [ints] using this
  obtain ⟨A, c, rfl⟩ := own_form ho
  have HO := Go.Lib.hid ho
  have HL := Go.Lib.hid hL
  clear hr ho hL
  go_enter Tryz.func110, Tryz.ntmps110
  go_wp2_with fail
  go_loopw [2, 11] (fun s2 sj wx => ∃ (j : Nat) (M : List Int), j ≤ m ∧ sj = .int .i64 j ∧ Hid (wx.ownsRow w.heap.size 30 4 s2 j (ints M)) ∧ Hid (Keeps [] w wx)) (fun _ sj _ => m - (intOf sj).toNat)
  case atStart => exact ⟨0, [], by omega, rfl, Go.Lib.hid (World.ownsRow_nil _ _ _ _), Go.Lib.hid (Keeps.refl _ _)⟩
  case round =>
    obtain ⟨j, M, hj, rfl, HM, HK⟩ := hrel
    by_cases hjm : j < m
    · have hor := own_new HO.out HK.out
      obtain ⟨g, rfl, _, hmc, _⟩ := own_at hor (by omega)
      have hl := HL.out
      obtain ⟨e0, q0⟩ := int_at hor (k := j * 7) (by omega)
      obtain ⟨e1, q1⟩ := int_at hor (k := j * 7 + 1) (by omega)
      obtain ⟨e2, q2⟩ := int_at hor (k := j * 7 + 2) (by omega)
      obtain ⟨e3, q3⟩ := int_at hor (k := j * 7 + 3) (by omega)
      obtain ⟨e4, q4⟩ := int_at hor (k := j * 7 + 4) (by omega)
      obtain ⟨e5, q5⟩ := int_at hor (k := j * 7 + 5) (by omega)
      obtain ⟨e6, q6⟩ := int_at hor (k := j * 7 + 6) (by omega)
      have hbb := HK.out.size
      obtain ⟨v5, w5, hr5, ho5, hg5⟩ := app30 (w := (wr.alloc (.cells #[.int .i64 e0, .int .i64 e1, .int .i64 e2, .int .i64 e3, .int .i64 e4, .int .i64 e5, .int .i64 e6] 323)).alloc (.cells #[.int .i64 e2, .int .i64 e3, .int .i64 e4, .int .i64 e5] 30)) (x := wr.heap.size + 1) ((HM.out.alloc _).alloc _) (by rw [← World.size_alloc wr (.cells #[.int .i64 e0, .int .i64 e1, .int .i64 e2, .int .i64 e3, .int .i64 e4, .int .i64 e5, .int .i64 e6] 323)]; exact heap_alloc_new _ _) (by omega) (by simp; omega)
      have hk5 := keeps_grow ((HK.out.alloc (.cells #[.int .i64 e0, .int .i64 e1, .int .i64 e2, .int .i64 e3, .int .i64 e4, .int .i64 e5, .int .i64 e6] 323)).alloc (.cells #[.int .i64 e2, .int .i64 e3, .int .i64 e4, .int .i64 e5] 30)) ((HM.out.alloc _).alloc _) hg5
      have HR5 := Go.Lib.hid hr5
      have HO5 := Go.Lib.hid ho5
      have HK5 := Go.Lib.hid hk5
      clear hr5 ho5 hg5 hk5 hbb hor hl
      go_wp2_with (at_builtin; refine wpList_append_run (by rfl) (by rfl) HR5.out ?_)
      exact ⟨⟨j + 1, M ++ [e2, e3, e4, e5], by omega, by go_num, HO5, HK5⟩, by simp [intOf]; omega⟩
    · obtain rfl : j = m := by omega
      go_wp2_with fail
      go_ret
      exact ⟨_, M, rfl, HM.out, HK.out⟩
end Go.Proofs.YtkhalpnonijogaaGreat
