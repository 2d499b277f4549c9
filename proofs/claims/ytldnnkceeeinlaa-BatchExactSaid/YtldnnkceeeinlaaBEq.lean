/- Small contracts of the law BatchExact: packs compared, events written over, numbers copied, what is no form. No condition but the rows'. -/
import Derived.Test.YtldnnkceeeinlaaBNo
import Derived.Test.YtldnnkceeeinlaaBRefP
import Derived.Laws.OwnMore
import Derived.Test.YtldnnkceeeinlaaBEvEq
namespace Go.Proofs.Ytldnnkceeeinlaa
open Go.RowKit

theorem ztime_yes {t : Int} (h0 : 0 ≤ t) (h1 : t ≤ 1099511627776) (w : World) : Calls Try.prog 23 #[.int .i64 t] w fun e w' => e = .returned (.bool true) ∧ w = w' := by
  have d1 : decide (0 ≤ t) = true := decide_eq_true h0
  have d2 : decide (t ≤ 1099511627776) = true := decide_eq_true h1
  go_enter Try.func23, Try.ntmps23
  go_wp2
  go_ret
  exact ⟨rfl, rfl⟩
theorem ztime_no {t : Int} (h : t < 0 ∨ 1099511627776 < t) (w : World) : Calls Try.prog 23 #[.int .i64 t] w fun e w' => e = .returned (.bool false) ∧ w = w' := by
  by_cases h0 : 0 ≤ t
  · have d1 : decide (0 ≤ t) = true := decide_eq_true h0
    have d2 : decide (t ≤ 1099511627776) = false := decide_eq_false (by omega)
    go_enter Try.func23, Try.ntmps23
    go_wp2
    go_ret
    exact ⟨rfl, rfl⟩
  · have d1 : decide (0 ≤ t) = false := decide_eq_false h0
    go_enter Try.func23, Try.ntmps23
    go_wp2
    go_ret
    exact ⟨rfl, rfl⟩

/-- A row of events at a block's head. -/
def Evts (w : World) (A : Option Addr) (l : List Ev) : Prop := ∀ i x, l[i]? = some x → ∃ g, A = some ⟨g, 0, none⟩ ∧ ∀ j u, (evs x)[j]? = some u → w.cell? ⟨g, i * 6 + j, none⟩ = some u
theorem flat6_get : ∀ (l : List Ev) (i : Nat) (x : Ev) (r : Nat), l[i]? = some x → r < 6 → (l.flatMap evs)[i * 6 + r]? = (evs x)[r]? := by
  intro l
  induction l with
  | nil => intro i x r h; simp at h
  | cons y l ih =>
    intro i x r h hr
    have hy : (evs y).length = 6 := rfl
    rw [List.flatMap_cons]
    cases i with
    | zero =>
      obtain rfl : y = x := by simpa using h
      rw [List.getElem?_append_left (by omega), Nat.zero_mul, Nat.zero_add]
    | succ i =>
      rw [List.getElem?_append_right (by omega), show (i + 1) * 6 + r - (evs y).length = i * 6 + r by omega]
      exact ih i x r (by simpa using h) hr
theorem Evts.of_own {M : Nat} {w : World} {v : Value} {l : List Ev} {n : Nat} (h : w.ownsRow M 31 6 v n (l.flatMap evs)) (hn : n = l.length) : ∃ A c, v = .slice A n c ∧ Evts w A l := by
  rcases h.2 with ⟨rfl, h0⟩ | ⟨g, cap, cur, rfl, e2, e3, e4⟩
  · have : l = [] := by cases l with
      | nil => rfl
      | cons y t => simp at hn; omega
    subst this
    exact ⟨none, 0, by rw [h0], fun i x hx => by simp at hx⟩
  · refine ⟨_, _, rfl, fun i x hx => ⟨_, rfl, fun j u hu => ?_⟩⟩
    have hj : j < 6 := (List.getElem?_eq_some_iff.1 hu).1
    have h1 := flat6_get l i x j hx hj
    have := h.cells (g := g) rfl (i * 6 + j) u (by rw [h1]; exact hu)
    rwa [Addr.add_lit, Nat.zero_add] at this
theorem Evts.keeps0 {w w' : World} {A : Option Addr} {l : List Ev} (h : Evts w A l) (hk : Keeps [] w w') : Evts w' A l := by
  intro i x hx
  obtain ⟨a, ha, hc⟩ := h i x hx
  exact ⟨a, ha, fun j u hu => hk.cell (hc j u hu) (by simp)⟩

set_option maxHeartbeats 1600000 in
/-- Two equal rows of events. -/
theorem eqevents {l : List Ev} {A D : Option Addr} {n m c0 c1 : Nat} {w : World} (hn : n = l.length) (hm : m = l.length) (hA : Evts w A l) (hD : Evts w D l) (h9 : l.length ≤ 100000) :
    Calls Try.prog 41 #[.slice A n c0, .slice D m c1] w fun e w' => e = .returned (.bool true) ∧ Keeps [] w w' := by
  obtain rfl : m = n := by omega
  have HA := Go.Lib.hid hA
  have HD := Go.Lib.hid hD
  have HN := Go.Lib.hid hn
  have hm9 : m ≤ 100000 := by omega
  clear hA hD hn hm
  go_enter Try.func41, Try.ntmps41
  go_upto_region 4 with fail
  go_loopw [5] (fun i wr => ∃ k : Nat, i = .int .i64 k ∧ k ≤ m ∧ Hid (Keeps [] w wr)) (fun i _ => m - (intOf i).toNat)
  case atStart => exact ⟨0, rfl, Nat.zero_le _, Keeps.refl _ _⟩
  case round =>
    obtain ⟨k, rfl, hk, HK⟩ := hrel
    by_cases hlt : k < m
    · obtain ⟨x, hx⟩ : ∃ x, l[k]? = some x := ⟨_, List.getElem?_eq_getElem (by have := HN.out; omega)⟩
      obtain ⟨a, rfl, a0⟩ := (HA.out.keeps0 HK.out) k x hx
      obtain ⟨d, rfl, b0⟩ := (HD.out.keeps0 HK.out) k x hx
      have d1 : decide (k < m) = true := decide_eq_true hlt
      have HK2 : Hid (∀ n, Keeps [] w (wr.drewN n)) := fun n => HK.out.drewN n
      have p0 := a0 0 _ rfl
      have p1 := a0 1 _ rfl
      have p2 := a0 2 _ rfl
      have p3 := a0 3 _ rfl
      have p4 := a0 4 _ rfl
      have p5 := a0 5 _ rfl
      have q0 := b0 0 _ rfl
      have q1 := b0 1 _ rfl
      have q2 := b0 2 _ rfl
      have q3 := b0 3 _ rfl
      have q4 := b0 4 _ rfl
      have q5 := b0 5 _ rfl
      rw [Nat.add_zero] at p0 q0
      have hev := evs_eq x
      unfold evA at hev
      have hgd := evs_guard
      clear hx a0 b0
      go_wp2_with fail
      go_quiet (fail)
      go_wp2_with fail
      exact ⟨⟨k + 1, by go_num, by omega, HK2.out _⟩, by simp [intOf]; omega⟩
    · have d1 : decide (k < m) = false := decide_eq_false hlt
      go_wp2_with fail
      go_ret
      exact ⟨rfl, HK.out⟩

set_option maxHeartbeats 1600000 in
/-- Two equal packs. -/
theorem eqpack {l : List Ev} {A D : Option Addr} {n m c0 c1 : Nat} {c z : Int} {w : World} (hn : n = l.length) (hm : m = l.length) (hA : Evts w A l) (hD : Evts w D l) (h9 : l.length ≤ 100000) :
    Calls Try.prog 20 #[.agg #[.int .i64 c, .int .i64 z, .slice A n c0], .agg #[.int .i64 c, .int .i64 z, .slice D m c1]] w fun e w' => e = .returned (.bool true) ∧ Keeps [] w w' := by
  obtain ⟨w0, hw0⟩ : ∃ w0, w0 = (w.alloc (.cells #[.int .i64 c, .int .i64 z, .slice A n c0] 40)).alloc (.cells #[.int .i64 c, .int .i64 z, .slice D m c1] 40) := ⟨_, rfl⟩
  have hk : Keeps [] w w0 := by rw [hw0]; exact ((Keeps.refl _ _).alloc _).alloc _
  have HC := Go.Lib.hid (eqevents (c0 := c0) (c1 := c1) hn hm (hA.keeps0 hk) (hD.keeps0 hk) h9)
  have HK := Go.Lib.hid hk
  have HW := Go.Lib.hid hw0
  clear hA hD hn hm hk hw0
  go_enter Try.func20, Try.ntmps20
  go_wp2_with fail
  rw [← HW.out]
  refine HC.out.mono ?_
  rintro e w' ⟨rfl, hk'⟩
  have HK2 := Go.Lib.hid (HK.out.trans hk')
  clear hk'
  go_wp2
  go_ret
  exact ⟨rfl, HK2.out⟩

set_option maxHeartbeats 1600000 in
/-- Two equal rows of numbers. -/
theorem eqnums2 {l : List Int} {A D : Option Addr} {n m c0 c1 : Nat} {w : World} (hn : n = l.length) (hm : m = l.length) (hA : Nums w A l) (hD : Nums w D l) (h9 : l.length ≤ 100000) :
    Calls Try.prog 17 #[.slice A n c0, .slice D m c1] w fun e w' => e = .returned (.bool true) ∧ Keeps [] w w' := by
  obtain rfl : m = n := by omega
  have HA := Go.Lib.hid hA
  have HD := Go.Lib.hid hD
  have HN := Go.Lib.hid hn
  have hm9 : m ≤ 100000 := by omega
  clear hA hD hn hm
  go_enter Try.func17, Try.ntmps17
  go_upto_region 4 with fail
  go_loopw [5] (fun i wr => ∃ k : Nat, i = .int .i64 k ∧ k ≤ m ∧ Hid (Keeps [] w wr)) (fun i _ => m - (intOf i).toNat)
  case atStart => exact ⟨0, rfl, Nat.zero_le _, Keeps.refl _ _⟩
  case round =>
    obtain ⟨k, rfl, hk, HK⟩ := hrel
    by_cases hlt : k < m
    · obtain ⟨x, hx⟩ : ∃ x, l[k]? = some x := ⟨_, List.getElem?_eq_getElem (by have := HN.out; omega)⟩
      obtain ⟨a, rfl, a0⟩ := (HA.out.keeps0 HK.out) k x hx
      obtain ⟨d, rfl, b0⟩ := (HD.out.keeps0 HK.out) k x hx
      have d1 : decide (k < m) = true := decide_eq_true hlt
      have HK2 : Hid (∀ n, Keeps [] w (wr.drewN n)) := fun n => HK.out.drewN n
      clear hx
      go_wp2_with fail
      go_quiet (fail)
      go_wp2_with fail
      exact ⟨⟨k + 1, by go_num, by omega, HK2.out _⟩, by simp [intOf]; omega⟩
    · have d1 : decide (k < m) = false := decide_eq_false hlt
      go_wp2_with fail
      go_ret
      exact ⟨rfl, HK.out⟩

/-- What the writing over of events may do: to rows of events at M or behind. -/
structure Sp (M : Nat) (w w' : World) : Prop where
  os : w'.os = w.os
  tape : w'.tape = w.tape
  output : w'.output = w.output
  size : w.heap.size ≤ w'.heap.size
  keep : ∀ (k : Nat) (o : Obj), w.heap[k]? = some o → (k < M ∨ ∀ cs fr, o ≠ .cells cs 31 fr) → w'.heap[k]? = some o
theorem Sp.refl (M : Nat) (w : World) : Sp M w w := ⟨rfl, rfl, rfl, Nat.le_refl _, fun _ _ h _ => h⟩
theorem Sp.grow {M : Nat} {w W W' : World} (h : Sp M w W) {x : Option Nat} (hg : W.grownBy W' x) (hx : ∀ i, x = some i → M ≤ i ∧ ∃ cs fr, W.heap[i]? = some (.cells cs 31 fr)) : Sp M w W' :=
  ⟨hg.os.trans h.os, hg.tape.trans h.tape, hg.output.trans h.output, Nat.le_trans h.size hg.size, fun k o ho hc => by
    have h1 := h.keep k o ho hc
    rw [hg.block k (lt_of_block h1) (fun e => by
      obtain ⟨h2, cs, fr, h3⟩ := hx k e.symm
      rcases hc with hc | hc
      · omega
      · rw [h1] at h3; exact hc _ _ (Option.some.inj h3))]
    exact h1⟩
theorem Sp.keeps {M : Nat} {w0 w w' : World} (h : Keeps [] w0 w) (k : Sp M w w') (hB : w0.heap.size ≤ M) : Keeps [] w0 w' :=
  ⟨k.os.trans h.os, k.tape.trans h.tape, k.output.trans h.output, Nat.le_trans h.size k.size, fun i hi hs => by
    have hlt : i < w.heap.size := Nat.lt_of_lt_of_le hi h.size
    rw [k.keep i _ (Array.getElem?_eq_getElem hlt) (.inl (by omega)), ← Array.getElem?_eq_getElem hlt]
    exact h.block i hi hs⟩
theorem row31_own {M : Nat} {W : World} {v : Value} {n : Nat} {xs : List Value} (h : W.ownsRow M 31 6 v n xs) : ∀ i, v.ownBlock = some i → M ≤ i ∧ ∃ cs fr, W.heap[i]? = some (.cells cs 31 fr) := fun i hii => by
  rcases h.2 with ⟨rfl, _⟩ | ⟨g', cap, cur, rfl, e2, e3, e4⟩
  · simp [Value.ownBlock] at hii
  · obtain rfl : g' = i := by simpa [Value.ownBlock] using hii
    exact ⟨e2, _, _, e3⟩

structure Sl (M : Nat) (w : World) (v : Value) (n : Nat) (W : World) : Prop where
  row : ∃ xs, W.ownsRow M 31 6 v n xs
  sp : Sp M w W
theorem Sl.put {M : Nat} {w W : World} {g n cap : Nat} (h : Sl M w (.slice (some ⟨g, 0, none⟩) n cap) n W) (j : Nat) (u : Value) : Sl M w (.slice (some ⟨g, 0, none⟩) n cap) n (W.setCell ⟨g, j, none⟩ u) := by
  obtain ⟨xs, hx⟩ := h.row
  obtain ⟨h1, h2⟩ := hx.stored j u
  exact ⟨⟨_, h1⟩, h.sp.grow h2 (fun i hi => row31_own hx i (by simpa [Value.ownBlock] using hi))⟩

set_option maxHeartbeats 1600000 in
set_option maxRecDepth 100000 in
theorem spoil {M : Nat} {w : World} {v : Value} {n : Nat} {xs : List Value} (h : w.ownsRow M 31 6 v n xs) (hn : n ≤ 100000) (hM : M ≤ w.heap.size) :
    Calls Try.prog 21 #[v] w fun e w' => (∃ u, e = .returned u) ∧ Sp M w w' := by
  obtain ⟨A, cp, rfl⟩ := row_len h rfl
  obtain ⟨i0, hi0, hz0, hz1, hz2⟩ := info31
  have HI := Go.Lib.hid hi0
  have HZ0 := Go.Lib.hid hz0
  have HZ1 := Go.Lib.hid hz1
  have HZ2 := Go.Lib.hid hz2
  have HS0 : Hid (Sl M w (.slice A n cp) n w) := ⟨⟨_, h⟩, Sp.refl _ _⟩
  clear hi0 hz0 hz1 hz2 h
  go_enter Try.func21, Try.ntmps21
  go_upto_region 1 with fail
  go_loopw [2] (fun i wr => ∃ k : Nat, i = .int .i64 k ∧ k ≤ n ∧ Hid (Sl M w (.slice A n cp) n wr)) (fun i _ => n - (intOf i).toNat)
  case atStart => exact ⟨0, rfl, Nat.zero_le _, HS0⟩
  case round =>
    obtain ⟨k, rfl, hk, HS⟩ := hrel
    by_cases hlt : k < n
    · have d1 : decide (k < n) = true := decide_eq_true hlt
      obtain ⟨xs, hx⟩ := HS.out.row
      have hx2 := hx.2
      obtain ⟨g, rfl⟩ : ∃ g, A = some ⟨g, 0, none⟩ := by
        rcases hx2 with ⟨_, h0⟩ | ⟨g, cap, cur, hv, _⟩
        · omega
        · simp only [Value.slice.injEq] at hv
          exact ⟨g, hv.1⟩
      have hxl := hx.1
      have hc : ∀ j, j < 6 → (∃ u, wr.cell? ⟨g, k * 6 + j, none⟩ = some u) ∧ wr.frozen? ⟨g, k * 6 + j, none⟩ = false := fun j hj => by
        refine ⟨?_, hx.frozenAt _⟩
        have hlt2 : k * 6 + j < n * 6 := by omega
        rw [hx.cellAt _ hlt2]
        exact ⟨_, List.getElem?_eq_getElem (by omega)⟩
      obtain ⟨⟨u0, p0⟩, f0⟩ := hc 0 (by omega)
      obtain ⟨⟨u1, p1⟩, f1⟩ := hc 1 (by omega)
      obtain ⟨⟨u2, p2⟩, f2⟩ := hc 2 (by omega)
      obtain ⟨⟨u3, p3⟩, f3⟩ := hc 3 (by omega)
      obtain ⟨⟨u4, p4⟩, f4⟩ := hc 4 (by omega)
      obtain ⟨⟨u5, p5⟩, f5⟩ := hc 5 (by omega)
      rw [Nat.add_zero] at p0 f0
      have HS2 := Go.Lib.hid (((((((HS.out.put (k * 6) (.int .i64 99)).put (k * 6 + 1) (.int .i64 0)).put (k * 6 + 2) (.int .i64 0)).put (k * 6 + 3) (.int .i64 0)).put (k * 6 + 4) (.int .i64 0)).put (k * 6 + 5) (.int .i64 0)))
      clear hx hx2 hxl hc
      go_wp2_with fail
      exact ⟨⟨k + 1, by go_num, by omega, HS2⟩, by simp [intOf]; omega⟩
    · have d1 : decide (k < n) = false := decide_eq_false hlt
      obtain ⟨xs, hx⟩ := HS.out.row
      have HX := Go.Lib.hid hx
      have hsz := HS.out.sp.size
      clear hx
      go_wp2_with (at_builtin; refine wpList_append_own _ rfl _ _ 38 rfl M 31 i0 ev0 6 48 Try.underlying38 HI.out HZ0.out HZ1.out HZ2.out rfl (by decide) _ n _ rfl (HX.out.alloc _) ⟨wr.heap.size, 0, none⟩ 1 1 [.int .i64 0, .int .i64 0, .int .i64 0, .int .i64 0, .int .i64 0, .int .i64 0] rfl rfl ?c1 ?c2 ?c3 ?c4 ?c5 ?_)
      case c1 =>
        intro j u hj
        rw [Addr.add_lit, Nat.zero_add]
        exact (cell_at (heap_alloc_new _ _) (by rw [List.getElem?_toArray]; exact hj)).1
      case c2 =>
        intro u hu
        simp only [List.mem_cons, List.not_mem_nil, or_false] at hu
        rcases hu with rfl | rfl | rfl | rfl | rfl | rfl <;> rfl
      case c3 => unfold maxLen; omega
      case c4 => omega
      case c5 => simp; omega
      intro v' w3 hown hgrow _
      have HF : Hid (Sp M w w3) := (HS.out.sp.grow (x := none) (W' := wr.alloc (.cells #[.int .i64 0, .int .i64 0, .int .i64 0, .int .i64 0, .int .i64 0, .int .i64 0] 31)) ⟨rfl, rfl, rfl, by simp, fun k hk _ => Below.heap_alloc _ _ _ hk⟩ (by simp)).grow hgrow (fun i hi => row31_own (HX.out.alloc _) i hi)
      clear hown hgrow
      go_wp2
      go_end0
      exact ⟨⟨_, rfl⟩, HF.out⟩
end Go.Proofs.Ytldnnkceeeinlaa
