/- 'Decode' and 'Begins'. No condition but the row's. | slices.Grow and slices.Concat of bytes. No condition but the rows'. -/
import Derived.Test.YtkhalpnonijogaaGreatX06
import Derived.Test.YtkhalpnonijogaaGreatWZeros
import Derived.Maps.AppendAt
import Derived.Laws.AppendOwnNone
namespace Go.Proofs.YtkhalpnonijogaaGreat
open Go.RowKit

def NoF (mb : Bool) (w : World) (e : Ending) (w' : World) : Prop := e = .returned (.tuple #[noFrame, .int .i64 0, .bool mb]) ∧ Keeps [] w w'
def FullF (f : Frm) (w : World) (e : Ending) (w' : World) : Prop := ∃ v, e = .returned (.tuple #[v, .int .i64 ((f.pay.length + 7 : Nat) : Int), .bool true]) ∧ FrmIs w.heap.size f w' v ∧ Keeps [] w w'

/-- Three cells stored. -/
def set3 (w : World) (b : Nat) (v0 v1 v2 : Value) : World := ((w.setCell ⟨b, 0, none⟩ v0).setCell ⟨b, 1, none⟩ v1).setCell ⟨b, 2, none⟩ v2
theorem set3_heap {w : World} {b : Nat} {c0 c1 c2 v0 v1 v2 : Value} {t : TypeId} (h : w.heap[b]? = some (.cells #[c0, c1, c2] t (0, 0))) : (set3 w b v0 v1 v2).heap[b]? = some (.cells #[v0, v1, v2] t (0, 0)) := by
  have s1 := heap_setCell_self (off := 0) (v := v0) h
  have s2 := heap_setCell_self (off := 1) (v := v1) s1
  have s3 := heap_setCell_self (off := 2) (v := v2) s2
  unfold set3
  rw [s3]
  simp
theorem set3_keeps {S : List Nat} {a w : World} {b : Nat} (h : Keeps S a w) (hb : a.heap.size ≤ b) (v0 v1 v2 : Value) : Keeps S a (set3 w b v0 v1 v2) := ((h.setNew hb _).setNew hb _).setNew hb _
theorem set3_far {w : World} {b i : Nat} {o : Obj} (h : w.heap[i]? = some o) (hi : i ≠ b) (v0 v1 v2 : Value) : (set3 w b v0 v1 v2).heap[i]? = some o := by
  unfold set3
  rw [Below.heap_setCell _ _ _ _ hi, Below.heap_setCell _ _ _ _ hi, Below.heap_setCell _ _ _ _ hi]
  exact h

set_option maxHeartbeats 800000 in
set_option maxRecDepth 100000 in
theorem decode_no {mb : Bool} {A : Option Addr} {n c : Nat} {w : World} (h : ∀ W, Keeps [] w W → Calls Tryz.prog 151 #[.slice A n c] W (NoF mb W)) :
    Calls Tryz.prog 95 #[.slice A n c] w fun e w' => e = .returned (.tuple #[noFrame, .int .i64 0, .int .i64 1]) ∧ Keeps [] w w' := by
  obtain ⟨w0, hw0⟩ : ∃ w0, w0 = w.alloc (.cells #[.int .i64 0, .int .i64 0, .slice none 0 0] 63) := ⟨_, rfl⟩
  obtain ⟨b, hb⟩ : ∃ b, b = w.heap.size := ⟨_, rfl⟩
  have hk0 : Keeps [] w w0 := by rw [hw0]; exact (Keeps.refl _ _).alloc _
  have hx0 : w0.heap[b]? = some (.cells #[.int .i64 0, .int .i64 0, .slice none 0 0] 63 (0, 0)) := by rw [hw0, hb]; exact heap_alloc_new _ _
  have HC := Go.Lib.hid (h w0 hk0)
  have HW := Go.Lib.hid hw0
  have HB := Go.Lib.hid hb
  have HK0 := Go.Lib.hid hk0
  have HX0 := Go.Lib.hid hx0
  clear h hw0 hb hk0 hx0
  go_enter Tryz.func95, Tryz.ntmps95
  go_wp2_with fail
  rw [← HW.out, ← HB.out]
  refine HC.out.mono ?_
  rintro e w1 ⟨rfl, hk1⟩
  have hx1 := hk1.heap HX0.out (by simp)
  obtain ⟨p0, p0'⟩ := cell_at hx1 (p := 0) rfl
  obtain ⟨p1, p1'⟩ := cell_at hx1 (p := 1) rfl
  obtain ⟨p2, p2'⟩ := cell_at hx1 (p := 2) rfl
  have HX1 := Go.Lib.hid hx1
  have HK1 := Go.Lib.hid (HK0.out.trans hk1)
  clear hk1 hx1
  unfold noFrame
  go_wp2_with fail
  obtain ⟨W3, hW3⟩ : ∃ W3, W3 = set3 (set3 w1 b (.int .i64 0) (.int .i64 0) (.slice none 0 0)) b (.int .i64 0) (.int .i64 0) (.slice none 0 0) := ⟨_, rfl⟩
  have hx3 : W3.heap[b]? = some (.cells #[.int .i64 0, .int .i64 0, .slice none 0 0] 63 (0, 0)) := by rw [hW3]; exact set3_heap (set3_heap HX1.out)
  have hk3 : Keeps [] w W3 := by
    have h2 : w.heap.size ≤ b := by rw [HB.out]; exact Nat.le_refl _
    rw [hW3]; exact set3_keeps (set3_keeps HK1.out h2 _ _ _) h2 _ _ _
  have u0 := (cell_at hx3 (p := 0) rfl).1
  have u1 := (cell_at hx3 (p := 1) rfl).1
  have u2 := (cell_at hx3 (p := 2) rfl).1
  unfold set3 at hW3
  rw [← hW3]
  refine bodyPost_ret (v := .tuple #[.agg #[.int .i64 0, .int .i64 0, .slice none 0 0], .int .i64 0, .int .i64 1]) (by simp [results, Tryz.f95, go_sem, u0, u1, u2]) rfl ?_
  exact ⟨rfl, hk3⟩

set_option maxHeartbeats 800000 in
set_option maxRecDepth 100000 in
theorem decode_full {f : Frm} (hf : f.Ok) {A : Option Addr} {n c : Nat} {w : World} (h : ∀ W, Keeps [] w W → Calls Tryz.prog 151 #[.slice A n c] W (FullF f W)) :
    Calls Tryz.prog 95 #[.slice A n c] w fun e w' => ∃ v, e = .returned (.tuple #[v, .int .i64 ((f.pay.length + 7 : Nat) : Int), .int .i64 0]) ∧ FrmIs w.heap.size f w' v ∧ Keeps [] w w' := by
  obtain ⟨w0, hw0⟩ : ∃ w0, w0 = w.alloc (.cells #[.int .i64 0, .int .i64 0, .slice none 0 0] 63) := ⟨_, rfl⟩
  obtain ⟨b, hb⟩ : ∃ b, b = w.heap.size := ⟨_, rfl⟩
  have hk0 : Keeps [] w w0 := by rw [hw0]; exact (Keeps.refl _ _).alloc _
  have hx0 : w0.heap[b]? = some (.cells #[.int .i64 0, .int .i64 0, .slice none 0 0] 63 (0, 0)) := by rw [hw0, hb]; exact heap_alloc_new _ _
  have HC := Go.Lib.hid (h w0 hk0)
  have HW := Go.Lib.hid hw0
  have HB := Go.Lib.hid hb
  have HK0 := Go.Lib.hid hk0
  have HX0 := Go.Lib.hid hx0
  have hpl := hf.pay
  obtain ⟨m, hm⟩ : ∃ m, m = f.pay.length + 7 := ⟨_, rfl⟩
  have e0 : ((m : Int) == 0) = false := by simp; omega
  have e1 : (m == 0) = false := by simp; omega
  have HM := Go.Lib.hid hm
  clear h hw0 hb hk0 hx0 hm
  go_enter Tryz.func95, Tryz.ntmps95
  go_wp2_with fail
  rw [← HW.out, ← HB.out]
  refine HC.out.mono ?_
  rintro e w1 ⟨v, rfl, ⟨A1, c1, rfl, ho1⟩, hk1⟩
  rw [← HM.out]
  have hx1 := hk1.heap HX0.out (by simp)
  obtain ⟨p0, p0'⟩ := cell_at hx1 (p := 0) rfl
  obtain ⟨p1, p1'⟩ := cell_at hx1 (p := 1) rfl
  obtain ⟨p2, p2'⟩ := cell_at hx1 (p := 2) rfl
  have HX1 := Go.Lib.hid hx1
  have HK1 := Go.Lib.hid (HK0.out.trans hk1)
  have HO1 := Go.Lib.hid ho1
  clear hk1 hx1 ho1
  go_wp2_with fail
  obtain ⟨W3, hW3⟩ : ∃ W3, W3 = set3 (set3 w1 b (.int .i64 f.seq.toNat) (.int .i64 f.kind.toNat) (.slice A1 f.pay.length c1)) b (.int .i64 f.seq.toNat) (.int .i64 f.kind.toNat) (.slice A1 f.pay.length c1) := ⟨_, rfl⟩
  have hx3 : W3.heap[b]? = some (.cells #[.int .i64 f.seq.toNat, .int .i64 f.kind.toNat, .slice A1 f.pay.length c1] 63 (0, 0)) := by rw [hW3]; exact set3_heap (set3_heap HX1.out)
  have h2 : w.heap.size ≤ b := by rw [HB.out]; exact Nat.le_refl _
  have hk3 : Keeps [] w W3 := by rw [hW3]; exact set3_keeps (set3_keeps HK1.out h2 _ _ _) h2 _ _ _
  have ho3 : W3.ownsRow w.heap.size 5 1 (.slice A1 f.pay.length c1) f.pay.length (by8 f.pay) := by
    refine own_kept (own_down HO1.out HK0.out.size) (fun i cs fr hi => ?_)
    have hne : i ≠ b := block_ne hi HX1.out (by simp)
    rw [hW3]
    exact set3_far (set3_far hi hne _ _ _) hne _ _ _
  have u0 := (cell_at hx3 (p := 0) rfl).1
  have u1 := (cell_at hx3 (p := 1) rfl).1
  have u2 := (cell_at hx3 (p := 2) rfl).1
  unfold set3 at hW3
  rw [← hW3]
  refine bodyPost_ret (v := .tuple #[.agg #[.int .i64 f.seq.toNat, .int .i64 f.kind.toNat, .slice A1 f.pay.length c1], .int .i64 m, .int .i64 0]) (by simp [results, Tryz.f95, go_sem, u0, u1, u2]) rfl ?_
  exact ⟨_, by rw [HM.out], ⟨A1, c1, rfl, ho3⟩, hk3⟩

set_option maxHeartbeats 800000 in
theorem begins_no {mb : Bool} {A : Option Addr} {n c : Nat} {w : World} (h : Calls Tryz.prog 151 #[.slice A n c] w (NoF mb w)) :
    Calls Tryz.prog 96 #[.slice A n c] w fun e w' => e = .returned (.bool mb) ∧ Keeps [] w w' := by
  have HC := Go.Lib.hid h
  clear h
  go_enter Tryz.func96, Tryz.ntmps96
  go_wp2_with fail
  refine HC.out.mono ?_
  rintro e w1 ⟨rfl, hk1⟩
  have HK1 := Go.Lib.hid hk1
  clear hk1
  unfold noFrame
  go_wp2_with fail
  go_ret
  exact ⟨rfl, HK1.out.alloc _⟩
end Go.Proofs.YtkhalpnonijogaaGreat
namespace Go.Proofs.YtkhalpnonijogaaGreat
open Go.RowKit Go.Proofs.YtkhalpnonijogaaGreatW.PrintWords

/-- A built-in append whose run is known. -/
theorem wpList_append_run {P : Program} {ops : Array Oper} {rest : List Oper} {a : Go.Act} {w w' : World} {Q : Exit → Go.Act → World → Prop} {d : Option Tmp} {x y : Operand} {T : Array TypeId} {ty : TypeId} {pos : String} {af : Array Edge} {v s v' : Value}
    (h1 : a.eval x = v) (h2 : a.eval y = s) (hr : (Builtin.append_ T ty #[v, s]).run P w = .ok v' w') (h : wpList P ops Q rest (a.put d v') w') :
    wpList P ops Q ({ dst := d, op := Op.call { callee := Callee.builtin Builtin.append, args := #[x, y], argTypes := T }, type := ty, pos := pos, after := af, guard := none } :: rest) a w :=
  wpList_plain rfl fun _ hK => by
    unfold Oper.wp execOp
    simp only [resolve, invoke, builtin, Sem.run_bind, Sem.run_pure, Result.andThen_ok, List.map_toArray, List.map_cons, List.map_nil, h1, h2, hr]
    exact hK _ _ h

set_option maxHeartbeats 800000 in
set_option maxRecDepth 100000 in
theorem grow_ok {n : Nat} (hn : n ≤ 200000) (w : World) :
    Calls Tryz.prog 150 #[.slice none 0 0, .int .i64 n] w fun e w' => ∃ v, e = .returned v ∧ w'.ownsRow w.heap.size 5 1 v 0 [] ∧ Keeps [] w w' := by
  by_cases h0 : 0 < n
  · have d1 : decide ((n : Int) < 0) = false := decide_eq_false (by omega)
    have d2 : decide (0 < n) = true := decide_eq_true h0
    have d3 : decide ((0 : Int) < n) = true := decide_eq_true (by omega)
    obtain ⟨i0, hi, hz0, hz1, hz2⟩ := info5
    obtain ⟨v', w', hr, ho, hg, _⟩ := run_append_zeros (P := Tryz.prog) w w.heap.size 37 3 37 5 i0 (.int .u8 0) 1 1 Tryz.underlying37 Tryz.underlying3 hi hz0 hz1 hz2 rfl (by omega) (by omega) (.slice none 0 0) 0 [] (World.ownsRow_nil _ _ _ _) .i64 n (by
      intro u hu
      simp only [Builtin.zeroCells] at hu
      simp at hu
      obtain ⟨i, _, rfl⟩ := hu
      show Value.oneCell' (#[Value.int .u8 0][i % 1]!) = true
      rw [Nat.mod_one]; rfl) (by omega) (Nat.le_refl _)
    obtain ⟨A, c, rfl⟩ := own_form ho
    obtain ⟨g, rfl, hg1, hg2, hg3⟩ := own_at ho (by omega)
    have HR := Go.Lib.hid hr
    have HO := Go.Lib.hid ho
    have HK := Go.Lib.hid (keeps_grow (Keeps.refl [] w) (World.ownsRow_nil _ _ 5 1) hg)
    unfold maxLen at hg3
    rw [Nat.zero_add] at hg2
    clear hi hz0 hz1 hz2 hr ho hg
    go_enter Tryz.func150, Tryz.ntmps150
    go_wp2_with (refine wpList_append_run rfl rfl HR.out ?_)
    go_ret
    refine ⟨_, rfl, ?_, HK.out⟩
    rcases HO.out.2 with ⟨h1, _⟩ | ⟨g', cap, cur, h1, h2, h3, h4, h5, h6, h7⟩
    · simp at h1
    · simp only [Value.slice.injEq, Option.some.injEq, Addr.mk.injEq, and_true, true_and] at h1
      obtain ⟨rfl, _, rfl⟩ := h1
      exact ⟨rfl, .inr ⟨g, c, cur, rfl, h2, h3, Nat.zero_le _, h5, h6, rfl⟩⟩
  · obtain rfl : n = 0 := by omega
    go_enter Tryz.func150, Tryz.ntmps150
    go_wp2_with fail
    go_ret
    exact ⟨_, rfl, World.ownsRow_nil _ _ _ _, Keeps.refl _ _⟩

/-- A slice of bytes, nil too. -/
def Src (A : Option Addr) (n c : Nat) : Prop := A = none → n = 0 ∧ c = 0
/-- Bytes behind a row of the call's own. -/
theorem app8 {w : World} {B : Nat} {v : Value} {k : Nat} {xs : List (BitVec 8)} (hown : w.ownsRow B 5 1 v k (by8 xs)) {A : Option Addr} {n c : Nat} {l : List (BitVec 8)} (hA : Byts w A l) (hn : n = l.length) (hs : Src A n c) (hl : k + n ≤ 10000000) (hB : B ≤ w.heap.size) :
    ∃ v' w', (Builtin.append_ #[37, 37] 37 #[v, .slice A n c]).run Tryz.prog w = .ok v' w' ∧ w'.ownsRow B 5 1 v' (k + n) (by8 (xs ++ l)) ∧ w.grownBy w' v.ownBlock := by
  obtain ⟨i0, hi, hz0, hz1, hz2⟩ := info5
  cases A with
  | none =>
    obtain ⟨h1, h2⟩ := hs rfl
    subst h1 h2
    obtain rfl : l = [] := List.eq_nil_of_length_eq_zero hn.symm
    exact ⟨v, w, run_append_owned_none (P := Tryz.prog) (w := w) B 37 37 5 i0 1 Tryz.underlying37 hi v k _ hown, by simpa using hown, ⟨rfl, rfl, rfl, Nat.le_refl _, fun _ _ _ => rfl⟩⟩
  | some a =>
    obtain ⟨v', w', h1, h2, h3, _⟩ := run_append_own_at (P := Tryz.prog) w B 37 37 5 i0 (.int .u8 0) 1 1 Tryz.underlying37 hi hz0 hz1 hz2 rfl (by omega) v k _ hown a n c (by8 l) (by rw [by8_len, hn, Nat.mul_one]) (fun j u hj => by
      obtain ⟨x, hx⟩ : ∃ x, l[j]? = some x := ⟨_, List.getElem?_eq_getElem (by rw [← by8_len]; exact (List.getElem?_eq_some_iff.1 hj).1)⟩
      rw [by8_get hx] at hj
      obtain rfl := Option.some.inj hj
      obtain ⟨a', ha', hc⟩ := hA j x hx
      obtain rfl := Option.some.inj ha'
      exact hc) (by8_one l) (by unfold maxLen; omega) (by omega) hB
    exact ⟨v', w', h1, by rw [by8_append]; exact h2, h3⟩
end Go.Proofs.YtkhalpnonijogaaGreat
