/- frame.put of numbers of one and two bytes behind a row of the caller's own. No condition but the row's. -/
import Derived.Test.YtkhalpnonijogaaGreatX13
namespace Go.Proofs.YtkhalpnonijogaaGreat
open Go.RowKit

theorem Keeps.then {w0 w w' : World} {B : Nat} (h : Keeps [] w0 w) (hb : Below B w w') (hB : w0.heap.size ≤ B) : Keeps [] w0 w' :=
  ⟨hb.os.trans h.os, hb.tape.trans h.tape, hb.output.trans h.output, Nat.le_trans h.size hb.size, fun i hi hs => by rw [hb.block i (by omega)]; exact h.block i hi hs⟩
theorem below_grow {w W W' : World} {B : Nat} {v : Value} {n : Nat} {xs : List Value} {E sz : Nat} (hb : Below B w W) (hB : B ≤ w.heap.size) (h : W.ownsRow B E sz v n xs) (hg : W.grownBy W' v.ownBlock) : Below B w W' :=
  ⟨hg.os.trans hb.os, hg.tape.trans hb.tape, hg.output.trans hb.output, Nat.le_trans hb.size hg.size, fun i hi => by
    rw [hg.block i (by have := hb.size; omega) (fun e => by have := (h.lt i e.symm).1; omega)]
    exact hb.block i hi⟩

set_option maxHeartbeats 1600000 in
set_option maxRecDepth 100000 in
theorem put8_ok {B : Nat} {v : Value} {n : Nat} {xs : List (BitVec 8)} {x : BitVec 8} {w : World} (ho : w.ownsRow B 5 1 v n (by8 xs)) (hB : B ≤ w.heap.size) (hn : n ≤ 1000000) :
    Calls Tryz.prog 275 #[v, .int .u8 x.toNat, .int .i64 1] w fun e w' => ∃ v', e = .returned v' ∧ w'.ownsRow B 5 1 v' (n + 1) (by8 (xs ++ [x])) ∧ Below B w w' := by
  have hx := x.isLt
  obtain ⟨A, c, rfl⟩ := own_form ho
  obtain ⟨v', w', hr, ho', hg⟩ := app8 (l := [x]) (A := some ⟨w.heap.size, 0, none⟩) (n := 1) (c := 1) (w := w.alloc (.cells #[.int .u8 x.toNat] 5)) (ho.alloc _) (by
    intro i b hb
    cases i with
    | zero =>
      obtain rfl : x = b := by simpa using hb
      refine ⟨_, rfl, ?_⟩
      rw [Addr.add_mid]
      exact (cell_at (heap_alloc_new _ _) rfl).1
    | succ i => simp at hb) rfl (fun h => by cases h) (by omega) (by simp; omega)
  have HR := Go.Lib.hid hr
  have HO := Go.Lib.hid ho'
  have HB : Hid (Below B w w') := below_grow ((Below.refl B w).alloc hB _) hB (ho.alloc _) hg
  clear hr ho' hg ho
  go_enter Tryz.func275, Tryz.ntmps275
  go_upto_region 2 with fail
  go_loopw [0, 7] (fun s0 si wx => (si = .int .i64 0 ∧ s0 = .slice A n c ∧ wx = w) ∨ (si = .int .i64 (-1) ∧ s0 = v' ∧ wx = w')) (fun _ si _ => (intOf si + 1).toNat)
  case atStart => exact .inl ⟨rfl, rfl, rfl⟩
  case round =>
    rcases hrel with ⟨rfl, rfl, rfl⟩ | ⟨rfl, rfl, rfl⟩
    · go_wp2_with (refine wpList_append_run rfl rfl HR.out ?_)
      exact ⟨.inr ⟨rfl, rfl, trivial⟩, by simp [intOf]⟩
    · go_wp2_with fail
      go_ret
      exact ⟨_, rfl, HO.out, HB.out⟩

/-- One more byte behind an own row, in a new block. -/
theorem app8_one {B : Nat} {v : Value} {n : Nat} {xs : List (BitVec 8)} {w : World} (ho : w.ownsRow B 5 1 v n (by8 xs)) (hB : B ≤ w.heap.size) (hn : n ≤ 1000000) (x : BitVec 8) :
    ∃ v' w', (Builtin.append_ #[37, 37] 37 #[v, .slice (some ⟨w.heap.size, 0, none⟩) 1 1]).run Tryz.prog (w.alloc (.cells #[.int .u8 x.toNat] 5)) = .ok v' w' ∧ w'.ownsRow B 5 1 v' (n + 1) (by8 (xs ++ [x])) ∧ Below B w w' := by
  obtain ⟨v', w', hr, ho', hg⟩ := app8 (l := [x]) (A := some ⟨w.heap.size, 0, none⟩) (n := 1) (c := 1) (w := w.alloc (.cells #[.int .u8 x.toNat] 5)) (ho.alloc _) (by
    intro i b hb
    cases i with
    | zero =>
      obtain rfl : x = b := by simpa using hb
      refine ⟨_, rfl, ?_⟩
      rw [Addr.add_mid]
      exact (cell_at (heap_alloc_new _ _) rfl).1
    | succ i => simp at hb) rfl (fun h => by cases h) (by omega) (by simp; omega)
  exact ⟨v', w', hr, ho', below_grow ((Below.refl B w).alloc hB _) hB (ho.alloc _) hg⟩

set_option maxHeartbeats 1600000 in
set_option maxRecDepth 100000 in
theorem put16_ok {B : Nat} {v : Value} {n : Nat} {xs : List (BitVec 8)} {x : BitVec 16} {w : World} (ho : w.ownsRow B 5 1 v n (by8 xs)) (hB : B ≤ w.heap.size) (hn : n ≤ 100000) :
    Calls Tryz.prog 274 #[v, .int .u16 x.toNat, .int .i64 2] w fun e w' => ∃ v', e = .returned v' ∧ w'.ownsRow B 5 1 v' (n + 2) (by8 (xs ++ [hi8 x, lo8 x])) ∧ Below B w w' := by
  have hx := x.isLt
  obtain ⟨A, c, rfl⟩ := own_form ho
  obtain ⟨v1, w1, hr1, ho1, hb1⟩ := app8_one ho hB (by omega) (hi8 x)
  obtain ⟨A1, c1, rfl⟩ := own_form ho1
  obtain ⟨v2, w2, hr2, ho2, hb2⟩ := app8_one ho1 (Nat.le_trans hB hb1.size) (by omega) (lo8 x)
  obtain ⟨y, hy⟩ : ∃ y, y = x.toNat := ⟨_, rfl⟩
  have e1 : ((hi8 x).toNat : Int) = (y : Int) / 256 := by rw [hi8_nat, hy]; omega
  have e2 : ((lo8 x).toNat : Int) = (y : Int) % 256 := by rw [lo8_nat, hy]; omega
  rw [e1] at hr1
  rw [e2] at hr2
  rw [← hy] at hx ⊢
  have HR1 := Go.Lib.hid hr1
  have HR2 := Go.Lib.hid hr2
  have HO : Hid (w2.ownsRow B 5 1 v2 (n + 2) (by8 (xs ++ [hi8 x, lo8 x]))) := Go.Lib.hid (by
    have := ho2
    rwa [List.append_assoc] at this)
  have HB := Go.Lib.hid (hb1.trans hb2)
  clear hr1 hr2 ho ho1 ho2 hb1 hb2 e1 e2 hy
  go_enter Tryz.func274, Tryz.ntmps274
  go_upto_region 2 with fail
  go_loopw [0, 7] (fun s0 si wx => (si = .int .i64 1 ∧ s0 = .slice A n c ∧ wx = w) ∨ (si = .int .i64 0 ∧ s0 = .slice A1 (n + 1) c1 ∧ wx = w1) ∨ (si = .int .i64 (-1) ∧ s0 = v2 ∧ wx = w2)) (fun _ si _ => (intOf si + 1).toNat)
  case atStart => exact .inl ⟨rfl, rfl, rfl⟩
  case round =>
    rcases hrel with ⟨rfl, rfl, rfl⟩ | ⟨rfl, rfl, rfl⟩ | ⟨rfl, rfl, rfl⟩
    · go_wp2_with (refine wpList_append_run rfl rfl HR1.out ?_)
      exact ⟨.inr (.inl ⟨rfl, rfl, trivial⟩), by simp [intOf]⟩
    · go_wp2_with (refine wpList_append_run rfl rfl HR2.out ?_)
      exact ⟨.inr (.inr ⟨rfl, rfl, trivial⟩), by simp [intOf]⟩
    · go_wp2_with fail
      go_ret
      exact ⟨_, rfl, HO.out, HB.out⟩

set_option maxHeartbeats 800000 in
theorem fgood_yes {q k n c : Nat} {A : Option Addr} (hq : q ≤ 255) (hk1 : 1 ≤ k) (hk10 : k ≤ 10) (hn : n ≤ 256) (w : World) :
    Calls Tryz.prog 273 #[.agg #[.int .i64 q, .int .i64 k, .slice A n c]] w fun e w' => e = .returned (.bool true) ∧ Keeps [] w w' := by
  have d1 : decide (q ≤ 255) = true := decide_eq_true hq
  have d2 : decide ((q : Int) ≤ 255) = true := decide_eq_true (by omega)
  have d3 : decide ((0 : Int) ≤ q) = true := decide_eq_true (by omega)
  have d4 : decide (n ≤ 256) = true := decide_eq_true hn
  have d5 : decide ((n : Int) ≤ 256) = true := decide_eq_true (by omega)
  go_enter Tryz.func273, Tryz.ntmps273
  go_wp2_with fail
  refine (kind_yes hk1 hk10 _).mono ?_
  rintro e w' ⟨rfl, rfl⟩
  go_wp2_with fail
  go_ret
  exact ⟨rfl, (Keeps.refl _ _).alloc _⟩
end Go.Proofs.YtkhalpnonijogaaGreat
