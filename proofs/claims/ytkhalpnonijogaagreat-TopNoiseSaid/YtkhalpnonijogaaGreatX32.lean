/- The reference's and the law's small functions. No condition but the numbers'. | The reference's Scan of one status frame's bytes. No condition but the bytes'. | The reference's Scan of one status frame's bytes: the loop. No condition but the bytes'. -/
import Derived.Test.YtkhalpnonijogaaGreatX17
import Derived.Test.YtkhalpnonijogaaGreatX20
namespace Go.Proofs.YtkhalpnonijogaaGreat
open Go.RowKit

set_option maxHeartbeats 1600000 in
set_option maxRecDepth 100000 in
theorem num_ok (n : Int) (w : World) : Calls Tryz.prog 12 #[.int .i64 n] w fun e w' => e = .returned (.int .i64 n) ∧ w = w' := by
  go_enter Tryz.func12, Tryz.ntmps12
  go_wp2_with fail
  go_ret
  exact ⟨rfl, rfl⟩
def inB (n a b : Int) : Bool := decide (a ≤ n) && decide (n ≤ b)
set_option maxHeartbeats 1600000 in
set_option maxRecDepth 100000 in
theorem in_ok (n a b : Int) (w : World) : Calls Tryz.prog 24 #[.int .i64 n, .int .i64 a, .int .i64 b] w fun e w' => e = .returned (.bool (inB n a b)) ∧ w = w' := by
  unfold inB
  go_enter Tryz.func24, Tryz.ntmps24
  by_cases h : a ≤ n
  · have d1 : decide (a ≤ n) = true := decide_eq_true h
    rw [d1, Bool.true_and]
    go_wp2_with fail
    go_ret
    exact ⟨rfl, rfl⟩
  · have d1 : decide (a ≤ n) = false := decide_eq_false h
    rw [d1, Bool.false_and]
    go_wp2_with fail
    go_ret
    exact ⟨rfl, rfl⟩
set_option maxHeartbeats 1600000 in
set_option maxRecDepth 100000 in
theorem client_ok (n : Int) (w : World) : Calls Tryz.prog 22 #[.int .i64 n] w fun e w' => e = .returned (.bool (inB n 0 7)) ∧ w = w' := by
  go_enter Tryz.func22, Tryz.ntmps22
  go_wp2_with fail
  refine (in_ok _ _ _ _).mono ?_
  rintro e w' ⟨rfl, rfl⟩
  go_wp2_with fail
  go_ret
  exact ⟨rfl, rfl⟩
set_option maxHeartbeats 1600000 in
set_option maxRecDepth 100000 in
theorem sensor_ok (n : Int) (w : World) : Calls Tryz.prog 23 #[.int .i64 n] w fun e w' => e = .returned (.bool (inB n 1 15)) ∧ w = w' := by
  go_enter Tryz.func23, Tryz.ntmps23
  go_wp2_with fail
  refine (in_ok _ _ _ _).mono ?_
  rintro e w' ⟨rfl, rfl⟩
  go_wp2_with fail
  go_ret
  exact ⟨rfl, rfl⟩
def maySub (c s p l : Int) : Bool := ((inB c 0 7 && inB s 1 15) && inB p 1 1000) && inB l 0 60000
set_option maxHeartbeats 1600000 in
set_option maxRecDepth 100000 in
theorem maysub_ok (c s p l : Int) (w : World) : Calls Tryz.prog 8 #[.agg #[.int .i64 c, .int .i64 s, .int .i64 p, .int .i64 l]] w fun e w' => e = .returned (.bool (maySub c s p l)) ∧ Keeps [] w w' := by
  go_enter Tryz.func8, Tryz.ntmps8
  go_wp2_with fail
  refine (client_ok _ _).mono ?_
  rintro e w1 ⟨rfl, rfl⟩
  have hk0 : Keeps [] w (w.alloc (.cells #[.int .i64 c, .int .i64 s, .int .i64 p, .int .i64 l] 30)) := (Keeps.refl _ _).alloc _
  obtain ⟨b1, hb1⟩ : ∃ b1, inB c 0 7 = b1 := ⟨_, rfl⟩
  rw [hb1]
  cases b1 with
  | false =>
    go_wp2_with fail
    go_ret
    exact ⟨by simp [maySub, hb1], hk0⟩
  | true =>
    go_wp2_with fail
    refine (sensor_ok _ _).mono ?_
    rintro e w1 ⟨rfl, rfl⟩
    obtain ⟨b2, hb2⟩ : ∃ b2, inB s 1 15 = b2 := ⟨_, rfl⟩
    rw [hb2]
    cases b2 with
    | false =>
      go_wp2_with fail
      go_ret
      exact ⟨by simp [maySub, hb1, hb2], hk0⟩
    | true =>
      go_wp2_with fail
      refine (in_ok _ _ _ _).mono ?_
      rintro e w1 ⟨rfl, rfl⟩
      obtain ⟨b3, hb3⟩ : ∃ b3, inB p 1 1000 = b3 := ⟨_, rfl⟩
      rw [hb3]
      cases b3 with
      | false =>
        go_wp2_with fail
        go_ret
        exact ⟨by simp [maySub, hb1, hb2, hb3], hk0⟩
      | true =>
        go_wp2_with fail
        refine (in_ok _ _ _ _).mono ?_
        rintro e w1 ⟨rfl, rfl⟩
        go_wp2_with fail
        go_ret
        exact ⟨by simp [maySub, hb1, hb2, hb3], hk0⟩
set_option maxHeartbeats 1600000 in
set_option maxRecDepth 100000 in
theorem within_ok {i n : Int} (h1 : 1 ≤ n) (h2 : n ≤ 1000000) (w : World) : Calls Tryz.prog 15 #[.int .i64 i, .int .i64 n] w fun e w' => ∃ k : Nat, (k : Int) < n ∧ e = .returned (.int .i64 k) ∧ w = w' := by
  have u0 : 0 ≤ IntKind.u64.wrap i := by
    show 0 ≤ i % _
    exact Int.emod_nonneg _ (by decide)
  obtain ⟨k, hk⟩ : ∃ k : Nat, (k : Int) = (IntKind.u64.wrap i).tmod n := ⟨((IntKind.u64.wrap i).tmod n).toNat, Int.toNat_of_nonneg (Int.tmod_nonneg _ u0)⟩
  have hkn : (k : Int) < n := by rw [hk]; exact Int.tmod_lt_of_pos _ (by omega)
  clear u0
  go_enter Tryz.func15, Tryz.ntmps15
  go_wp2_with fail
  go_ret
  rw [← hk]
  refine ⟨k, hkn, ?_, rfl⟩
  congr 2
set_option maxHeartbeats 1600000 in
set_option maxRecDepth 100000 in
theorem eqb_ok {A B : Option Addr} {n c d : Nat} {l : List (BitVec 8)} {w : World} (hA : Byts w A l) (hB : Byts w B l) (hn : n = l.length) (hl : n ≤ 100000) : Calls Tryz.prog 18 #[.slice A n c, .slice B n d] w fun e w' => e = .returned (.bool true) ∧ Keeps [] w w' := by
  have HA := Go.Lib.hid hA
  have HB := Go.Lib.hid hB
  have HN := Go.Lib.hid hn
  clear hA hB hn
  go_enter Tryz.func18, Tryz.ntmps18
  go_wp2_with fail
  go_loopw [5] (fun s5 wx => ∃ k : Nat, k ≤ n ∧ s5 = .int .i64 k ∧ Keeps [] w wx) (fun s5 _ => n - (intOf s5).toNat)
  case atStart => exact ⟨0, by omega, rfl, Keeps.refl _ _⟩
  case round =>
    obtain ⟨k, hk, rfl, hkw⟩ := hrel
    by_cases hkn : k < n
    · obtain ⟨b, hb⟩ : ∃ b, l[k]? = some b := ⟨_, List.getElem?_eq_getElem (by rw [← HN.out]; exact hkn)⟩
      obtain ⟨a, rfl, hca⟩ := (HA.out.keeps0 hkw) k b hb
      obtain ⟨a', rfl, hcb⟩ := (HB.out.keeps0 hkw) k b hb
      have d1 : decide ((k : Int) < (n : Int)) = true := decide_eq_true (by omega)
      go_upto_region 6 with fail
      go_region
      go_wp2_with fail
      exact ⟨⟨k + 1, by omega, by go_num, hkw.drew⟩, by simp [intOf]; omega⟩
    · obtain rfl : k = n := by omega
      go_wp2_with fail
      go_ret
      exact ⟨rfl, hkw⟩
set_option maxHeartbeats 3200000 in
set_option maxRecDepth 100000 in
theorem copy_ok {A : Option Addr} {n c : Nat} {l : List (BitVec 8)} {w : World} (hA : Byts w A l) (hn : n = l.length) (hl : n ≤ 100000) : Calls Tryz.prog 19 #[.slice A n c] w (PayIs l w) := by
  have HA := Go.Lib.hid hA
  have HN := Go.Lib.hid hn
  clear hA hn
  go_enter Tryz.func19, Tryz.ntmps19
  go_wp2_with fail
  go_loopw [3, 4] (fun s3 s4 wx => ∃ k : Nat, k ≤ n ∧ s4 = .int .i64 k ∧ Hid (wx.ownsRow w.heap.size 5 1 s3 k (by8 (l.take k)) ∧ Keeps [] w wx)) (fun _ s4 _ => n - (intOf s4).toNat)
  case atStart => exact ⟨0, by omega, rfl, Go.Lib.hid ⟨World.ownsRow_nil _ _ _ _, Keeps.refl _ _⟩⟩
  case round =>
    obtain ⟨k, hk, rfl, HK⟩ := hrel
    obtain ⟨A3, c3, rfl⟩ := own_form HK.out.1
    by_cases hkn : k < n
    · obtain ⟨b, hb⟩ : ∃ b, l[k]? = some b := ⟨_, List.getElem?_eq_getElem (by rw [← HN.out]; exact hkn)⟩
      obtain ⟨a, rfl, hca⟩ := (HA.out.keeps0 HK.out.2) k b hb
      have d1 : decide ((k : Int) < (n : Int)) = true := decide_eq_true (by omega)
      obtain ⟨w2, hw2⟩ : ∃ w2, w2 = wr.alloc (.cells #[.int .u8 b.toNat] 5) := ⟨_, rfl⟩
      have hk2 : Keeps [] wr w2 := by rw [hw2]; exact (Keeps.refl _ _).alloc _
      have hz2 : w2.heap[wr.heap.size]? = some (.cells #[.int .u8 b.toNat] 5 (0, 0)) := by rw [hw2]; exact heap_alloc_new _ _
      have hB : Byts w2 (some ⟨wr.heap.size, 0, none⟩) [b] := by
        intro i b' hi
        cases i with
        | zero =>
          obtain rfl : b = b' := by simpa using hi
          exact ⟨_, rfl, (cell_at hz2 (p := 0) rfl).1⟩
        | succ i => simp at hi
      have ho2 := own_new HK.out.1 hk2
      have hkw := HK.out.2.trans hk2
      obtain ⟨v3, w3, hr3, ho3, hg3⟩ := app8 ho2 (n := 1) (c := 1) hB rfl (fun h => by simp at h) (by omega) hkw.size
      have HR3 : Hid ((Builtin.append_ #[37, 37] 37 #[.slice A3 k c3, .slice (some ⟨wr.heap.size, 0, none⟩) 1 1]).run Tryz.prog (wr.alloc (.cells #[.int .u8 b.toNat] 5)) = .ok v3 w3) := Go.Lib.hid (by rw [← hw2]; exact hr3)
      have HE : Hid (w3.ownsRow w.heap.size 5 1 v3 (k + 1) (by8 (l.take (k + 1))) ∧ Keeps [] w w3) := Go.Lib.hid ⟨by
        rw [List.take_add_one, hb]
        exact ho3, keeps_grow hkw ho2 hg3⟩
      clear hw2 hk2 hz2 hB ho2 hkw hr3 ho3 hg3 HK
      go_wp2_with (at_builtin; refine wpList_append_run (by rfl) (by rfl) HR3.out ?_)
      exact ⟨⟨k + 1, by omega, by go_num, HE⟩, by simp [intOf]; omega⟩
    · obtain rfl : k = n := by omega
      have HE : Hid (PayIs l w (.returned (.slice A3 k c3)) wr) := Go.Lib.hid ⟨_, rfl, by rw [← HN.out]; simpa [HN.out] using HK.out.1, HK.out.2⟩
      go_wp2_with fail
      go_ret
      exact HE.out
end Go.Proofs.YtkhalpnonijogaaGreat
namespace Go.Proofs.YtkhalpnonijogaaGreat
open Go.RowKit

/-- The frame that tells five failed drivers, the hub's first one. -/
def stB : List (BitVec 8) := [0x7e#8, 0#8, 5#8, 0#8, 9#8, 8#8, 8#8, 8#8, 8#8, 8#8, 0x3e#8, 0xc0#8]
theorem st_sum : Crc.sumB [0#8, 5#8, 0#8, 9#8, 8#8, 8#8, 8#8, 8#8, 8#8] = 0x3ec0#16 := by kernel_rfl
theorem stB_eq : (outF 0 9 [8#8, 8#8, 8#8, 8#8, 8#8]).enc = stB := by
  have h : (outF 0 9 [8#8, 8#8, 8#8, 8#8, 8#8]).sum = 0x3ec0#16 := st_sum
  unfold Frm.enc
  rw [h]
  rfl
set_option maxHeartbeats 1600000 in
set_option maxRecDepth 100000 in
theorem kind_ok {n : Int} (h1 : 1 ≤ n) (h2 : n ≤ 10) (w : World) : Calls Tryz.prog 124 #[.int .i64 n] w fun e w' => e = .returned (.bool true) ∧ w = w' := by
  have d1 : decide (1 ≤ n) = true := decide_eq_true h1
  have d2 : decide (n ≤ 10) = true := decide_eq_true h2
  clear h1 h2
  go_enter Tryz.func124, Tryz.ntmps124
  go_wp2_with fail
  go_ret
  exact ⟨rfl, rfl⟩
theorem st_cells {g : Nat} {w : World} (h : Byts w (some ⟨g, 0, none⟩) stB) : (w.cell? ⟨g, 0, none⟩ = some (.int .u8 126) ∧ w.cell? ⟨g, 1, none⟩ = some (.int .u8 0) ∧ w.cell? ⟨g, 2, none⟩ = some (.int .u8 5) ∧ w.cell? ⟨g, 3, none⟩ = some (.int .u8 0)) ∧ w.cell? ⟨g, 4, none⟩ = some (.int .u8 9) ∧ w.cell? ⟨g, 10, none⟩ = some (.int .u8 62) ∧ w.cell? ⟨g, 11, none⟩ = some (.int .u8 192) := by
  have k : ∀ i b, stB[i]? = some b → w.cell? ⟨g, i, none⟩ = some (.int .u8 b.toNat) := fun i b hi => by
    obtain ⟨a, ha, hc⟩ := h i b hi
    obtain rfl := Option.some.inj ha
    by_cases hi0 : i = 0
    · subst hi0; simpa [Addr.add] using hc
    · simpa [Addr.add, hi0] using hc
  exact ⟨⟨k 0 _ rfl, k 1 _ rfl, k 2 _ rfl, k 3 _ rfl⟩, k 4 _ rfl, k 10 _ rfl, k 11 _ rfl⟩
set_option maxHeartbeats 3200000 in
set_option maxRecDepth 100000 in
theorem begins_ok {g c : Nat} {w : World} (hc : 12 ≤ c) (h : Byts w (some ⟨g, 0, none⟩) stB) : Calls Tryz.prog 71 #[.slice (some ⟨g, 0, none⟩) 12 c] w fun e w' => e = .returned (.bool true) ∧ Keeps [] w w' := by
  have HB := Go.Lib.hid h
  obtain ⟨⟨c0, c1, c2, c3⟩, c4, c10, c11⟩ := st_cells h
  have b5 : bits BinOp.or .i64 0 5 = 5 := by kernel_rfl
  have HS := Go.Lib.hid (fun (W : World) (h : Byts W (some ⟨g, 1, none⟩) ((stB.drop 1).take 9)) => sumr_ok (c := c - 1) h (by simp [stB]))
  clear h
  go_enter Tryz.func71, Tryz.ntmps71
  go_upto_region 7 with fail
  go_region
  go_wp2_with fail
  refine (kind_ok (by omega) (by omega) _).mono ?_
  rintro e w1 ⟨rfl, rfl⟩
  go_wp2_with fail
  refine (HS.out _ (((HB.out.keeps0 (Keeps.refl [] w).drew).cut 1).take 9)).mono ?_
  rintro e w1 ⟨rfl, rfl⟩
  rw [show Crc.sumB ((stB.drop 1).take 9) = 0x3ec0#16 from st_sum, show w16 0x3ec0#16 = .int .u16 16064 from rfl]
  go_wp2_with fail
  go_ret
  exact ⟨rfl, (Keeps.refl _ _).drew⟩
theorem st3 {W : World} {x : Nat} {u0 u1 u2 a b c : Value} {t : TypeId} (h : W.heap[x]? = some (.cells #[u0, u1, u2] t (0, 0))) : (((W.setCell ⟨x, 0, none⟩ a).setCell ⟨x, 1, none⟩ b).setCell ⟨x, 2, none⟩ c).heap[x]? = some (.cells #[a, b, c] t (0, 0)) :=
  (heap_setCell_self (heap_setCell_self (heap_setCell_self h))).trans (by simp)
def stF : Frm := outF 0 9 [8#8, 8#8, 8#8, 8#8, 8#8]
set_option maxHeartbeats 3200000 in
set_option maxRecDepth 100000 in
theorem decr_ok {g c : Nat} {w : World} (hc : 12 ≤ c) (h : Byts w (some ⟨g, 0, none⟩) stB) : Calls Tryz.prog 70 #[.slice (some ⟨g, 0, none⟩) 12 c] w fun e w' => ∃ u, e = .returned (.tuple #[.agg #[.int .i64 0, .int .i64 9, u], .int .i64 12]) ∧ PayOf w.heap.size stF w' u ∧ Keeps [] w w' := by
  have HB := Go.Lib.hid h
  have HG := Go.Lib.hid (show g < w.heap.size from World.block_lt_of_cell? w _ (st_cells h).1.1)
  have b5 : bits BinOp.or .i64 0 5 = 5 := by kernel_rfl
  clear h
  go_enter Tryz.func70, Tryz.ntmps70
  go_upto_region 1 with fail
  obtain ⟨x, hx⟩ : ∃ x, x = w.heap.size := ⟨_, rfl⟩
  obtain ⟨w0, hw0⟩ : ∃ w0, w0 = w.alloc (.cells #[.int .i64 0, .int .i64 0, .slice none 0 0] 63) := ⟨_, rfl⟩
  rw [← hw0, ← hx]
  have hk0 : Keeps [] w w0 := by rw [hw0]; exact (Keeps.refl _ _).alloc _
  have h1 : w0.heap[x]? = some (.cells #[.int .i64 0, .int .i64 0, .slice none 0 0] 63 (0, 0)) := by rw [hw0, hx]; exact heap_alloc_new _ _
  have HK0 := Go.Lib.hid hk0
  have H1 := Go.Lib.hid h1
  have HX := Go.Lib.hid (Nat.le_of_eq hx.symm)
  clear hw0 hx hk0 h1
  go_wp2_with fail
  refine (begins_ok hc (HB.out.keeps0 HK0.out)).mono ?_
  rintro e w1 ⟨rfl, hk1⟩
  have HK1 := Go.Lib.hid (HK0.out.trans hk1)
  have HP1 := Go.Lib.hid (hk1.heap H1.out (by simp))
  obtain ⟨⟨c0, c1, c2, c3⟩, c4, c10, c11⟩ := st_cells (HB.out.keeps0 HK1.out)
  clear hk1
  go_upto_region 3 with fail
  go_region
  go_upto_region 6 with fail
  have kc : ∀ (W : World) (u0 u1 u2 : Value), Byts W (some ⟨g, 0, none⟩) stB → W.heap[x]? = some (.cells #[u0, u1, u2] 63 (0, 0)) → W.cell? ⟨g, 3, none⟩ = some (.int .u8 0) ∧ W.cell? ⟨g, 4, none⟩ = some (.int .u8 9) ∧ StOk W ⟨x, 0, none⟩ ∧ StOk W ⟨x, 1, none⟩ ∧ StOk W ⟨x, 2, none⟩ := fun W u0 u1 u2 e1 e2 => by
    obtain ⟨⟨_, _, _, q3⟩, q4, _⟩ := st_cells e1
    exact ⟨q3, q4, st_ok (cell_at e2 (p := 0) rfl).1 (cell_at e2 (p := 0) rfl).2, st_ok (cell_at e2 (p := 1) rfl).1 (cell_at e2 (p := 1) rfl).2, st_ok (cell_at e2 (p := 2) rfl).1 (cell_at e2 (p := 2) rfl).2⟩
  have KC := Go.Lib.hid kc
  obtain ⟨w3, hw3⟩ : ∃ w3, w3 = w1.drew := ⟨_, rfl⟩
  rw [← hw3]
  have hk3 : Keeps [] w1 w3 := by rw [hw3]; exact (Keeps.refl _ _).drew
  have HK3 := Go.Lib.hid (HK1.out.trans hk3)
  have HP0 := Go.Lib.hid (And.intro (HB.out.keeps0 HK3.out) (hk3.heap HP1.out (by simp)))
  clear hw3 hk3 HK1 HP1
  have HCO := Go.Lib.hid (fun (W : World) (h : Byts W (some ⟨g, 5, none⟩) [8#8, 8#8, 8#8, 8#8, 8#8]) => copy_ok (c := c - 5) h (n := 5) rfl (by omega))
  have HGX : Hid (∀ a, some (⟨g, 0, none⟩ : Addr) = some a → a.block ∉ [x]) := Go.Lib.hid (fun a ha => by
    obtain rfl := Option.some.inj ha
    have := HG.out
    have := HX.out
    simp only [List.mem_singleton]
    omega)
  have hcI : (10 : Int) ≤ (c : Int) := by omega
  have hc5 : ¬ c = 5 := by omega
  have hc55 : ¬ (c : Int) = 5 := by omega
  have hcN : 10 ≤ c := by omega
  have wr0 : IntKind.i64.wrap 0 = 0 := by kernel_rfl
  have wr9 : IntKind.i64.wrap 9 = 9 := by kernel_rfl
  have wr10 : IntKind.i64.wrap 10 = 10 := by kernel_rfl
  have wr12 : IntKind.i64.wrap 12 = 12 := by kernel_rfl
  clear kc c0 c1 c2 c3 c4 c10 c11
  go_region_held3 (fun W => W.cell? ⟨g, 3, none⟩ = some (.int .u8 0) ∧ W.cell? ⟨g, 4, none⟩ = some (.int .u8 9) ∧ StOk W ⟨x, 0, none⟩ ∧ StOk W ⟨x, 1, none⟩ ∧ StOk W ⟨x, 2, none⟩)
    (first | exact KC.out _ _ _ _ HP0.out.1 HP0.out.2 | exact KC.out _ _ _ _ HP2.out.1 HP2.out.2 | exact KC.out _ _ _ _ (HP2.out.1.keeps ((((Keeps.refl [x] w2).setCell (by simp) _).setCell (by simp) _).setCell (by simp) _) HGX.out) (st3 HP2.out.2) | fail)
    ((go_at_call 19; (refine (HCO.out _ (((HP0.out.1.keeps0 ((Keeps.refl [] w3).drew)).cut 5).take 5)).mono ?_; rintro e w2 ⟨u2, rfl, ho2, hk2⟩); obtain ⟨A2, c2, rfl⟩ := own_form ho2; have HO2 := Go.Lib.hid ho2; have HK2 := Go.Lib.hid (((Keeps.refl [] w3).drew).trans hk2); have HP2 := Go.Lib.hid (And.intro (HP0.out.1.keeps0 HK2.out) (HK2.out.heap HP0.out.2 (by simp))); clear ho2 hk2))
  go_wp2_with fail
  have hx3 := st3 (a := .int .i64 0) (b := .int .i64 9) (c := .slice A2 5 c2) HP2.out.2
  obtain ⟨W, hW⟩ : ∃ W, W = ((w2.setCell ⟨x, 0, none⟩ (.int .i64 0)).setCell ⟨x, 1, none⟩ (.int .i64 9)).setCell ⟨x, 2, none⟩ (.slice A2 5 c2) := ⟨_, rfl⟩
  rw [← hW] at hx3 ⊢
  have hkW : Keeps [x] w2 W := by rw [hW]; exact (((Keeps.refl [x] w2).setCell (by simp) _).setCell (by simp) _).setCell (by simp) _
  have hkk : Keeps [] w W := by
    have h9 := HX.out
    rw [hW]
    exact (((HK3.out.trans HK2.out).setNew (by simp; omega) _).setNew (by simp; omega) _).setNew (by simp; omega) _
  have ho := own_kept (own_down HO2.out (B' := w.heap.size) (HK3.out.trans (Keeps.refl _ _).drew).size) (fun i cs fr hi => hkW.heap hi (fun hm => by
    rw [List.mem_singleton] at hm
    subst hm
    rw [HP2.out.2] at hi
    simp at hi))
  clear hW
  obtain ⟨z0, z1, z2, _⟩ := cells3 hx3
  exact bodyPost_ret (v := .tuple #[.agg #[.int .i64 0, .int .i64 9, .slice A2 5 c2], .int .i64 12]) (by simp [results, Tryz.f70, go_sem, z0, z1, z2]) rfl ⟨_, rfl, ⟨A2, c2, rfl, ho⟩, hkk⟩
end Go.Proofs.YtkhalpnonijogaaGreat
namespace Go.Proofs.YtkhalpnonijogaaGreat
open Go.RowKit

set_option maxHeartbeats 6400000 in
set_option maxRecDepth 100000 in
theorem scan_ok {g c : Nat} {w : World} (hc : 12 ≤ c) (h : Byts w (some ⟨g, 0, none⟩) stB) : Calls Tryz.prog 36 #[.slice (some ⟨g, 0, none⟩) 12 c] w fun e w' => ∃ v, e = .returned (.tuple #[v, .slice none 0 0, .int .i64 0]) ∧ FrmsIs w.heap.size [stF] w' v ∧ Keeps [] w w' := by
  have HD := Go.Lib.hid (decr_ok hc h)
  clear h
  go_enter Tryz.func36, Tryz.ntmps36
  go_wp2_with fail
  go_loopw [0, 5, 6] (fun s0 s5 s6 wx => (s0 = .slice (some ⟨g, 0, none⟩) 12 c ∧ s5 = .slice none 0 0 ∧ s6 = .int .i64 0 ∧ wx = w) ∨ ∃ A d, s0 = .slice A 0 d ∧ s6 = .int .i64 0 ∧ Hid (FrmsIs w.heap.size [stF] wx s5 ∧ Keeps [] w wx)) (fun s0 _ _ _ => match s0 with | .slice _ n _ => n | _ => 0)
  case atStart => exact .inl ⟨rfl, rfl, rfl, rfl⟩
  case round =>
    rcases hrel with ⟨rfl, rfl, rfl, rfl⟩ | ⟨A, d, rfl, rfl, HF⟩
    · go_wp2_with fail
      refine HD.out.mono ?_
      rintro e w1 ⟨u, rfl, hu, hk1⟩
      obtain ⟨A3, c3, hu3, hu4⟩ := hu
      obtain rfl : u = .slice A3 5 c3 := hu3
      have HU := Go.Lib.hid hu4
      have HK1 := Go.Lib.hid hk1
      clear hu4 hk1 HD
      go_upto_region 7 with fail
      obtain ⟨w4, hw4⟩ : ∃ w4, w4 = w1.alloc (.cells #[.int .i64 0, .int .i64 9, .slice A3 5 c3] 63) := ⟨_, rfl⟩
      obtain ⟨x4, hx4⟩ : ∃ x4, x4 = w1.heap.size := ⟨_, rfl⟩
      rw [← hw4, ← hx4]
      have hk4 : Keeps [] w1 w4 := by rw [hw4]; exact (Keeps.refl _ _).alloc _
      have hx4h : w4.heap[x4]? = some (.cells #[.int .i64 0, .int .i64 9, .slice A3 5 c3] 63 (0, 0)) := by rw [hw4, hx4]; exact heap_alloc_new _ _
      obtain ⟨q0, q1, q2, _⟩ := cells3 hx4h
      have hk5 : Keeps [] w1 (w4.alloc (.cells #[.int .i64 0, .int .i64 9, .slice A3 5 c3] 63)) := hk4.alloc _
      obtain ⟨v6, w6, hr6, hf6, hg6, n0, xs0, ho0⟩ := app63 (B := wr.heap.size) (x := w4.heap.size) (L := []) (f := stF) (v := .slice none 0 0) (u := .slice A3 5 c3) (FrmsIs.nil _ (w4.alloc (.cells #[.int .i64 0, .int .i64 9, .slice A3 5 c3] 63))) ⟨A3, c3, rfl, own_new HU.out hk5⟩ (heap_alloc_new _ _) (by simp) (HK1.out.trans hk5).size
      have hkk6 := keeps_grow' (HK1.out.trans hk5) ho0 hg6
      have HR6 := Go.Lib.hid hr6
      have HF6 : Hid (FrmsIs wr.heap.size [stF] w6 v6 ∧ Keeps [] wr w6) := Go.Lib.hid ⟨hf6, hkk6⟩
      clear hw4 hx4 hk4 hx4h hk5 hr6 hf6 hg6 ho0 hkk6
      by_cases hcM : c = 12
      · go_wp2_with (at_builtin; refine wpList_append_run (by rfl) (by rfl) HR6.out ?_)
        exact ⟨.inr ⟨_, _, rfl, rfl, HF6⟩, by show 0 < 12; omega⟩
      · go_wp2_with (at_builtin; refine wpList_append_run (by rfl) (by rfl) HR6.out ?_)
        exact ⟨.inr ⟨_, _, rfl, rfl, HF6⟩, by show 0 < 12; omega⟩
    · go_wp2_with fail
      go_ret3
      exact ⟨_, rfl, HF.out⟩
end Go.Proofs.YtkhalpnonijogaaGreat
