/- frame.Encode. No condition but the frame's. | link.New, Out. No condition but the link's own. -/
import Derived.Test.YtkhalpnonijogaaGreatX14
import Derived.Deep.RegionHeld3
namespace Go.Proofs.YtkhalpnonijogaaGreat
open Go.RowKit

theorem put8_at {B : Nat} {v : Value} {n : Nat} {xs : List (BitVec 8)} {x : BitVec 8} {z : Int} {w : World} (ho : w.ownsRow B 5 1 v n (by8 xs)) (hB : B ≤ w.heap.size) (hn : n ≤ 1000000) (hz : z = x.toNat) :
    Calls Tryz.prog 275 #[v, .int .u8 z, .int .i64 1] w fun e w' => ∃ v', e = .returned v' ∧ w'.ownsRow B 5 1 v' (n + 1) (by8 (xs ++ [x])) ∧ Below B w w' := by
  subst hz
  exact put8_ok ho hB hn
theorem put16_at {B : Nat} {v : Value} {n : Nat} {xs : List (BitVec 8)} {x : BitVec 16} {z : Int} {w : World} (ho : w.ownsRow B 5 1 v n (by8 xs)) (hB : B ≤ w.heap.size) (hn : n ≤ 100000) (hz : z = x.toNat) :
    Calls Tryz.prog 274 #[v, .int .u16 z, .int .i64 2] w fun e w' => ∃ v', e = .returned v' ∧ w'.ownsRow B 5 1 v' (n + 2) (by8 (xs ++ [hi8 x, lo8 x])) ∧ Below B w w' := by
  subst hz
  exact put16_ok ho hB hn

set_option maxHeartbeats 1600000 in
set_option maxRecDepth 100000 in
theorem fenc_ok {f : Frm} (hf : f.Ok) {A : Option Addr} {c : Nat} {w : World} (hA : Byts w A f.pay) (hs : Src A f.pay.length c) :
    Calls Tryz.prog 224 #[.agg #[.int .i64 f.seq.toNat, .int .i64 f.kind.toNat, .slice A f.pay.length c]] w fun e w' => ∃ v, e = .returned (.tuple #[v, .int .i64 0]) ∧ w'.ownsRow w.heap.size 5 1 v f.enc.length (by8 f.enc) ∧ Keeps [] w w' := by
  have hsl := f.seq.isLt
  have hkl := f.kind.isLt
  have hpl := hf.pay
  have HA := Go.Lib.hid hA
  have HS := Go.Lib.hid hs
  have HF := Go.Lib.hid hf
  clear hA hs
  go_enter Tryz.func224, Tryz.ntmps224
  go_wp2_with fail
  obtain ⟨b, hb⟩ : ∃ b, b = w.heap.size := ⟨_, rfl⟩
  obtain ⟨w0, hw0⟩ : ∃ w0, w0 = w.alloc (.cells #[.int .i64 f.seq.toNat, .int .i64 f.kind.toNat, .slice A f.pay.length c] 63) := ⟨_, rfl⟩
  rw [← hw0, ← hb]
  have hk0 : Keeps [] w w0 := by rw [hw0]; exact (Keeps.refl _ _).alloc _
  have hx0 : w0.heap[b]? = some (.cells #[.int .i64 f.seq.toNat, .int .i64 f.kind.toNat, .slice A f.pay.length c] 63 (0, 0)) := by rw [hw0, hb]; exact heap_alloc_new _ _
  have hsz0 : w0.heap.size = b + 1 := by rw [hw0, World.size_alloc, hb]
  have HK0 := Go.Lib.hid hk0
  have HX0 := Go.Lib.hid hx0
  have HB := Go.Lib.hid hb
  have HZ0 := Go.Lib.hid hsz0
  clear hw0 hk0 hx0 hb hsz0
  refine (fgood_yes (by omega) HF.out.kind1 HF.out.kind10 hpl _).mono ?_
  rintro e w1 ⟨rfl, hk1⟩
  have hx1 := hk1.heap HX0.out (by simp)
  have q2 := (cell_at hx1 (p := 2) rfl).1
  have HX1 := Go.Lib.hid hx1
  have HK1 := Go.Lib.hid (HK0.out.trans hk1)
  have hb1 : b + 1 ≤ w1.heap.size := by have := hk1.size; have := HZ0.out; omega
  have q2' : (w1.alloc (.cells #[.int .u8 126] 5)).cell? ⟨b, 2, none⟩ = some (.slice A f.pay.length c) := ((Keeps.refl [] w1).alloc _).cell q2 (by simp)
  clear hk1 hx1
  go_wp2_with fail
  have hl1 := World.ownsRow_lit (base := b + 1) (e := 5) (size := 1) w1 #[.int .u8 126] 1 hb1 (by decide) rfl
  have HL : Hid ((w1.alloc (.cells #[.int .u8 126] 5)).ownsRow (b + 1) 5 1 (.slice (some ⟨w1.heap.size, 0, none⟩) 1 1) 1 (by8 [0x7e#8])) := hl1
  clear hl1
  have hfl : (f.pay.length : Int) = f.len.toNat := by simp [Frm.len]; omega
  refine (put16_at (x := f.len) HL.out (by simp; omega) (by omega) hfl).mono ?_
  rintro e w2 ⟨v2, rfl, ho2, hb2⟩
  have hx2 : w2.heap[b]? = some (.cells #[.int .i64 f.seq.toNat, .int .i64 f.kind.toNat, .slice A f.pay.length c] 63 (0, 0)) := by
    rw [hb2.block b (by omega)]
    exact ((Keeps.refl [] w1).alloc _).heap HX1.out (by simp)
  have HO2 := Go.Lib.hid ho2
  have HX2 := Go.Lib.hid hx2
  have HK2 := Go.Lib.hid ((HK1.out.alloc (.cells #[.int .u8 126] 5)).then hb2 (by rw [HB.out]; omega))
  have hsz2 : b + 1 ≤ w2.heap.size := by have := hb2.size; simp at this; omega
  have hs2 : w2.cell? ⟨b, 0, none⟩ = some (.int .i64 f.seq.toNat) ∧ w2.cell? ⟨b, 1, none⟩ = some (.int .i64 f.kind.toNat) := ⟨(cell_at hx2 (p := 0) rfl).1, (cell_at hx2 (p := 1) rfl).1⟩
  have HWS : Hid (IntKind.u8.wrap (f.seq.toNat : Int) = f.seq.toNat) := Go.Lib.hid (wrap8 _ hsl)
  have HWK : Hid (IntKind.u8.wrap (f.kind.toNat : Int) = f.kind.toNat) := Go.Lib.hid (wrap8 _ hkl)
  clear ho2 hb2 hx2 q2 q2' hfl
  go_upto_region 4 with fail
  go_region_held3 (fun wx => wx.cell? ⟨b, 0, none⟩ = some (.int .i64 f.seq.toNat) ∧ wx.cell? ⟨b, 1, none⟩ = some (.int .i64 f.kind.toNat))
    (first | exact hs2 | exact hs3 | exact hs4)
    (first
      | (go_at_call 275; (refine (put8_at (x := f.kind) ho3 (Nat.le_trans hsz2 hb3.size) (by omega) HWK.out).mono ?_; rintro e w4 ⟨v4, rfl, ho4, hb4⟩); have hx4 := (hb4.block b (by omega)).trans hx3; have hs4 : w4.cell? ⟨b, 0, none⟩ = some (.int .i64 f.seq.toNat) ∧ w4.cell? ⟨b, 1, none⟩ = some (.int .i64 f.kind.toNat) := ⟨(cell_at hx4 (p := 0) rfl).1, (cell_at hx4 (p := 1) rfl).1⟩)
      | (go_at_call 275; (refine (put8_at (x := f.seq) (w := w2.drew) HO2.out hsz2 (by omega) HWS.out).mono ?_; rintro e w3 ⟨v3, rfl, ho3, hb3⟩); have hx3 := (hb3.block b (by omega)).trans HX2.out; have hs3 : w3.cell? ⟨b, 0, none⟩ = some (.int .i64 f.seq.toNat) ∧ w3.cell? ⟨b, 1, none⟩ = some (.int .i64 f.kind.toNat) := ⟨(cell_at hx3 (p := 0) rfl).1, (cell_at hx3 (p := 1) rfl).1⟩))
  have hk4 : Keeps [] w w4 := (HK2.out.drew).then (hb3.trans hb4) (by rw [HB.out]; omega)
  have hA4 := HA.out.keeps0 hk4
  have q2 := (cell_at hx4 (p := 2) rfl).1
  have hsz4 : b + 1 ≤ w4.heap.size := Nat.le_trans hsz2 (Nat.le_trans hb3.size hb4.size)
  obtain ⟨v5, w5, hr5, ho5, hg5⟩ := app8 ho4 hA4 rfl HS.out (by omega) hsz4
  have hb5 : Below (b + 1) w4 w5 := below_grow (Below.refl _ _) hsz4 ho4 hg5
  have e5 : [0x7e#8] ++ [hi8 f.len, lo8 f.len] ++ [f.seq] ++ [f.kind] ++ f.pay = 0x7e#8 :: f.body := rfl
  rw [e5, show 1 + 2 + 1 + 1 + f.pay.length = 5 + f.pay.length by omega] at ho5
  obtain ⟨A5, c5, rfl⟩ := own_form ho5
  obtain ⟨g, rfl, hg1, hg2, hg3⟩ := own_at ho5 (by omega)
  have HR5 := Go.Lib.hid hr5
  have HO5 := Go.Lib.hid ho5
  have HK5 := Go.Lib.hid (hk4.then hb5 (by rw [HB.out]; omega))
  have hsz5 : b + 1 ≤ w5.heap.size := Nat.le_trans hsz4 hb5.size
  unfold maxLen at hg3
  have hc1 : 1 ≤ c5 := by omega
  have hc2 : 1 < c5 := by omega
  have HQ2 := Go.Lib.hid q2
  clear ho3 hb3 hx3 hs3 ho4 hb4 hx4 hs4 hk4 hA4 hr5 ho5 hg5 hb5 e5 hs2
  go_wp2_with (refine wpList_append_run rfl rfl HR5.out ?_)
  have hbl : 4 + f.pay.length = f.body.length := by simp [Frm.body]; omega
  have hby : Byts w5 (some ⟨g, 1, none⟩) f.body := (Byts.of_own HO5.out).cut 1
  rw [hbl]
  refine (crc_ok hby (by rw [← hbl]; omega)).mono ?_
  rintro e w6 ⟨rfl, hk6⟩
  rw [show w16 (Crc.sumB f.body) = .int .u16 f.sum.toNat from rfl]
  have ho6 := own_new HO5.out hk6
  have hsz6 : b + 1 ≤ w6.heap.size := Nat.le_trans hsz5 hk6.size
  have HO6 := Go.Lib.hid ho6
  have HK6 := Go.Lib.hid (HK5.out.trans hk6)
  clear hbl hby hk6 ho6
  go_wp2_with fail
  refine (put16_at (x := f.sum) HO6.out hsz6 (by omega) rfl).mono ?_
  rintro e w7 ⟨v7, rfl, ho7, hb7⟩
  have HK7 := Go.Lib.hid (HK6.out.then hb7 (by rw [HB.out]; omega))
  have HO7 : Hid (w7.ownsRow w.heap.size 5 1 v7 f.enc.length (by8 f.enc)) := Go.Lib.hid (by
    have h1 := own_down ho7 (show w.heap.size ≤ b + 1 by rw [HB.out]; omega)
    have h2 : f.enc.length = 5 + f.pay.length + 2 := by rw [Frm.enc_len]; omega
    rw [h2]
    exact h1)
  clear ho7 hb7
  go_wp2_with fail
  go_ret2
  exact ⟨v7, rfl, HO7.out, HK7.out⟩
end Go.Proofs.YtkhalpnonijogaaGreat
namespace Go.Proofs.YtkhalpnonijogaaGreat
open Go.RowKit

/-- A link's cells: what is left, how many bytes were none, the next number, the last pair. -/
def lkA (left : Value) (bad : Int) (nx : Nat) (last : Value) : Array Value := #[left, .int .i64 bad, .int .i64 nx, last]
theorem fenc_at {f : Frm} (hf : f.Ok) {A : Option Addr} {n c : Nat} {q k : Int} {w : World} (hA : Byts w A f.pay) (hs : Src A n c) (hq : q = f.seq.toNat) (hk : k = f.kind.toNat) (hn : n = f.pay.length) :
    Calls Tryz.prog 224 #[.agg #[.int .i64 q, .int .i64 k, .slice A n c]] w fun e w' => ∃ v, e = .returned (.tuple #[v, .int .i64 0]) ∧ w'.ownsRow w.heap.size 5 1 v f.enc.length (by8 f.enc) ∧ Keeps [] w w' := by
  subst hq hk hn
  exact fenc_ok hf hA hs
/-- The frame that goes out. -/
def outF (nx k : Nat) (pay : List (BitVec 8)) : Frm := ⟨BitVec.ofNat 8 nx, BitVec.ofNat 8 k, pay⟩
theorem outF_ok {nx k : Nat} {pay : List (BitVec 8)} (hk1 : 1 ≤ k) (hk10 : k ≤ 10) (hl : pay.length ≤ 256) : (outF nx k pay).Ok := ⟨by simp [outF]; omega, by simp [outF]; omega, hl⟩

set_option maxHeartbeats 800000 in
theorem out_ok {g nx k n c : Nat} {left last : Value} {bad : Int} {A : Option Addr} {pay : List (BitVec 8)} {w : World} (hg : w.heap[g]? = some (.cells (lkA left bad nx last) 150 (0, 0))) (hnx : nx < 256) (hk1 : 1 ≤ k) (hk10 : k ≤ 10) (hA : Byts w A pay) (hs : Src A n c) (hn : n = pay.length) (hl : pay.length ≤ 256) :
    Calls Tryz.prog 165 #[.pointer (some ⟨g, 0, none⟩), .int .i64 k, .slice A n c] w fun e w' => ∃ v, e = .returned (.tuple #[v, .int .i64 0]) ∧ w'.ownsRow w.heap.size 5 1 v (outF nx k pay).enc.length (by8 (outF nx k pay).enc) ∧ Keeps [g] w w' ∧ w'.heap[g]? = some (.cells (lkA left bad ((nx + 1) % 256) last) 150 (0, 0)) := by
  have p2 : w.cell? ⟨g, 2, none⟩ = some (.int .i64 nx) := (cell_at hg rfl).1
  have HE := Go.Lib.hid (fenc_at (f := outF nx k pay) (outF_ok hk1 hk10 hl) hA hs (q := nx) (k := k) (by simp [outF]; omega) (by simp [outF]; omega) hn)
  have HG := Go.Lib.hid hg
  clear hA hs hn hg
  go_enter Tryz.func165, Tryz.ntmps165
  go_wp2_with fail
  refine HE.out.mono ?_
  rintro e w1 ⟨v, rfl, ho, hk⟩
  have hg1 := hk.heap HG.out (by simp)
  have q2 : w1.cell? ⟨g, 2, none⟩ = some (.int .i64 nx) := (cell_at hg1 rfl).1
  have q2' : w1.frozen? ⟨g, 2, none⟩ = false := (cell_at hg1 (p := 2) (v := .int .i64 nx) rfl).2
  have HO := Go.Lib.hid ho
  have HK := Go.Lib.hid hk
  have HG1 := Go.Lib.hid hg1
  clear ho hk hg1 p2
  go_wp2_with fail
  go_ret2
  refine ⟨v, rfl, own_kept HO.out (fun i cs fr hi => ?_), (HK.out.mono (by simp)).setCell (by simp) _, ?_⟩
  · rw [Below.heap_setCell _ _ _ _ (block_ne hi HG1.out (by simp))]; exact hi
  · rw [heap_setCell_self HG1.out]
    simp [lkA]
theorem lnew_ok (w : World) : Calls Tryz.prog 48 #[] w fun e w' => ∃ g, e = .returned (.pointer (some ⟨g, 0, none⟩)) ∧ w'.heap[g]? = some (.cells (lkA (.slice none 0 0) 0 0 (.pointer none)) 150 (0, 0)) ∧ w.heap.size ≤ g ∧ Keeps [] w w' := by
  go_enter Tryz.func48, Tryz.ntmps48
  go_wp2_with fail
  go_ret
  exact ⟨_, rfl, heap_alloc_new w _, Nat.le_refl _, (Keeps.refl _ _).alloc _⟩
end Go.Proofs.YtkhalpnonijogaaGreat
