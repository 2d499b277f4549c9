/- 'look', where a whole frame stands; 'Decode', 'Begins'. No condition but the row's. -/
import Derived.Test.YtkhalpnonijogaaGreatX05
import Derived.Deep.RegionHeld3
namespace Go.Proofs.YtkhalpnonijogaaGreat
open Go.RowKit

/-- A frame's value: its payload lies in a row of its own. -/
def FrmIs (B : Nat) (f : Frm) (w : World) (v : Value) : Prop := ∃ A c, v = .agg #[.int .i64 f.seq.toNat, .int .i64 f.kind.toNat, .slice A f.pay.length c] ∧ w.ownsRow B 5 1 (.slice A f.pay.length c) f.pay.length (by8 f.pay)

set_option maxHeartbeats 3200000 in
set_option maxRecDepth 100000 in
theorem look_full {f : Frm} (hf : f.Ok) (hp : f.pay ≠ []) {t : List (BitVec 8)} {g o n c : Nat} {w : World} (hA : Byts w (some ⟨g, o, none⟩) (f.enc ++ t)) (hn : n = f.pay.length + 7 + t.length) (hnc : n ≤ c) (h9 : n ≤ 100000) :
    Calls Tryz.prog 151 #[.slice (some ⟨g, o, none⟩) n c] w fun e w' => ∃ v, e = .returned (.tuple #[v, .int .i64 ((f.pay.length + 7 : Nat) : Int), .bool true]) ∧ FrmIs w.heap.size f w' v ∧ Keeps [] w w' := by
  obtain ⟨w0, hw0⟩ : ∃ w0, w0 = w.alloc (.cells #[.int .i64 0, .int .i64 0, .slice none 0 0] 63) := ⟨_, rfl⟩
  obtain ⟨b, hb⟩ : ∃ b, b = w.heap.size := ⟨_, rfl⟩
  have hk0 : Keeps [] w w0 := by rw [hw0]; exact (Keeps.refl _ _).alloc _
  have hx0 : w0.heap[b]? = some (.cells #[.int .i64 0, .int .i64 0, .slice none 0 0] 63 (0, 0)) := by rw [hw0, hb]; exact heap_alloc_new _ _
  have hget : ∀ i u, f.enc[i]? = some u → (f.enc ++ t)[i]? = some u := fun i u h => by
    rw [List.getElem?_append_left (List.getElem?_eq_some_iff.1 h).1]; exact h
  have hnl : n = (f.enc ++ t).length := by rw [List.length_append, Frm.enc_len]; omega
  have hA0 := hA.keeps0 hk0
  have g0 : (f.enc ++ t)[0]? = some 0x7e#8 := rfl
  have hgb : g ≠ b := by
    obtain ⟨a', ha', hcw⟩ := hA 0 _ g0
    obtain rfl := Option.some.inj ha'
    have := World.block_lt_of_cell? w _ hcw
    rw [block_add] at this
    simp only at this
    omega
  obtain ⟨a, ha, hc1⟩ := hA0 0 _ g0
  obtain rfl := Option.some.inj ha
  have hc1' : w0.cell? ⟨g, o, none⟩ = some (.int .u8 126) := hc1
  have e0 : ((n : Int) == 0) = false := by simp; omega
  have e1 : (n == 0) = false := by simp; omega
  obtain ⟨hlen, hhi⟩ := f.len_nat hf
  have hpl := hf.pay
  have hpos := List.length_pos_iff.2 hp
  have HT := Go.Lib.hid (take8_yes (at' := 1) (c := c) (x := hi8 f.len) hA0 hnl hnc (hget 1 _ rfl) (by omega))
  have HU0 := take16_yes (at' := 1) (c := c) (x := hi8 f.len) (y := lo8 f.len) hA0 hnl hnc (hget 1 _ rfl) (hget 2 _ rfl) (by omega)
  rw [hlen] at HU0
  have HU := Go.Lib.hid HU0
  have HV := Go.Lib.hid (take8_yes (at' := 4) (c := c) (x := f.kind) hA0 hnl hnc (hget 4 _ rfl) (by omega))
  have HK := Go.Lib.hid (fun W => kind_yes hf.kind1 hf.kind10 W)
  have hs5 : f.enc[5 + f.pay.length]? = some (hi8 f.sum) := by
    rw [Frm.enc, show 5 + f.pay.length = (4 + f.pay.length) + 1 by omega, List.getElem?_cons_succ, List.getElem?_append_right (by simp [Frm.body]; omega)]
    simp [Frm.body, show 4 + f.pay.length - (f.pay.length + 1 + 1 + 1 + 1) = 0 by omega]
  have hs6 : f.enc[5 + f.pay.length + 1]? = some (lo8 f.sum) := by
    rw [Frm.enc, show 5 + f.pay.length + 1 = (5 + f.pay.length) + 1 by omega, List.getElem?_cons_succ, List.getElem?_append_right (by simp [Frm.body]; omega)]
    simp [Frm.body, show 5 + f.pay.length - (f.pay.length + 1 + 1 + 1 + 1) = 1 by omega]
  have HW0 := take16_yes (at' := 5 + f.pay.length) (c := c) (x := hi8 f.sum) (y := lo8 f.sum) hA0 hnl hnc (hget _ _ hs5) (hget _ _ hs6) (by omega)
  have hsum : (hi8 f.sum).toNat * 256 + (lo8 f.sum).toNat = f.sum.toNat := by rw [hi8_nat, lo8_nat]; omega
  rw [hsum] at HW0
  have HW := Go.Lib.hid HW0
  have hbody : ((f.enc ++ t).drop 1).take f.body.length = f.body := by
    simp [Frm.enc]
  have hby0 := (hA0.cut 1).take f.body.length
  rw [hbody] at hby0
  have hbl : f.body.length = 4 + f.pay.length := by simp [Frm.body]; omega
  have HC0 := crc_ok (c := c - 1) hby0 (by omega)
  rw [hbl] at HC0
  have HC := Go.Lib.hid HC0
  have HA := Go.Lib.hid hA0
  have HK0 := Go.Lib.hid hk0
  have HX0 := Go.Lib.hid hx0
  have HW00 := Go.Lib.hid hw0
  have HB := Go.Lib.hid hb
  have HG := Go.Lib.hid hget
  have f1 : decide (1 < (hi8 f.len).toNat) = false := decide_eq_false (by omega)
  have f1' : decide ((1 : Int) < (hi8 f.len).toNat) = false := decide_eq_false (by omega)
  have f2 : decide (256 < f.pay.length) = false := decide_eq_false (by omega)
  have f2' : decide ((256 : Int) < f.pay.length) = false := decide_eq_false (by omega)
  have n1 : 5 + f.pay.length ≤ c := by omega
  have n2 : f.pay.length + 7 ≤ n := by omega
  have HN := Go.Lib.hid hn
  have hkl := f.kind.isLt
  have hsl := f.sum.isLt
  clear hw0 hb hk0 hx0 hget hnl hA0 g0 hc1 ha hlen HU0 hs5 hs6 HW0 hsum hbody hby0 hbl HC0 hA hn
  go_enter Tryz.func151, Tryz.ntmps151
  go_wp2_with fail
  rw [← HW00.out, ← HB.out]
  refine HT.out.mono ?_
  rintro e w' ⟨rfl, rfl⟩
  go_wp2_with fail
  refine HU.out.mono ?_
  rintro e w' ⟨rfl, rfl⟩
  go_wp2_with fail
  refine HV.out.mono ?_
  rintro e w' ⟨rfl, rfl⟩
  go_wp2_with fail
  refine (HK.out _).mono ?_
  rintro e w' ⟨rfl, rfl⟩
  go_wp2_with fail
  refine HW.out.mono ?_
  rintro e w' ⟨rfl, rfl⟩
  go_wp2_with fail
  refine HC.out.mono ?_
  rintro e w1 ⟨rfl, hk1⟩
  rw [show w16 (Crc.sumB f.body) = .int .u16 f.sum.toNat from rfl]
  have hpay : ((f.enc ++ t).drop 5).take f.pay.length = f.pay := by simp [Frm.enc, Frm.body]
  have hby5 := ((HA.out.keeps0 hk1).cut 5).take f.pay.length
  rw [hpay] at hby5
  have hx1 := hk1.heap HX0.out (by simp)
  obtain ⟨a3, ha3, hc3⟩ := (HA.out.keeps0 hk1) 3 f.seq (HG.out 3 _ rfl)
  obtain rfl := Option.some.inj ha3
  rw [Addr.add_mid] at hc3
  have HBY := Go.Lib.hid (fun (S : Nat) (nn : Nat) (hh : nn = f.pay.length) => clone_ok (n := nn) (c := c - 5) (w := w1.drew) (hby5.keeps0 (Keeps.refl [] w1).drew) hh (by omega) (by omega))
  have HX1 := Go.Lib.hid hx1
  have HK1 := Go.Lib.hid (HK0.out.trans hk1)
  have hs3 := hc3
  clear hk1 hpay hby5 hx1 ha3
  go_upto_region 18 with fail
  have q1 : (3 : Int) < n := by omega
  have q2 : (5 : Int) ≤ 5 + (f.pay.length : Int) := by omega
  have q3 : (5 : Int) + (f.pay.length : Int) ≤ c := by omega
  have q5 : (0 : Int) ≤ 5 + (f.pay.length : Int) := by omega
  have q6 : ¬ c = 5 := by omega
  go_region_held3 (fun wx => wx.cell? ⟨g, o + 3, none⟩ = some (.int .u8 f.seq.toNat))
    (first | exact hs3 | exact hs4 | exact ((((Keeps.refl [b] w2).setCell (by simp) _).setCell (by simp) _).setCell (by simp) _).cell hs4 (by simpa using hgb))
    (first
      | (go_at_call 97; refine (HBY.out 0 _ (by omega)).mono ?_; rintro e w2 ⟨v, rfl, ho2, hk2⟩; obtain ⟨A2, c2, rfl⟩ := own_form ho2; have HO2 := Go.Lib.hid ho2; have HK2 := Go.Lib.hid hk2; have hs4 := hk2.cell (p := ⟨g, o + 3, none⟩) hs3 (by simp); have HX2 := Go.Lib.hid (hk2.heap (((Keeps.refl [] w1).drew).heap HX1.out (by simp)) (by simp)); obtain ⟨p0, p0'⟩ := cell_at HX2.out (p := 0) rfl; obtain ⟨p1, p1'⟩ := cell_at HX2.out (p := 1) rfl; obtain ⟨p2, p2'⟩ := cell_at HX2.out (p := 2) rfl; clear ho2 hk2))
  have hwr : IntKind.i64.wrap (5 + (f.pay.length : Int) + 2) = ((f.pay.length + 7 : Nat) : Int) := by
    rw [IntKind.wrap_i64]; omega
  have hws : IntKind.i64.wrap (f.seq.toNat : Int) = f.seq.toNat := by
    have := f.seq.isLt
    rw [IntKind.wrap_i64]; omega
  have hwk : IntKind.i64.wrap (f.kind.toNat : Int) = f.kind.toNat := by rw [IntKind.wrap_i64]; omega
  rw [hwr, hws, hwk]
  clear hwr hws hwk q1 q2 q3 q5 q6
  go_wp2_with fail
  obtain ⟨W3, hW3⟩ : ∃ W3, W3 = (((w2.setCell ⟨b, 0, none⟩ (.int .i64 f.seq.toNat)).setCell ⟨b, 1, none⟩ (.int .i64 f.kind.toNat)).setCell ⟨b, 2, none⟩ (.slice A2 f.pay.length c2)) := ⟨_, rfl⟩
  rw [← hW3]
  have hx3 : W3.heap[b]? = some (.cells #[.int .i64 f.seq.toNat, .int .i64 f.kind.toNat, .slice A2 f.pay.length c2] 63 (0, 0)) := by
    have s1 := heap_setCell_self (off := 0) (v := .int .i64 f.seq.toNat) HX2.out
    have s2 := heap_setCell_self (off := 1) (v := .int .i64 f.kind.toNat) s1
    have s3 := heap_setCell_self (off := 2) (v := .slice A2 f.pay.length c2) s2
    rw [hW3, s3]
    simp
  have u0 := (cell_at hx3 (p := 0) rfl).1
  have u1 := (cell_at hx3 (p := 1) rfl).1
  have u2 := (cell_at hx3 (p := 2) rfl).1
  have hks : Keeps [b] w2 W3 := by rw [hW3]; exact (((Keeps.refl _ _).setCell (by simp) _).setCell (by simp) _).setCell (by simp) _
  have hkw : Keeps [] w W3 := by
    have h1 := (HK1.out.drew).trans HK2.out
    have h2 : w.heap.size ≤ b := by rw [HB.out]; exact Nat.le_refl _
    rw [hW3]
    exact ((h1.setNew h2 _).setNew h2 _).setNew h2 _
  have ho3 : W3.ownsRow w.heap.size 5 1 (.slice A2 f.pay.length c2) f.pay.length (by8 f.pay) := by
    refine own_kept (own_down HO2.out HK1.out.size) (fun i cs fr hi => hks.heap hi ?_)
    simp only [List.mem_singleton]
    exact block_ne hi HX2.out (by simp)
  refine bodyPost_ret (v := .tuple #[.agg #[.int .i64 f.seq.toNat, .int .i64 f.kind.toNat, .slice A2 f.pay.length c2], .int .i64 ((f.pay.length + 7 : Nat) : Int), .bool true]) (by simp [results, Tryz.f151, go_sem, u0, u1, u2]) rfl ?_
  exact ⟨_, rfl, ⟨A2, c2, rfl, ho3⟩, hkw⟩
end Go.Proofs.YtkhalpnonijogaaGreat
