/- 'ask' and 'sub': a command's frame, a subscription's. No condition but the numbers' bounds. | 'take' of a frame's numbers, 'kind', 'Clone' of bytes. No condition but the row's. -/
import Derived.Test.YtkhalpnonijogaaGreatX03
import Derived.Deep.RegionHeld3
import Derived.WalkSpells
namespace Go.Proofs.YtkhalpnonijogaaGreat
open Go.RowKit

theorem enc_at {f : Frm} (hf : f.Ok) (hp : f.pay ≠ []) {A : Option Addr} {n c : Nat} {q k : Int} {w : World} (hA : Byts w A f.pay) (hq : q = f.seq.toNat) (hk : k = f.kind.toNat) (hn : n = f.pay.length) :
    Calls Tryz.prog 34 #[.agg #[.int .i64 q, .int .i64 k, .slice A n c]] w fun e w' => ∃ v, e = .returned v ∧ w'.ownsRow w.heap.size 5 1 v f.enc.length (by8 f.enc) ∧ Keeps [] w w' := by
  subst hq hk hn
  exact enc_ok hf hp hA
/-- What a call for a command's bytes answers. -/
def PayIs (pay : List (BitVec 8)) (w : World) (e : Ending) (w' : World) : Prop := ∃ v, e = .returned v ∧ w'.ownsRow w.heap.size 5 1 v pay.length (by8 pay) ∧ Keeps [] w w'

set_option maxHeartbeats 1600000 in
theorem ask_ok {k s : Nat} {v1 v2 v3 v4 v5 v6 v7 : Value} {pay : List (BitVec 8)} (hC : ∀ w, Calls Tryz.prog 35 #[.agg #[.int .i64 k, v1, v2, v3, v4, v5, v6, v7]] w (PayIs pay w)) (hk1 : 1 ≤ k) (hk10 : k ≤ 10) (hp : pay ≠ []) (hl : pay.length ≤ 256) (hs : s < 1000000) (w : World) :
    Calls Tryz.prog 16 #[.int .i64 s, .agg #[.int .i64 k, v1, v2, v3, v4, v5, v6, v7]] w (PayIs (⟨BitVec.ofNat 8 s, BitVec.ofNat 8 k, pay⟩ : Frm).enc w) := by
  have HC := Go.Lib.hid hC
  have HP := Go.Lib.hid hp
  have HF : Hid ((⟨BitVec.ofNat 8 s, BitVec.ofNat 8 k, pay⟩ : Frm).Ok) := ⟨by simp; omega, by simp; omega, hl⟩
  clear hC hp
  go_enter Tryz.func16, Tryz.ntmps16
  go_upto_region 1 with fail
  obtain ⟨b, hb⟩ : ∃ b, b = w.heap.size := ⟨_, rfl⟩
  obtain ⟨w0, hw0⟩ : ∃ w0, w0 = w.alloc (.cells #[.int .i64 k, v1, v2, v3, v4, v5, v6, v7] 59) := ⟨_, rfl⟩
  rw [← hw0, ← hb]
  have hk0 : Keeps [] w w0 := by rw [hw0]; exact (Keeps.refl _ _).alloc _
  have hx0 : w0.heap[b]? = some (.cells #[.int .i64 k, v1, v2, v3, v4, v5, v6, v7] 59 (0, 0)) := by rw [hw0, hb]; exact heap_alloc_new _ _
  have cells : ∀ W : World, W.heap[b]? = some (.cells #[.int .i64 k, v1, v2, v3, v4, v5, v6, v7] 59 (0, 0)) → W.cell? ⟨b, 0, none⟩ = some (.int .i64 k) ∧ W.cell? ⟨b, 1, none⟩ = some v1 ∧ W.cell? ⟨b, 2, none⟩ = some v2 ∧ W.cell? ⟨b, 3, none⟩ = some v3 ∧ W.cell? ⟨b, 4, none⟩ = some v4 ∧ W.cell? ⟨b, 5, none⟩ = some v5 ∧ W.cell? ⟨b, 6, none⟩ = some v6 ∧ W.cell? ⟨b, 7, none⟩ = some v7 :=
    fun _ h => ⟨(cell_at h (p := 0) rfl).1, (cell_at h (p := 1) rfl).1, (cell_at h (p := 2) rfl).1, (cell_at h (p := 3) rfl).1, (cell_at h (p := 4) rfl).1, (cell_at h (p := 5) rfl).1, (cell_at h (p := 6) rfl).1, (cell_at h (p := 7) rfl).1⟩
  have hs0 := cells _ hx0
  have hkd : Keeps [] w w0.drew := hk0.drew
  have HCL := Go.Lib.hid cells
  have HKD := Go.Lib.hid hkd
  have HTM : Hid ((s : Int).tmod 256 = ((BitVec.ofNat 8 s).toNat : Int)) := Go.Lib.hid (by rw [Int.tmod_eq_emod_of_nonneg (by omega)]; simp)
  have HX0 := Go.Lib.hid hx0
  clear hw0 hb hk0 hx0 cells hkd
  go_region_held3 (fun wx => wx.cell? ⟨b, 0, none⟩ = some (.int .i64 k) ∧ wx.cell? ⟨b, 1, none⟩ = some v1 ∧ wx.cell? ⟨b, 2, none⟩ = some v2 ∧ wx.cell? ⟨b, 3, none⟩ = some v3 ∧ wx.cell? ⟨b, 4, none⟩ = some v4 ∧ wx.cell? ⟨b, 5, none⟩ = some v5 ∧ wx.cell? ⟨b, 6, none⟩ = some v6 ∧ wx.cell? ⟨b, 7, none⟩ = some v7)
    (first | exact hs0 | exact hs1 | exact hs2)
    (first
      | (go_at_call 35; refine (HC.out _).mono ?_; rintro e w1 ⟨v, rfl, ho1, hk1'⟩; obtain ⟨A1, c1, rfl⟩ := own_form ho1; have HO1 := Go.Lib.hid ho1; have HK1 := Go.Lib.hid hk1'; have hs1 := HCL.out _ (HK1.out.heap HX0.out (by simp)); clear ho1 hk1')
      | (go_at_call 34; refine (enc_at HF.out HP.out (Byts.of_own HO1.out) HTM.out (by simp; omega) rfl).mono ?_; rintro e w2 ⟨v2', rfl, ho2, hk2⟩; have HO2 := Go.Lib.hid ho2; have HK2 := Go.Lib.hid hk2; have hs2 := HCL.out _ (HK2.out.heap (HK1.out.heap HX0.out (by simp)) (by simp)); clear ho2 hk2))
  go_wp2_with fail
  go_ret
  exact ⟨v2', rfl, own_down HO2.out (by have h1 := HKD.out.size; have h2 := HK1.out.size; omega), (HKD.out.trans HK1.out).trans HK2.out⟩

/-- A subscription's frame. -/
def Sb.frm (x : Sb) (s : Nat) : Frm := ⟨BitVec.ofNat 8 s, 1#8, x.pay⟩
theorem Sb.frm_ok (x : Sb) (s : Nat) : (x.frm s).Ok := ⟨show 1 ≤ (1#8).toNat by decide, show (1#8).toNat ≤ 10 by decide, by simp [Sb.frm, Sb.pay]⟩
theorem sub_ok {x : Sb} (hx : x.Ok) {s : Nat} (hs : s < 1000000) (w : World) :
    Calls Tryz.prog 11 #[.int .i64 s, .agg #[.int .i64 x.c, .int .i64 x.s, .int .i64 x.p, .int .i64 x.l]] w (PayIs (x.frm s).enc w) := by
  have HA := Go.Lib.hid (fun W => ask_ok (k := 1) (s := s) (pay := x.pay) (fun w => encc_sub hx w) (by omega) (by omega) (by simp [Sb.pay]) (by simp [Sb.pay]) hs W)
  clear hx
  go_enter Tryz.func11, Tryz.ntmps11
  go_wp2_with fail
  refine (HA.out _).mono ?_
  rintro e w1 ⟨v, rfl, ho, hk⟩
  have HO := Go.Lib.hid ho
  have HK := Go.Lib.hid hk
  clear ho hk
  go_wp2_with fail
  go_ret
  have hk1 : Keeps [] w (w.alloc (.cells #[.int .i64 x.c, .int .i64 x.s, .int .i64 x.p, .int .i64 x.l] 30)) := (Keeps.refl _ _).alloc _
  exact ⟨v, rfl, own_down HO.out hk1.size, hk1.trans HK.out⟩
/-- The frame that asks for the devices. -/
def statF : Frm := ⟨1#8, 6#8, [0#8]⟩
theorem statF_ok : statF.Ok := ⟨by decide, by decide, by decide⟩
theorem stat_ok (w : World) :
    Calls Tryz.prog 16 #[.int .i64 1, .agg #[.int .i64 6, .int .i64 0, .int .i64 0, .int .i64 0, .int .i64 0, .int .i64 0, .slice none 0 0, .int .i64 0]] w (PayIs statF.enc w) :=
  ask_ok (k := 6) (s := 1) (pay := [0#8]) (fun w => encc_status w) (by omega) (by omega) (by simp) (by simp) (by omega) w
end Go.Proofs.YtkhalpnonijogaaGreat
namespace Go.Proofs.YtkhalpnonijogaaGreat
open Go.RowKit

theorem wraps16 (n : Int) (h0 : 0 ≤ n) (h1 : n < 2 ^ 16) : IntKind.u16.wrap n = n := by
  simp [IntKind.wrap, IntKind.bits, IntKind.signed]
  omega
theorem or16 (v c : Int) (h0 : 0 ≤ v) (h1 : v < 256) (c0 : 0 ≤ c) (c1 : c < 256) : bits .or .u16 (v * 256) c = v * 256 + c :=
  bits_join .u16 16 (by decide) wraps16 8 (v * 256) c (by omega) (by omega) (by omega) c0 (by omega) (by omega)

set_option maxHeartbeats 800000 in
theorem take8_yes {g o n c at' : Nat} {l : List (BitVec 8)} {x : BitVec 8} {w : World} (hA : Byts w (some ⟨g, o, none⟩) l) (hn : n = l.length) (hnc : n ≤ c) (hx : l[at']? = some x) (h9 : at' ≤ 100000) :
    Calls Tryz.prog 209 #[.slice (some ⟨g, o, none⟩) n c, .int .i64 at', .int .i64 1] w fun e w' => e = .returned (.tuple #[.int .u8 x.toNat, .bool true]) ∧ w = w' := by
  have hlt : at' < n := by rw [hn]; exact (List.getElem?_eq_some_iff.1 hx).1
  obtain ⟨a, ha, hc0⟩ := hA at' x hx
  obtain rfl := Option.some.inj ha
  rw [Addr.add_mid] at hc0
  have hxl := x.isLt
  have HX := Go.Lib.hid hx
  have HN := Go.Lib.hid hn
  clear hx ha hA hn
  have d1 : decide (n < at' + 1) = false := decide_eq_false (by omega)
  have d2 : decide ((n : Int) < at' + 1) = false := decide_eq_false (by omega)
  go_enter Tryz.func209, Tryz.ntmps209
  go_upto_region 5 with fail
  go_loopw [8, 24] (fun s8 sj wx => ∃ v : Nat, s8 = .int .u16 v ∧ v < 256 ∧ ((sj = .int .i64 0 ∧ Hid (v = 0)) ∨ (sj = .int .i64 1 ∧ Hid (v = x.toNat))) ∧ wx = w) (fun _ sj _ => (1 - intOf sj).toNat)
  case atStart => exact ⟨0, rfl, by omega, .inl ⟨rfl, rfl⟩, rfl⟩
  case round =>
    obtain ⟨v, rfl, hv, hor, rfl⟩ := hrel
    rcases hor with ⟨rfl, h0⟩ | ⟨rfl, h1⟩
    · obtain rfl : v = 0 := h0.out
      clear h0
      have f1 : bits .or .u16 0 (x.toNat : Int) = x.toNat := by simpa using or16 0 x.toNat (by omega) (by omega) (by omega) (by omega)
      go_wp2_with fail
      exact ⟨⟨x.toNat, rfl, hxl, .inr ⟨rfl, rfl⟩, trivial⟩, by simp [intOf]⟩
    · go_wp2_with fail
      go_ret2
      exact ⟨by rw [h1.out]; rfl, rfl⟩

set_option maxHeartbeats 800000 in
theorem take8_no {A : Option Addr} {n c at' : Nat} {w : World} (hx : n ≤ at') (h9 : at' ≤ 100000) :
    Calls Tryz.prog 209 #[.slice A n c, .int .i64 at', .int .i64 1] w fun e w' => e = .returned (.tuple #[.int .u8 0, .bool false]) ∧ w = w' := by
  have d1 : decide (n < at' + 1) = true := decide_eq_true (by omega)
  have d2 : decide ((n : Int) < at' + 1) = true := decide_eq_true (by omega)
  go_enter Tryz.func209, Tryz.ntmps209
  go_wp2_with fail
  go_ret2
  exact ⟨rfl, rfl⟩

set_option maxHeartbeats 800000 in
theorem take16_yes {g o n c at' : Nat} {l : List (BitVec 8)} {x y : BitVec 8} {w : World} (hA : Byts w (some ⟨g, o, none⟩) l) (hn : n = l.length) (hnc : n ≤ c) (hx : l[at']? = some x) (hy : l[at' + 1]? = some y) (h9 : at' ≤ 100000) :
    Calls Tryz.prog 210 #[.slice (some ⟨g, o, none⟩) n c, .int .i64 at', .int .i64 2] w fun e w' => e = .returned (.tuple #[.int .u16 ((x.toNat * 256 + y.toNat : Nat) : Int), .bool true]) ∧ w = w' := by
  have hlt : at' + 1 < n := by rw [hn]; exact (List.getElem?_eq_some_iff.1 hy).1
  obtain ⟨a, ha, hc0⟩ := hA at' x hx
  obtain rfl := Option.some.inj ha
  rw [Addr.add_mid] at hc0
  obtain ⟨a, ha', hc1⟩ := hA (at' + 1) y hy
  obtain rfl := Option.some.inj ha'
  rw [Addr.add_mid, ← Nat.add_assoc] at hc1
  have hxl := x.isLt
  have hyl := y.isLt
  clear hx hy ha ha' hA hn
  have d1 : decide (n < at' + 2) = false := decide_eq_false (by omega)
  have d2 : decide ((n : Int) < at' + 2) = false := decide_eq_false (by omega)
  go_enter Tryz.func210, Tryz.ntmps210
  go_upto_region 5 with fail
  go_loopw [8, 24] (fun s8 sj wx => ∃ v : Nat, s8 = .int .u16 v ∧ v < 65536 ∧ ((sj = .int .i64 0 ∧ Hid (v = 0)) ∨ (sj = .int .i64 1 ∧ Hid (v = x.toNat)) ∨ (sj = .int .i64 2 ∧ Hid (v = x.toNat * 256 + y.toNat))) ∧ wx = w) (fun _ sj _ => (2 - intOf sj).toNat)
  case atStart => exact ⟨0, rfl, by omega, .inl ⟨rfl, rfl⟩, rfl⟩
  case round =>
    obtain ⟨v, rfl, hv, hor, rfl⟩ := hrel
    rcases hor with ⟨rfl, h0⟩ | ⟨rfl, h1⟩ | ⟨rfl, h2⟩
    · obtain rfl : v = 0 := h0.out
      clear h0
      have f1 : bits .or .u16 0 (x.toNat : Int) = x.toNat := by simpa using or16 0 x.toNat (by omega) (by omega) (by omega) (by omega)
      go_wp2_with fail
      exact ⟨⟨x.toNat, rfl, by omega, .inr (.inl ⟨rfl, rfl⟩), trivial⟩, by simp [intOf]⟩
    · obtain ⟨u, hu⟩ : ∃ u, u = x.toNat * 256 + y.toNat := ⟨_, rfl⟩
      have hvx : v < 256 := by rw [h1.out]; exact hxl
      have f1 : bits .or .u16 ((v : Int) * 256) (y.toNat : Int) = u := by
        rw [or16 v y.toNat (by omega) (by omega) (by omega) (by omega), hu, h1.out]
        omega
      have hul : u < 65536 := by omega
      have HU := Go.Lib.hid hu
      clear h1 hu
      go_wp2_with fail
      exact ⟨⟨u, rfl, hul, .inr (.inr ⟨rfl, HU⟩), trivial⟩, by simp [intOf]⟩
    · go_wp2_with fail
      go_ret2
      exact ⟨by rw [← h2.out]; rfl, rfl⟩

set_option maxHeartbeats 800000 in
theorem take16_no {A : Option Addr} {n c at' : Nat} {w : World} (hx : n < at' + 2) (h9 : at' ≤ 100000) :
    Calls Tryz.prog 210 #[.slice A n c, .int .i64 at', .int .i64 2] w fun e w' => e = .returned (.tuple #[.int .u16 0, .bool false]) ∧ w = w' := by
  have d1 : decide (n < at' + 2) = true := decide_eq_true (by omega)
  have d2 : decide ((n : Int) < at' + 2) = true := decide_eq_true (by omega)
  go_enter Tryz.func210, Tryz.ntmps210
  go_wp2_with fail
  go_ret2
  exact ⟨rfl, rfl⟩

theorem kind_yes {k : Nat} (h1 : 1 ≤ k) (h10 : k ≤ 10) (w : World) : Calls Tryz.prog 211 #[.int .i64 k] w fun e w' => e = .returned (.bool true) ∧ w = w' := by
  have d1 : decide (1 ≤ k) = true := decide_eq_true h1
  have d2 : decide (k ≤ 10) = true := decide_eq_true h10
  have d3 : decide ((1 : Int) ≤ k) = true := decide_eq_true (by omega)
  have d4 : decide ((k : Int) ≤ 10) = true := decide_eq_true (by omega)
  go_enter Tryz.func211, Tryz.ntmps211
  go_wp2
  go_ret
  exact ⟨rfl, rfl⟩

set_option maxHeartbeats 800000 in
theorem clone_ok {A : Option Addr} {n c : Nat} {l : List (BitVec 8)} {w : World} (hA : Byts w A l) (hn : n = l.length) (h0 : 0 < n) (hl : n ≤ 100000) :
    Calls Tryz.prog 97 #[.slice A n c] w (PayIs l w) := by
  obtain ⟨i0, hi, hz0, hz1, hz2⟩ := info5
  have HI := Go.Lib.hid hi
  have HZ0 := Go.Lib.hid hz0
  have HZ1 := Go.Lib.hid hz1
  have HZ2 := Go.Lib.hid hz2
  obtain ⟨x, hx⟩ : ∃ x, l[0]? = some x := ⟨_, List.getElem?_eq_getElem (by omega)⟩
  obtain ⟨a, rfl, _⟩ := hA 0 x hx
  have HA := Go.Lib.hid hA
  have HN := Go.Lib.hid hn
  have HL := Go.Lib.hid (World.ownsRow_lit (base := w.heap.size) (e := 5) (size := 1) w #[] 0 (Nat.le_refl _) (by decide) rfl)
  clear hi hz0 hz1 hz2 hA hn hx
  have heq : ∀ w', (binOp .eql 37 (.slice (some a) n c) (.slice none 0 0)).run Tryz.prog w' = .ok (.bool false) w' := fun w' => Lib.run_eql_slice_nil w' 37 5 (some a) n c 0 0 Tryz.underlying37
  go_enter Tryz.func97, Tryz.ntmps97
  go_wp2_with (at_builtin; refine wpList_append_own _ rfl _ _ 37 rfl w.heap.size 5 i0 (.int .u8 0) 1 1 Tryz.underlying37 HI.out HZ0.out HZ1.out HZ2.out rfl (by decide) _ 0 _ rfl HL.out a n c (by8 l) rfl (by rw [by8_len, Nat.mul_one, HN.out]) ?c1 ?c2 ?c3 ?c4 ?c5 ?_)
  case c1 =>
    intro j u hj
    obtain ⟨x, hx⟩ : ∃ x, l[j]? = some x := ⟨_, List.getElem?_eq_getElem (by rw [← by8_len]; exact (List.getElem?_eq_some_iff.1 hj).1)⟩
    rw [by8_get hx] at hj
    obtain rfl := Option.some.inj hj
    obtain ⟨a', ha', hc⟩ := (HA.out.keeps0 ((Keeps.refl [] w).alloc _)) j x hx
    obtain rfl := Option.some.inj ha'
    exact hc
  case c2 => exact by8_one _
  case c3 => unfold maxLen; omega
  case c4 => omega
  intro v1 w1 hown1 hgrow1 _
  have HK := Go.Lib.hid (keeps_grow ((Keeps.refl [] w).alloc _) HL.out hgrow1)
  have HO : Hid (w1.ownsRow w.heap.size 5 1 v1 l.length (by8 l)) := Go.Lib.hid (by
    rw [← HN.out]
    simpa using hown1)
  clear hown1 hgrow1
  go_wp2_with fail
  go_ret
  exact ⟨v1, rfl, HO.out, HK.out⟩
theorem clone_nil (w : World) : Calls Tryz.prog 97 #[.slice none 0 0] w fun e w' => e = .returned (.slice none 0 0) ∧ w = w' := by
  have heq : ∀ w', (binOp .eql 37 (.slice none 0 0) (.slice none 0 0)).run Tryz.prog w' = .ok (.bool true) w' := fun w' => Lib.run_eql_slice_nil w' 37 5 none 0 0 0 0 Tryz.underlying37
  go_enter Tryz.func97, Tryz.ntmps97
  go_wp2_with fail
  go_ret
  exact ⟨rfl, rfl⟩
end Go.Proofs.YtkhalpnonijogaaGreat
