/- 'look', 'Decode', 'Begins': what bytes begin with. No condition but the row's. -/
import Derived.Test.YtkhalpnonijogaaGreatX04
namespace Go.Proofs.YtkhalpnonijogaaGreat
open Go.RowKit

theorem take8_any {g o n c : Nat} {l : List (BitVec 8)} {w : World} (hA : Byts w (some ⟨g, o, none⟩) l) (hn : n = l.length) (hnc : n ≤ c) :
    Calls Tryz.prog 209 #[.slice (some ⟨g, o, none⟩) n c, .int .i64 1, .int .i64 1] w fun e w' => (∃ (v : Nat) (th : Bool), e = .returned (.tuple #[.int .u8 v, .bool th])) ∧ w = w' := by
  by_cases h : 1 < l.length
  · exact (take8_yes (at' := 1) hA hn hnc (List.getElem?_eq_getElem h) (by omega)).mono fun _ _ ⟨h1, h2⟩ => ⟨⟨_, _, h1⟩, h2⟩
  · exact (take8_no (at' := 1) (by omega) (by omega)).mono fun _ _ ⟨h1, h2⟩ => ⟨⟨0, _, h1⟩, h2⟩
def noFrame : Value := .agg #[.int .i64 0, .int .i64 0, .slice none 0 0]
set_option maxHeartbeats 1600000 in
set_option maxRecDepth 100000 in
theorem look_bad {g o n c : Nat} {x : BitVec 8} {t : List (BitVec 8)} {w : World} (hA : Byts w (some ⟨g, o, none⟩) (x :: t)) (hn : n = t.length + 1) (hnc : n ≤ c) (h9 : n ≤ 100000) (hx : x ≠ 0x7e#8) :
    Calls Tryz.prog 151 #[.slice (some ⟨g, o, none⟩) n c] w fun e w' => e = .returned (.tuple #[noFrame, .int .i64 0, .bool false]) ∧ Keeps [] w w' := by
  obtain ⟨a, ha, hc0⟩ := hA 0 x rfl
  obtain rfl := Option.some.inj ha
  have hk0 : Keeps [] w (w.alloc (.cells #[.int .i64 0, .int .i64 0, .slice none 0 0] 63)) := (Keeps.refl _ _).alloc _
  have hc1 : (w.alloc (.cells #[.int .i64 0, .int .i64 0, .slice none 0 0] 63)).cell? ⟨g, o, none⟩ = some (.int .u8 x.toNat) := hk0.cell hc0 (by simp)
  have hxn : x.toNat ≠ 126 := fun h => hx (BitVec.eq_of_toNat_eq h)
  have f0 : ((x.toNat : Int) != 126) = true := by simp; omega
  have hn0 : 0 < n := by omega
  have e0 : ((n : Int) == 0) = false := by simp; omega
  have e1 : (n == 0) = false := by simp; omega
  have HA := Go.Lib.hid (hA.keeps0 hk0)
  have HN := Go.Lib.hid hn
  clear hA ha hx hxn hk0 hn hc0
  go_enter Tryz.func151, Tryz.ntmps151
  go_wp2_with fail
  refine (take8_any HA.out HN.out hnc).mono ?_
  rintro e w' ⟨⟨v, th, rfl⟩, rfl⟩
  go_wp2_with fail
  refine bodyPost_ret (v := .tuple #[noFrame, .int .i64 0, .bool false]) (by simp [results, Tryz.f151, go_sem, noFrame]) rfl ?_
  exact ⟨rfl, (Keeps.refl _ _).alloc _⟩

set_option maxHeartbeats 1600000 in
set_option maxRecDepth 100000 in
theorem look_nil {A : Option Addr} {c : Nat} {w : World} :
    Calls Tryz.prog 151 #[.slice A (0 : Nat) c] w fun e w' => e = .returned (.tuple #[noFrame, .int .i64 0, .bool true]) ∧ Keeps [] w w' := by
  go_enter Tryz.func151, Tryz.ntmps151
  go_wp2_with fail
  refine bodyPost_ret (v := .tuple #[noFrame, .int .i64 0, .bool true]) (by simp [results, Tryz.f151, go_sem, noFrame]) rfl ?_
  exact ⟨rfl, (Keeps.refl _ _).alloc _⟩

/-- The numbers in a frame's head. -/
theorem Frm.len_nat {f : Frm} (hf : f.Ok) : (hi8 f.len).toNat * 256 + (lo8 f.len).toNat = f.pay.length ∧ (hi8 f.len).toNat ≤ 1 := by
  have h := hf.pay
  have hl : f.len.toNat = f.pay.length := by simp [Frm.len]; omega
  rw [hi8_nat, lo8_nat, hl]
  omega

set_option maxHeartbeats 3200000 in
set_option maxRecDepth 100000 in
theorem look_maybe {f : Frm} (hf : f.Ok) {p t : List (BitVec 8)} (hpt : f.enc = p ++ t) (ht : t ≠ []) {g o n c : Nat} {w : World} (hA : Byts w (some ⟨g, o, none⟩) p) (hn : n = p.length) (hnc : n ≤ c) (h0 : 0 < n) :
    Calls Tryz.prog 151 #[.slice (some ⟨g, o, none⟩) n c] w fun e w' => e = .returned (.tuple #[noFrame, .int .i64 0, .bool true]) ∧ Keeps [] w w' := by
  have hk0 : Keeps [] w (w.alloc (.cells #[.int .i64 0, .int .i64 0, .slice none 0 0] 63)) := (Keeps.refl _ _).alloc _
  have hlt : n < f.pay.length + 7 := by
    have h1 := congrArg List.length hpt
    rw [Frm.enc_len, List.length_append] at h1
    have h2 := List.length_pos_iff.2 ht
    omega
  have hget : ∀ i, i < n → p[i]? = f.enc[i]? := fun i hi => by rw [hpt, List.getElem?_append_left (by omega)]
  have g0 : p[0]? = some 0x7e#8 := by rw [hget 0 h0]; rfl
  obtain ⟨a, ha, hc0⟩ := hA 0 _ g0
  obtain rfl := Option.some.inj ha
  have hc1 : (w.alloc (.cells #[.int .i64 0, .int .i64 0, .slice none 0 0] 63)).cell? ⟨g, o, none⟩ = some (.int .u8 126) := hk0.cell hc0 (by simp)
  have e0 : ((n : Int) == 0) = false := by simp; omega
  have e1 : (n == 0) = false := by simp; omega
  obtain ⟨hlen, hhi⟩ := f.len_nat hf
  have hpl := hf.pay
  have HA := Go.Lib.hid (hA.keeps0 hk0)
  have HN := Go.Lib.hid hn
  have HG := Go.Lib.hid hget
  have HF := Go.Lib.hid hf
  have HLE := Go.Lib.hid hlen
  clear hA ha hk0 hn hc0 g0 hget hpt ht hlen hf
  by_cases c1 : n < 2
  · have HT := Go.Lib.hid (fun W => take8_no (A := some ⟨g, o, none⟩) (n := n) (c := c) (at' := 1) (w := W) (by omega) (by omega))
    have HU := Go.Lib.hid (fun W => take16_no (A := some ⟨g, o, none⟩) (n := n) (c := c) (at' := 1) (w := W) (by omega) (by omega))
    have HV := Go.Lib.hid (fun W => take8_no (A := some ⟨g, o, none⟩) (n := n) (c := c) (at' := 4) (w := W) (by omega) (by omega))
    have HW := Go.Lib.hid (fun W => take16_no (A := some ⟨g, o, none⟩) (n := n) (c := c) (at' := 5) (w := W) (by omega) (by omega))
    go_enter Tryz.func151, Tryz.ntmps151
    go_wp2_with fail
    refine (HT.out _).mono ?_
    rintro e w' ⟨rfl, rfl⟩
    go_wp2_with fail
    refine (HU.out _).mono ?_
    rintro e w' ⟨rfl, rfl⟩
    go_wp2_with fail
    refine (HV.out _).mono ?_
    rintro e w' ⟨rfl, rfl⟩
    go_wp2_with fail
    refine (HW.out _).mono ?_
    rintro e w' ⟨rfl, rfl⟩
    go_wp2_with fail
    refine bodyPost_ret (v := .tuple #[noFrame, .int .i64 0, .bool true]) (by simp [results, Tryz.f151, go_sem, noFrame]) rfl ?_
    exact ⟨rfl, (Keeps.refl _ _).alloc _⟩
  · have HT := Go.Lib.hid (take8_yes (at' := 1) (c := c) (x := hi8 f.len) HA.out HN.out hnc (by rw [HG.out 1 (by omega)]; rfl) (by omega))
    have f1 : decide (1 < (hi8 f.len).toNat) = false := decide_eq_false (by omega)
    have f1' : decide ((1 : Int) < (hi8 f.len).toNat) = false := decide_eq_false (by omega)
    by_cases c2 : n < 3
    · have HU := Go.Lib.hid (fun W => take16_no (A := some ⟨g, o, none⟩) (n := n) (c := c) (at' := 1) (w := W) (by omega) (by omega))
      have HV := Go.Lib.hid (fun W => take8_no (A := some ⟨g, o, none⟩) (n := n) (c := c) (at' := 4) (w := W) (by omega) (by omega))
      have HW := Go.Lib.hid (fun W => take16_no (A := some ⟨g, o, none⟩) (n := n) (c := c) (at' := 5) (w := W) (by omega) (by omega))
      go_enter Tryz.func151, Tryz.ntmps151
      go_wp2_with fail
      refine HT.out.mono ?_
      rintro e w' ⟨rfl, rfl⟩
      go_wp2_with fail
      refine (HU.out _).mono ?_
      rintro e w' ⟨rfl, rfl⟩
      go_wp2_with fail
      refine (HV.out _).mono ?_
      rintro e w' ⟨rfl, rfl⟩
      go_wp2_with fail
      refine (HW.out _).mono ?_
      rintro e w' ⟨rfl, rfl⟩
      go_wp2_with fail
      refine bodyPost_ret (v := .tuple #[noFrame, .int .i64 0, .bool true]) (by simp [results, Tryz.f151, go_sem, noFrame]) rfl ?_
      exact ⟨rfl, (Keeps.refl _ _).alloc _⟩
    · have HU0 := take16_yes (at' := 1) (c := c) (x := hi8 f.len) (y := lo8 f.len) HA.out HN.out hnc (by rw [HG.out 1 (by omega)]; rfl) (by rw [HG.out 2 (by omega)]; rfl) (by omega)
      rw [HLE.out] at HU0
      have HU := Go.Lib.hid HU0
      have f2 : decide (256 < f.pay.length) = false := decide_eq_false (by omega)
      have f2' : decide ((256 : Int) < f.pay.length) = false := decide_eq_false (by omega)
      have HW := Go.Lib.hid (fun W => take16_no (A := some ⟨g, o, none⟩) (n := n) (c := c) (at' := 5 + f.pay.length) (w := W) (by omega) (by omega))
      clear HU0
      by_cases c3 : n < 5
      · have HV := Go.Lib.hid (fun W => take8_no (A := some ⟨g, o, none⟩) (n := n) (c := c) (at' := 4) (w := W) (by omega) (by omega))
        go_enter Tryz.func151, Tryz.ntmps151
        go_wp2_with fail
        refine HT.out.mono ?_
        rintro e w' ⟨rfl, rfl⟩
        go_wp2_with fail
        refine HU.out.mono ?_
        rintro e w' ⟨rfl, rfl⟩
        go_wp2_with fail
        refine (HV.out _).mono ?_
        rintro e w' ⟨rfl, rfl⟩
        go_wp2_with fail
        refine (HW.out _).mono ?_
        rintro e w' ⟨rfl, rfl⟩
        go_wp2_with fail
        refine bodyPost_ret (v := .tuple #[noFrame, .int .i64 0, .bool true]) (by simp [results, Tryz.f151, go_sem, noFrame]) rfl ?_
        exact ⟨rfl, (Keeps.refl _ _).alloc _⟩
      · have HV := Go.Lib.hid (take8_yes (at' := 4) (c := c) (x := f.kind) HA.out HN.out hnc (by rw [HG.out 4 (by omega)]; rfl) (by omega))
        have HK := Go.Lib.hid (fun W => kind_yes HF.out.kind1 HF.out.kind10 W)
        have hkl := f.kind.isLt
        go_enter Tryz.func151, Tryz.ntmps151
        go_wp2_with fail
        refine HT.out.mono ?_
        rintro e w' ⟨rfl, rfl⟩
        go_wp2_with fail
        refine HU.out.mono ?_
        rintro e w' ⟨rfl, rfl⟩
        go_wp2_with fail
        refine HV.out.mono ?_
        rintro e w' ⟨rfl, rfl⟩
        go_wp2_with fail
        refine (HK.out _).mono ?_
        rintro e w' ⟨rfl, rfl⟩
        go_wp2_with fail
        refine (HW.out _).mono ?_
        rintro e w' ⟨rfl, rfl⟩
        go_wp2_with fail
        refine bodyPost_ret (v := .tuple #[noFrame, .int .i64 0, .bool true]) (by simp [results, Tryz.f151, go_sem, noFrame]) rfl ?_
        exact ⟨rfl, (Keeps.refl _ _).alloc _⟩
end Go.Proofs.YtkhalpnonijogaaGreat
