/- 'crc.Sum' of bytes. No condition but the row's. | The reference's 'Sum' of bytes. No condition but the row's. | The reference's 'Encode' of a frame. No condition but the frame's. -/
import Derived.Test.YtkhalpnonijogaaGreatX01
import Derived.OwnWalk
namespace Go.Proofs.YtkhalpnonijogaaGreat
open Go.RowKit

theorem zero_size : Tryz.zeroCells498.size = tabL.toArray.size := by
  have h : Tryz.zeroCells498.size = 256 := by kernel_rfl
  rw [h, List.size_toArray, tabL_len]
theorem ofInt8 (x : BitVec 8) : BitVec.ofInt IntKind.u8.bits (x.toNat : Int) = x := by
  show BitVec.ofInt 8 _ = x
  rw [BitVec.ofInt_natCast, BitVec.ofNat_toNat, BitVec.setWidth_eq]
theorem wrap8 (n : Nat) (h : n < 256) : IntKind.u8.wrap n = n := by
  simp [IntKind.wrap, IntKind.bits, IntKind.signed]
  omega
theorem bits_x8 (x y : BitVec 8) : bits .xor .u8 x.toNat y.toNat = ((x ^^^ y).toNat : Int) := by
  unfold bits
  rw [ofInt8, ofInt8]
  exact wrap8 _ (x ^^^ y).isLt
theorem wrap_shl8 (x : BitVec 16) : IntKind.u16.wrap ((x.toNat : Int) * 256) = ((x <<< 8).toNat : Int) := by
  simp [IntKind.wrap, IntKind.bits, IntKind.signed, BitVec.toNat_shiftLeft, Nat.shiftLeft_eq]
theorem high_nat (x : BitVec 16) : ((x >>> 8).setWidth 8).toNat = x.toNat / 256 := by
  have := x.isLt
  simp [BitVec.toNat_ushiftRight, Nat.shiftRight_eq_div_pow]
  omega
theorem tab_get (x : BitVec 8) : tabL[x.toNat]? = some (w16 (Crc.row x)) := by
  have hx := x.isLt
  simp only [tabL, List.getElem?_map, List.getElem?_range hx, Option.map_some]
  rw [BitVec.ofNat_toNat, BitVec.setWidth_eq]

set_option maxHeartbeats 1600000 in
set_option maxRecDepth 100000 in
theorem sum_ok {A : Option Addr} {c : Nat} {l : List (BitVec 8)} {w : World} (hA : Byts w A l) (hl : l.length ≤ 100000) :
    Calls Tryz.prog 265 #[.slice A l.length c, .int .i64 1] w fun e w' => e = .returned (w16 (Crc.sumT l)) ∧ Keeps [] w w' := by
  have HA := Go.Lib.hid hA
  clear hA
  go_enter Tryz.func265, Tryz.ntmps265
  go_wp2_with fail
  refine (row_ok _).mono ?_
  rintro e w1 ⟨rfl, hk1⟩
  obtain ⟨X, hX⟩ : ∃ X : Array Value, X = tabL.toArray := ⟨_, rfl⟩
  rw [← hX]
  have HK1 := Go.Lib.hid hk1
  have hsz : (Tryz.prog.info? 498).map (·.size) = some X.size := by rw [hX, List.size_toArray, tabL_len]; exact info498
  have hall : X.all (·.oneCell') = true := by rw [hX]; exact all_oneCell_toArray tabL_one
  have hz : Tryz.zeroCells498.size = X.size := by rw [hX]; exact zero_size
  have hth : (w1.alloc (.cells Tryz.zeroCells498 498)).there w1.heap.size 0 X.size := by
    rw [← hz]
    exact there_of_block (heap_alloc_new w1 _)
  have hb2 : ((w1.alloc (.cells Tryz.zeroCells498 498)).setCells w1.heap.size 0 X.toList).heap[w1.heap.size]? = some (.cells X 498 (0, 0)) := by
    simpa using heap_setCells_all (heap_alloc_new w1 (.cells Tryz.zeroCells498 498)) (vs := X.toList) (by simp [hz])
  have hk2 : Keeps [] w ((w1.alloc (.cells Tryz.zeroCells498 498)).setCells w1.heap.size 0 X.toList) := keeps_setCells (.inr hk1.size) _ _ _ (hk1.alloc _)
  have HX := Go.Lib.hid hX
  have HB2 := Go.Lib.hid hb2
  have HK2 := Go.Lib.hid hk2
  clear hk1 hX hz hb2 hk2
  go_upto_region 2 with (with_reducible refine wpList_store_mid rfl 498 (.tmp 5) (.tmp 10) rfl w1.heap.size 0 X rfl rfl hth hsz hall ?_)
  clear hth hall hsz
  obtain ⟨w2, hw2⟩ : ∃ w2, w2 = (w1.alloc (.cells Tryz.zeroCells498 498)).setCells w1.heap.size 0 X.toList := ⟨_, rfl⟩
  obtain ⟨b, hb⟩ : ∃ b, b = w1.heap.size := ⟨_, rfl⟩
  rw [← hb] at hw2 HB2 HK2 ⊢
  rw [← hw2] at HB2 HK2 ⊢
  clear hw2 hb
  go_upto_region 4 with fail
  have hl9 : l.length ≤ 100000 := hl
  go_loopw [6, 13] (fun sx si wx => ∃ (k n : Nat), sx = .int .u16 n ∧ si = .int .i64 k ∧ k ≤ l.length ∧ n < 65536 ∧ Hid (n = (Crc.sumT (l.take k)).toNat) ∧ wx = w2) (fun _ si _ => l.length - (intOf si).toNat)
  case atStart => exact ⟨0, 65535, rfl, rfl, by omega, by omega, rfl, rfl⟩
  case round =>
    obtain ⟨k, n, rfl, rfl, hk, hn, HN, rfl⟩ := hrel
    by_cases hlt : k < l.length
    · have d1 : decide (k < l.length) = true := decide_eq_true hlt
      obtain ⟨x, hx⟩ : ∃ x, l[k]? = some x := ⟨_, List.getElem?_eq_getElem hlt⟩
      obtain ⟨a, rfl, a0⟩ := (HA.out.keeps0 HK2.out) k x hx
      have hxl := x.isLt
      obtain ⟨xn, hxn⟩ : ∃ xn, xn = x.toNat := ⟨_, rfl⟩
      rw [← hxn] at a0 hxl
      have HXN := Go.Lib.hid hxn
      have HXX := Go.Lib.hid hx
      clear hxn hx
      go_upto_region 7 with fail
      obtain ⟨y, hy⟩ : ∃ y, y = Crc.sumT (l.take k) := ⟨_, rfl⟩
      have HY := Go.Lib.hid hy
      have hny : n = y.toNat := by rw [HN.out, hy]
      have HNY := Go.Lib.hid hny
      clear hy hny HN
      go_loopw [6, 9] (fun sx sk wx => ∃ (v : Nat), sx = .int .u16 v ∧ v < 65536 ∧ ((sk = .int .i64 0 ∧ Hid (v = n)) ∨ (sk = .int .i64 (-1) ∧ Hid (v = (Crc.stepT y x).toNat))) ∧ wx = wr) (fun _ sk _ => (intOf sk + 1).toNat)
      case atStart => exact ⟨n, rfl, hn, .inl ⟨rfl, rfl⟩, rfl⟩
      case round =>
        obtain ⟨v, rfl, hv, hor, rfl⟩ := hrel
        rcases hor with ⟨rfl, hvn⟩ | ⟨rfl, hvn⟩
        · obtain rfl : v = n := hvn.out
          clear hvn
          obtain ⟨z, hz⟩ : ∃ z : BitVec 8, z = (y >>> 8).setWidth 8 ^^^ x := ⟨_, rfl⟩
          obtain ⟨j, hj⟩ : ∃ j, j = z.toNat := ⟨_, rfl⟩
          obtain ⟨r, hr⟩ : ∃ r, r = (Crc.row z).toNat := ⟨_, rfl⟩
          obtain ⟨p, hp⟩ : ∃ p, p = (y <<< 8).toNat := ⟨_, rfl⟩
          obtain ⟨q, hq⟩ : ∃ q, q = (Crc.stepT y x).toNat := ⟨_, rfl⟩
          have hj8 : j < 256 := by rw [hj]; exact z.isLt
          have hq16 : q < 65536 := by rw [hq]; exact (Crc.stepT y x).isLt
          have f1 : bits .xor .u8 ((v : Int) / 256) (xn : Int) = j := by
            have h1 : (v : Int) / (256 : Int) = (((y >>> 8).setWidth 8).toNat : Int) := by rw [high_nat, HNY.out]; omega
            rw [h1, HXN.out, bits_x8, hj, hz]
          have f2 : IntKind.u16.wrap ((v : Int) * 256) = p := by rw [HNY.out, wrap_shl8, hp]
          have f3 : bits .xor .u16 (p : Int) (r : Int) = q := by rw [hp, hr, bits_x16, hq, Crc.stepT, hz]
          have f4 : wr.cell? ⟨b, j, none⟩ = some (.int .u16 r) := by
            have h1 : X[j]? = some (w16 (Crc.row z)) := by rw [HX.out, hj]; simpa using tab_get z
            have := (cell_at HB2.out h1).1
            rwa [w16, ← hr] at this
          have HQ := Go.Lib.hid hq
          clear hz hj hr hp hq
          go_wp2_with fail
          exact ⟨⟨q, rfl, hq16, .inr ⟨rfl, HQ⟩, trivial⟩, by simp [intOf]⟩
        · have HS : Hid (v = (Crc.sumT (l.take (k + 1))).toNat) := Go.Lib.hid (by
            rw [List.take_add_one, HXX.out, Option.toList_some, Crc.sumT, List.foldl_append, hvn.out, HY.out]
            rfl)
          clear hvn
          go_wp2_with fail
          exact ⟨⟨k + 1, v, rfl, by go_num, by omega, hv, HS, trivial⟩, by simp [intOf]; omega⟩
    · have d1 : decide (k < l.length) = false := decide_eq_false hlt
      have HS : Hid (n = (Crc.sumT l).toNat) := Go.Lib.hid (by rw [HN.out, List.take_of_length_le (by omega)])
      clear HN
      go_wp2_with fail
      go_ret
      exact ⟨by rw [w16, ← HS.out]; rfl, HK2.out⟩

theorem crc_ok {A : Option Addr} {c : Nat} {l : List (BitVec 8)} {w : World} (hA : Byts w A l) (hl : l.length ≤ 100000) :
    Calls Tryz.prog 212 #[.slice A l.length c] w fun e w' => e = .returned (w16 (Crc.sumB l)) ∧ Keeps [] w w' := by
  have HA := Go.Lib.hid hA
  clear hA
  go_enter Tryz.func212, Tryz.ntmps212
  go_wp2_with fail
  refine (sum_ok HA.out hl).mono ?_
  rintro e w1 ⟨rfl, hk1⟩
  rw [Crc.sum_eq]
  go_wp2_with fail
  go_ret
  exact ⟨rfl, hk1⟩
end Go.Proofs.YtkhalpnonijogaaGreat
namespace Go.Proofs.YtkhalpnonijogaaGreat
open Go.RowKit

theorem wide_nat (x : BitVec 8) : ((Crc.wide x <<< 8 : BitVec 16).toNat : Int) = (x.toNat : Int) * 256 := by
  have := x.isLt
  simp [Crc.wide, BitVec.toNat_shiftLeft, Nat.shiftLeft_eq]
  omega
set_option maxHeartbeats 1600000 in
theorem sumr_ok {A : Option Addr} {c : Nat} {l : List (BitVec 8)} {w : World} (hA : Byts w A l) (hl : l.length ≤ 100000) :
    Calls Tryz.prog 69 #[.slice A l.length c] w fun e w' => e = .returned (w16 (Crc.sumB l)) ∧ w = w' := by
  have HA := Go.Lib.hid hA
  clear hA
  go_enter Tryz.func69, Tryz.ntmps69
  go_upto_region 3 with fail
  go_loopw [3, 4] (fun sx si wx => ∃ (k n : Nat), sx = .int .u16 n ∧ si = .int .i64 k ∧ k ≤ l.length ∧ n < 65536 ∧ Hid (n = (Crc.sumB (l.take k)).toNat) ∧ wx = w) (fun _ si _ => l.length - (intOf si).toNat)
  case atStart => exact ⟨0, 65535, rfl, rfl, by omega, by omega, rfl, rfl⟩
  case round =>
    obtain ⟨k, n, rfl, rfl, hk, hn, HN, rfl⟩ := hrel
    by_cases hlt : k < l.length
    · have d1 : decide (k < l.length) = true := decide_eq_true hlt
      obtain ⟨x, hx⟩ : ∃ x, l[k]? = some x := ⟨_, List.getElem?_eq_getElem hlt⟩
      obtain ⟨a, rfl, a0⟩ := HA.out k x hx
      have hxl := x.isLt
      obtain ⟨xn, hxn⟩ : ∃ xn, xn = x.toNat := ⟨_, rfl⟩
      rw [← hxn] at a0 hxl
      obtain ⟨y, hy⟩ : ∃ y, y = Crc.sumB (l.take k) := ⟨_, rfl⟩
      obtain ⟨z, hz⟩ : ∃ z, z = y ^^^ (Crc.wide x <<< 8) := ⟨_, rfl⟩
      obtain ⟨m, hm⟩ : ∃ m, m = z.toNat := ⟨_, rfl⟩
      have hm16 : m < 65536 := by rw [hm]; exact z.isLt
      have f1 : bits .xor .u16 (n : Int) ((xn : Int) * 256) = m := by
        rw [HN.out, ← hy, hxn, ← wide_nat, bits_x16, hm, hz]
      have HS : Hid (Crc.bits8 z = Crc.sumB (l.take (k + 1))) := Go.Lib.hid (by
        rw [List.take_add_one, hx, Option.toList_some, Crc.sumB, List.foldl_append, hz, hy]
        rfl)
      have HMZ := Go.Lib.hid hm
      clear hxn hx hy hz hm HN
      go_upto_region 7 with fail
      go_loopw [3, 5] (fun sx sj wx => ∃ (j p : Nat), sx = .int .u16 p ∧ sj = .int .i64 j ∧ j ≤ 8 ∧ p < 65536 ∧ Hid (p = (bitN j z).toNat) ∧ wx = wr) (fun _ sj _ => 8 - (intOf sj).toNat)
      case atStart => exact ⟨0, m, rfl, rfl, by omega, hm16, HMZ, rfl⟩
      case round =>
        obtain ⟨j, p, rfl, rfl, hj, hp, HP, rfl⟩ := hrel
        by_cases hj8 : j < 8
        · have e1 : decide (j < 8) = true := decide_eq_true hj8
          have e2 : decide ((j : Int) < 8) = true := decide_eq_true (by omega)
          obtain ⟨v, hv⟩ : ∃ v, v = bitN j z := ⟨_, rfl⟩
          have hpv : p = v.toNat := by rw [HP.out, hv]
          obtain ⟨s, hs⟩ : ∃ s, s = (v <<< 1).toNat := ⟨_, rfl⟩
          have hsl : s < 65536 := by rw [hs]; exact (v <<< 1).isLt
          have hsh : IntKind.u16.wrap ((p : Int) * 2) = s := by rw [hpv, hs]; exact wrap_shl16 v
          cases hm : v.msb with
          | true =>
            obtain ⟨q, hq⟩ : ∃ q, q = (Crc.bit v).toNat := ⟨_, rfl⟩
            have hql : q < 65536 := by rw [hq]; exact (Crc.bit v).isLt
            have ha : (bits .and .u16 (p : Int) 32768 != 0) = true := by rw [hpv, bits_a16, hm]; rfl
            have hx : bits .xor .u16 (s : Int) 4129 = q := by
              rw [hs, hq, Crc.bit, hm]
              exact bits_x16 (v <<< 1) 4129#16
            have HN2 : Hid (q = (bitN (j + 1) z).toNat) := Go.Lib.hid (by rw [hq, bitN, ← hv])
            clear hv hpv hm HP hs hq
            go_wp2_with fail
            exact ⟨⟨j + 1, q, rfl, by go_num, by omega, hql, HN2, trivial⟩, by simp [intOf]; omega⟩
          | false =>
            have ha : (bits .and .u16 (p : Int) 32768 != 0) = false := by rw [hpv, bits_a16, hm]; rfl
            have HN2 : Hid (s = (bitN (j + 1) z).toNat) := Go.Lib.hid (by rw [hs, bitN, ← hv, Crc.bit, hm]; rfl)
            clear hv hpv hm HP hs
            go_wp2_with fail
            exact ⟨⟨j + 1, s, rfl, by go_num, by omega, hsl, HN2, trivial⟩, by simp [intOf]; omega⟩
        · obtain rfl : j = 8 := by omega
          have HK2 : Hid (p = (Crc.sumB (l.take (k + 1))).toNat) := Go.Lib.hid (by rw [HP.out, ← HS.out]; rfl)
          clear HP HS
          go_wp2_with fail
          exact ⟨⟨k + 1, p, rfl, by go_num, by omega, hp, HK2, trivial⟩, by simp [intOf]; omega⟩
    · have d1 : decide (k < l.length) = false := decide_eq_false hlt
      have HS : Hid (n = (Crc.sumB l).toNat) := Go.Lib.hid (by rw [HN.out, List.take_of_length_le (by omega)])
      clear HN
      go_wp2_with fail
      go_ret
      exact ⟨by rw [w16, ← HS.out]; rfl, rfl⟩
end Go.Proofs.YtkhalpnonijogaaGreat
namespace Go.Proofs.YtkhalpnonijogaaGreat
open Go.RowKit

theorem info5 : ∃ i0, Tryz.prog.info? 5 = some i0 ∧ i0.zero = some (.int .u8 0) ∧ i0.size = 1 ∧ i0.bytes = 1 := by
  have hm : (Tryz.prog.info? 5).map (fun i => (i.zero, i.size, i.bytes)) = some (some (.int .u8 0), 1, 1) := by kernel_rfl
  obtain ⟨i0, h1, h2, h3, h4⟩ := info_parts hm
  exact ⟨i0, h1, h2, h3, h4⟩
/-- All of a frame but its payload and its sum. -/
def Frm.head (f : Frm) : List (BitVec 8) := [0x7e#8, hi8 f.len, lo8 f.len, f.seq, f.kind]
theorem hi8_nat (s : BitVec 16) : (hi8 s).toNat = s.toNat / 256 := high_nat s
theorem lo8_nat (s : BitVec 16) : (lo8 s).toNat = s.toNat % 256 := by simp [lo8]

set_option maxHeartbeats 1600000 in
theorem enc_ok {f : Frm} (hf : f.Ok) (hp : f.pay ≠ []) {A : Option Addr} {c : Nat} {w : World} (hA : Byts w A f.pay) :
    Calls Tryz.prog 34 #[.agg #[.int .i64 f.seq.toNat, .int .i64 f.kind.toNat, .slice A f.pay.length c]] w fun e w' => ∃ v, e = .returned v ∧ w'.ownsRow w.heap.size 5 1 v f.enc.length (by8 f.enc) ∧ Keeps [] w w' := by
  obtain ⟨i0, hi, hz0, hz1, hz2⟩ := info5
  have HI := Go.Lib.hid hi
  have HZ0 := Go.Lib.hid hz0
  have HZ1 := Go.Lib.hid hz1
  have HZ2 := Go.Lib.hid hz2
  have hlen := hf.pay
  have hpos : 0 < f.pay.length := List.length_pos_iff.2 hp
  have hs := f.seq.isLt
  have hk := f.kind.isLt
  have HA := Go.Lib.hid hA
  clear hi hz0 hz1 hz2 hA hp
  go_enter Tryz.func34, Tryz.ntmps34
  go_upto_region 3 with fail
  obtain ⟨b, hb⟩ : ∃ b, b = w.heap.size := ⟨_, rfl⟩
  obtain ⟨w2, hw2⟩ : ∃ w2, w2 = (w.alloc (.cells #[.int .i64 f.seq.toNat, .int .i64 f.kind.toNat, .slice A f.pay.length c] 63)).alloc (.cells #[.int .u8 126, .int .u8 ((f.pay.length : Int) / 256), .int .u8 ((f.pay.length : Int) % 256), .int .u8 f.seq.toNat, .int .u8 f.kind.toNat] 5) := ⟨_, rfl⟩
  rw [← hw2, ← hb]
  have hk2 : Keeps [] w w2 := by rw [hw2]; exact ((Keeps.refl _ _).alloc _).alloc _
  have hx2 : w2.heap[b]? = some (.cells #[.int .i64 f.seq.toNat, .int .i64 f.kind.toNat, .slice A f.pay.length c] 63 (0, 0)) := by
    rw [hw2, hb, Below.heap_alloc _ _ _ (by simp)]
    exact heap_alloc_new _ _
  have hhd : by8 f.head = [Value.int .u8 126, .int .u8 ((f.pay.length : Int) / 256), .int .u8 ((f.pay.length : Int) % 256), .int .u8 f.seq.toNat, .int .u8 f.kind.toNat] := by
    have hl : f.len.toNat = f.pay.length := by simp [Frm.len]; omega
    simp [by8, Frm.head, hi8_nat, lo8_nat, hl]
  have ho2 : w2.ownsRow w.heap.size 5 1 (.slice (some ⟨b + 1, 0, none⟩) 5 5) 5 (by8 f.head) := by
    rw [hhd, hb, hw2]
    have h1 := World.ownsRow_lit (base := w.heap.size) (e := 5) (size := 1) (w.alloc (.cells #[.int .i64 f.seq.toNat, .int .i64 f.kind.toNat, .slice A f.pay.length c] 63)) #[.int .u8 126, .int .u8 ((f.pay.length : Int) / 256), .int .u8 ((f.pay.length : Int) % 256), .int .u8 f.seq.toNat, .int .u8 f.kind.toNat] 5 (by simp) (by decide) rfl
    rwa [World.size_alloc] at h1
  have y2 := (cell_at hx2 (p := 2) rfl).1
  have HX2 := Go.Lib.hid hx2
  have HK2 := Go.Lib.hid hk2
  have HO2 := Go.Lib.hid ho2
  have hbw : w.heap.size ≤ b := by omega
  have hsz2 := hk2.size
  clear hw2 hk2 hx2 hhd ho2 hb
  obtain ⟨x0, hx0⟩ : ∃ x0, f.pay[0]? = some x0 := ⟨_, List.getElem?_eq_getElem hpos⟩
  obtain ⟨a, rfl, _⟩ := HA.out 0 x0 hx0
  clear hx0
  go_wp2_with (at_builtin; refine wpList_append_own _ rfl _ _ 37 rfl w.heap.size 5 i0 (.int .u8 0) 1 1 Tryz.underlying37 HI.out HZ0.out HZ1.out HZ2.out rfl (by decide) _ 5 _ rfl HO2.out a f.pay.length c (by8 f.pay) rfl (by rw [by8_len, Nat.mul_one]) ?c1 ?c2 ?c3 ?c4 ?c5 ?_)
  case c1 =>
    intro j u hj
    obtain ⟨x, hx⟩ : ∃ x, f.pay[j]? = some x := ⟨_, List.getElem?_eq_getElem (by rw [← by8_len]; exact (List.getElem?_eq_some_iff.1 hj).1)⟩
    rw [by8_get hx] at hj
    obtain rfl := Option.some.inj hj
    obtain ⟨a', ha', hc⟩ := (HA.out.keeps0 HK2.out) j x hx
    obtain rfl := Option.some.inj ha'
    exact hc
  case c2 => exact by8_one _
  case c3 => unfold maxLen; omega
  case c4 => omega
  case c5 => omega
  intro v3 w3 hown3 hgrow3 _
  have hk3 : Keeps [] w w3 := keeps_grow HK2.out HO2.out hgrow3
  rw [← by8_append] at hown3
  obtain ⟨A3, c3, rfl⟩ := own_form hown3
  obtain ⟨g, rfl, hg1, hg2, hg3⟩ := own_at hown3 (by omega)
  have HK3 := Go.Lib.hid hk3
  have HO3 := Go.Lib.hid hown3
  have hsz3 := hk3.size
  clear hk3 hown3 hgrow3 HO2 HX2
  unfold maxLen at hg3
  have hc1 : 1 ≤ c3 := by omega
  have hc1' : 1 < c3 := by omega
  go_wp2_with fail
  have hbl : 4 + f.pay.length = f.body.length := by simp [Frm.body]; omega
  have hby : Byts w3 (some ⟨g, 1, none⟩) f.body := by
    have h1 := (Byts.of_own HO3.out).cut 1
    exact h1
  rw [hbl]
  refine (sumr_ok hby (by rw [← hbl]; omega)).mono ?_
  rintro e w' ⟨rfl, rfl⟩
  rw [w16]
  obtain ⟨n, hn⟩ : ∃ n, n = (Crc.sumB f.body).toNat := ⟨_, rfl⟩
  have hn16 : n < 65536 := by rw [hn]; exact (Crc.sumB f.body).isLt
  rw [← hn]
  have HN := Go.Lib.hid hn
  clear hn hby hbl
  go_wp2_with (at_builtin; refine wpList_append_own _ rfl _ _ 37 rfl w.heap.size 5 i0 (.int .u8 0) 1 1 Tryz.underlying37 HI.out HZ0.out HZ1.out HZ2.out rfl (by decide) _ (5 + f.pay.length) _ rfl (HO3.out.alloc _) ⟨w3.heap.size, 0, none⟩ 2 2 [.int .u8 ((n : Int) / 256), .int .u8 ((n : Int) % 256)] rfl rfl ?c1 ?c2 ?c3 ?c4 ?c5 ?_)
  case c1 =>
    intro j u hj
    rw [Addr.add_lit, Nat.zero_add]
    exact (cell_at (heap_alloc_new _ _) (by rw [List.getElem?_toArray]; exact hj)).1
  case c2 =>
    intro u hu
    simp only [List.mem_cons, List.not_mem_nil, or_false] at hu
    rcases hu with rfl | rfl <;> rfl
  case c3 => unfold maxLen; omega
  case c4 => omega
  case c5 => simp; omega
  intro v4 w4 hown4 hgrow4 _
  have HK4 := Go.Lib.hid (keeps_grow (HK3.out.alloc _) (HO3.out.alloc _) hgrow4)
  have ho4 : w4.ownsRow w.heap.size 5 1 v4 f.enc.length (by8 f.enc) := by
    have e1 : by8 f.enc = by8 (f.head ++ f.pay) ++ [.int .u8 ((n : Int) / 256), .int .u8 ((n : Int) % 256)] := by
      rw [HN.out]
      simp [by8, Frm.enc, Frm.body, Frm.head, Frm.sum, hi8_nat, lo8_nat]
    have e2 : f.enc.length = 5 + f.pay.length + 2 := by rw [Frm.enc_len]; omega
    rw [e1, e2]
    exact hown4
  have HO4 := Go.Lib.hid ho4
  clear hown4 hgrow4 ho4
  go_wp2_with fail
  go_ret
  exact ⟨v4, rfl, HO4.out, HK4.out⟩
end Go.Proofs.YtkhalpnonijogaaGreat
