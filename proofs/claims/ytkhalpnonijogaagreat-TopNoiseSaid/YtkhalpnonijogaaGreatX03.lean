/- The reference's 'Encode' of a command that subscribes, or asks for devices. No condition but the numbers' bounds. -/
import Derived.Test.YtkhalpnonijogaaGreatX02
namespace Go.Proofs.YtkhalpnonijogaaGreat
open Go.RowKit

/-- A subscription. -/
structure Sb where
  c : Nat
  s : Nat
  p : Nat
  l : Nat
structure Sb.Ok (x : Sb) : Prop where
  c : x.c < 8
  s1 : 1 ≤ x.s
  s15 : x.s ≤ 15
  p1 : 1 ≤ x.p
  p1000 : x.p ≤ 1000
  l : x.l ≤ 60000
def Sb.pay (x : Sb) : List (BitVec 8) := [BitVec.ofNat 8 x.c, BitVec.ofNat 8 x.s, BitVec.ofNat 8 (x.p / 256), BitVec.ofNat 8 x.p, BitVec.ofNat 8 (x.l / 16777216), BitVec.ofNat 8 (x.l / 65536), BitVec.ofNat 8 (x.l / 256), BitVec.ofNat 8 x.l]

set_option maxHeartbeats 1600000 in
set_option maxRecDepth 100000 in
theorem encc_sub {x : Sb} (hx : x.Ok) (w : World) :
    Calls Tryz.prog 35 #[.agg #[.int .i64 1, .int .i64 x.c, .int .i64 x.s, .int .i64 x.p, .int .i64 x.l, .int .i64 0, .slice none 0 0, .int .i64 x.c]] w fun e w' => ∃ v, e = .returned v ∧ w'.ownsRow w.heap.size 5 1 v 8 (by8 x.pay) ∧ Keeps [] w w' := by
  obtain ⟨i0, hi, hz0, hz1, hz2⟩ := info5
  have HI := Go.Lib.hid hi
  have HZ0 := Go.Lib.hid hz0
  have HZ1 := Go.Lib.hid hz1
  have HZ2 := Go.Lib.hid hz2
  have h1 := hx.c
  have h2 := hx.s1
  have h3 := hx.s15
  have h4 := hx.p1
  have h5 := hx.p1000
  have h6 := hx.l
  clear hi hz0 hz1 hz2
  go_enter Tryz.func35, Tryz.ntmps35
  have hl1 := World.ownsRow_lit (base := w.heap.size) (e := 5) (size := 1) (w.alloc (.cells #[.int .i64 1, .int .i64 x.c, .int .i64 x.s, .int .i64 x.p, .int .i64 x.l, .int .i64 0, .slice none 0 0, .int .i64 x.c] 59)) #[.int .u8 x.c] 1 (by simp) (by decide) rfl
  rw [World.size_alloc] at hl1
  have HO := Go.Lib.hid ((hl1.alloc (.cells #[.int .i64 x.c, .int .i64 x.s, .int .i64 x.p, .int .i64 x.l] 30)).alloc (.cells #[.int .u8 x.s, .int .u8 ((x.p : Int) / 256), .int .u8 ((x.p : Int) % 256), .int .u8 ((x.l : Int) / 16777216), .int .u8 ((x.l : Int) / 65536), .int .u8 ((x.l : Int) / 256), .int .u8 ((x.l : Int) % 256)] 5))
  have HK0 := Go.Lib.hid ((((Keeps.refl [] w).alloc (.cells #[.int .i64 1, .int .i64 x.c, .int .i64 x.s, .int .i64 x.p, .int .i64 x.l, .int .i64 0, .slice none 0 0, .int .i64 x.c] 59)).alloc (.cells #[.int .u8 x.c] 5)).alloc (.cells #[.int .i64 x.c, .int .i64 x.s, .int .i64 x.p, .int .i64 x.l] 30))
  clear hl1
  go_wp2_with (at_builtin; refine wpList_append_own _ rfl _ _ 37 rfl w.heap.size 5 i0 (.int .u8 0) 1 1 Tryz.underlying37 HI.out HZ0.out HZ1.out HZ2.out rfl (by decide) _ 1 _ rfl HO.out ⟨w.heap.size + 1 + 1 + 1, 0, none⟩ 7 7 [.int .u8 x.s, .int .u8 ((x.p : Int) / 256), .int .u8 ((x.p : Int) % 256), .int .u8 ((x.l : Int) / 16777216), .int .u8 ((x.l : Int) / 65536), .int .u8 ((x.l : Int) / 256), .int .u8 ((x.l : Int) % 256)] rfl rfl ?c1 ?c2 ?c3 ?c4 ?c5 ?_)
  case c2 => exact ⟨rfl, rfl, rfl, rfl, rfl, rfl, rfl⟩
  case c3 => unfold maxLen; omega
  case c5 => omega
  intro v4 w4 hown4 hgrow4 _
  have HK4 := Go.Lib.hid (keeps_grow (HK0.out.alloc _) HO.out hgrow4)
  have ho4 : w4.ownsRow w.heap.size 5 1 v4 8 (by8 x.pay) := by
    have e1 : by8 x.pay = [.int .u8 x.c] ++ [.int .u8 x.s, .int .u8 ((x.p : Int) / 256), .int .u8 ((x.p : Int) % 256), .int .u8 ((x.l : Int) / 16777216), .int .u8 ((x.l : Int) / 65536), .int .u8 ((x.l : Int) / 256), .int .u8 ((x.l : Int) % 256)] := by
      have hc : x.c % 256 = x.c := Nat.mod_eq_of_lt (by omega)
      have hs : x.s % 256 = x.s := Nat.mod_eq_of_lt (by omega)
      have hp : x.p / 256 % 256 = x.p / 256 := Nat.mod_eq_of_lt (by omega)
      have hl1 : x.l / 16777216 % 256 = x.l / 16777216 := Nat.mod_eq_of_lt (by omega)
      have hl2 : x.l / 65536 % 256 = x.l / 65536 := Nat.mod_eq_of_lt (by omega)
      have hl3 : x.l / 256 % 256 = x.l / 256 := Nat.mod_eq_of_lt (by omega)
      simp [by8, Sb.pay, hc, hs, hp, hl1, hl2, hl3]
    rw [e1]
    exact hown4
  have HO4 := Go.Lib.hid ho4
  clear hown4 hgrow4 ho4
  go_wp2_with fail
  go_ret
  exact ⟨v4, rfl, HO4.out, HK4.out⟩

set_option maxHeartbeats 800000 in
set_option maxRecDepth 100000 in
theorem encc_status (w : World) :
    Calls Tryz.prog 35 #[.agg #[.int .i64 6, .int .i64 0, .int .i64 0, .int .i64 0, .int .i64 0, .int .i64 0, .slice none 0 0, .int .i64 0]] w fun e w' => ∃ v, e = .returned v ∧ w'.ownsRow w.heap.size 5 1 v 1 (by8 [0#8]) ∧ Keeps [] w w' := by
  have hl1 := World.ownsRow_lit (base := w.heap.size) (e := 5) (size := 1) (w.alloc (.cells #[.int .i64 6, .int .i64 0, .int .i64 0, .int .i64 0, .int .i64 0, .int .i64 0, .slice none 0 0, .int .i64 0] 59)) #[.int .u8 0] 1 (by simp) (by decide) rfl
  rw [World.size_alloc] at hl1
  have HO := Go.Lib.hid hl1
  clear hl1
  go_enter Tryz.func35, Tryz.ntmps35
  go_wp2_with fail
  go_ret
  exact ⟨_, rfl, HO.out, ((Keeps.refl _ _).alloc _).alloc _⟩
end Go.Proofs.YtkhalpnonijogaaGreat
