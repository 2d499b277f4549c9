/- The ring's methods at elements of two cells (pairs): each call's contract, over the list that the ring holds. No condition but the ring's own. -/
import Derived.Test.YtoncobhjdplamaaProg
import Derived.Test.YtoncobhjdplamaaSel
import Derived.Test.YtoncobhjdplamaaQTail
import Derived.Test.YtoncobhjdplamaaRingData
import Derived.WalkKit
import Derived.WalkSpells
import Derived.Lib.Hide
import Derived.Deep.QuietTactic
import Derived.BigQuiet
import Derived.Deep.DeepCutAuto
import Derived.OneCell
namespace Go.Proofs.Ytoncobhjdplamaa
namespace RPair
open Go.RowKit

/-- A number and a text. -/
structure Pr where
  n : Int
  s : ByteArray
def enc (x : Pr) : List Value := [.int .i64 x.n, .string x.s]
def agg (x : Pr) : Value := .agg #[.int .i64 x.n, .string x.s]
def zero : Value := .agg #[.int .i64 0, .string ⟨#[]⟩]
theorem enc_len (x : Pr) : (enc x).length = 2 := rfl
abbrev Is (w : World) (g h c n : Nat) (l : List Pr) : Prop := RingIs 70 49 2 enc w g h c n l

theorem holds_at {n f : Nat} {arr : Array Value} {l : List Pr} (hd : Holds 2 enc n f arr l) {i : Nat} {x : Pr} (hx : l[i]? = some x) : arr[(f + i) % n * 2]? = some (.int .i64 x.n) ∧ arr[(f + i) % n * 2 + 1]? = some (.string x.s) :=
  ⟨hd.cell i x hx 0 _ rfl, hd.cell i x hx 1 _ rfl⟩

theorem set_other {arr : Array Value} {q : Nat} {u v : Value} : ∀ p j, j < 2 → p ≠ q → ((arr.setIfInBounds (q * 2) u).setIfInBounds (q * 2 + 1) v)[p * 2 + j]? = arr[p * 2 + j]? := by
  intro p j hj hp
  rw [Array.getElem?_setIfInBounds_ne (by omega), Array.getElem?_setIfInBounds_ne (by omega)]

theorem set_here {arr : Array Value} {q n : Nat} {x : Pr} (hs : arr.size = n * 2) (hq : q < n) : ∀ j u, (enc x)[j]? = some u → ((arr.setIfInBounds (q * 2) (.int .i64 x.n)).setIfInBounds (q * 2 + 1) (.string x.s))[q * 2 + j]? = some u := by
  intro j u hj
  have hjl := lt_of_get hj
  rw [enc_len] at hjl
  rcases (show j = 0 ∨ j = 1 by omega) with rfl | rfl
  · obtain rfl : Value.int .i64 x.n = u := by simpa [enc] using hj
    rw [Array.getElem?_setIfInBounds_ne (by omega)]
    exact set1_self (by omega)
  · obtain rfl : Value.string x.s = u := by simpa [enc] using hj
    exact set1_self (by simp; omega)

set_option maxHeartbeats 400000 in
theorem len {g h c n : Nat} {l : List Pr} {w : World} (hr : Is w g h c n l) :
    Calls Try.prog 23 #[.pointer (some ⟨g, 0, none⟩)] w fun e w' => e = .returned (.int .i64 l.length) ∧ w = w' := by
  obtain ⟨⟨f, arr, buf, s, r, hg, hh, hc, hb, hd⟩, hgh, hcap⟩ := hr
  obtain ⟨h0, h1, h2, _⟩ := cells3 hg
  have hl := fun ty => Go.Conc.run_len_chan (P := Try.prog) 61 ty Try.underlying61 hc
  rw [← hb]
  clear hb hd hg hh hc
  go_enter Try.func23, Try.ntmps23
  go_wp2
  go_ret
  exact ⟨rfl, rfl⟩

set_option maxHeartbeats 400000 in
theorem place {g h c n : Nat} {f i : Int} {w : World} (hg : w.heap[g]? = some (.cells #[.slice (some ⟨h, 0, none⟩) n n, .int .i64 f, .chan (some c)] 70 (0, 0)))
    (hf0 : 0 ≤ f) (hf1 : f < 256) (hi0 : 0 ≤ i) (hi1 : i ≤ 256) (hn0 : 0 < n) (hn1 : n ≤ 256) :
    Calls Try.prog 31 #[.pointer (some ⟨g, 0, none⟩), .int .i64 i] w fun e w' => e = .returned (.int .i64 ((f + i) % n)) ∧ ∃ k, w' = w.drewN k := by
  obtain ⟨h0, h1, h2, _⟩ := cells3 hg
  clear hg
  go_enter Try.func31, Try.ntmps31
  go_wp2
  go_quiet (fail)
  go_wp2
  go_ret
  exact ⟨by simp, _, rfl⟩

/-- A box of a pair. -/
def zcells : Array Value := #[.int .i64 0, .string ⟨#[]⟩]
theorem cells2 {w : World} {b : Nat} {c0 c1 : Value} {t : TypeId} (h : w.heap[b]? = some (.cells #[c0, c1] t (0, 0))) : w.cell? ⟨b, 0, none⟩ = some c0 ∧ w.cell? ⟨b, 1, none⟩ = some c1 ∧ w.frozen? ⟨b, 0, none⟩ = false ∧ w.frozen? ⟨b, 1, none⟩ = false := by
  simp [World.cell?, World.frozen?, h]

theorem box2 {w : World} {b : Nat} {a0 a1 u v : Value} {t : TypeId} (h : w.heap[b]? = some (.cells #[a0, a1] t (0, 0))) : ((w.setCell ⟨b, 0, none⟩ u).setCell ⟨b, 1, none⟩ v).heap[b]? = some (.cells #[u, v] t (0, 0)) := by
  rw [heap_setCell_self (heap_setCell_self h)]
  simp

set_option maxHeartbeats 400000 in
theorem pop_none {g h c n : Nat} {w : World} (hr : Is w g h c n []) :
    Calls Try.prog 18 #[.pointer (some ⟨g, 0, none⟩)] w fun e w' => e = .returned (.tuple #[zero, .bool false]) ∧ Keeps [] w w' := by
  go_enter Try.func18, Try.ntmps18
  go_upto_region 1 with fail
  obtain ⟨b2, hb2⟩ : ∃ b2, b2 = w.heap.size := ⟨_, rfl⟩
  obtain ⟨w0, hw0⟩ : ∃ w0, w0 = w.alloc (.cells #[.int .i64 0, .string ⟨#[]⟩] 49) := ⟨_, rfl⟩
  rw [← hw0, ← hb2]
  have hk0 : Keeps [] w w0 := by rw [hw0]; exact (Keeps.refl _ _).alloc _
  have hbx : w0.heap[b2]? = some (.cells #[.int .i64 0, .string ⟨#[]⟩] 49 (0, 0)) := by rw [hw0, hb2]; exact heap_alloc_new _ _
  have hr0 : Is w0 g h c n [] := hr.keeps hk0 (by simp) (by simp) (by simp)
  have HK0 := Go.Lib.hid hk0
  have HBX := Go.Lib.hid hbx
  have hbw : w.heap.size ≤ b2 := by omega
  clear hw0 hb2 hk0 hr
  obtain ⟨⟨f, arr, buf, s, r, hg, hh, hc, hb, hd⟩, hgh, hcap⟩ := hr0
  obtain ⟨h0, h1, h2, _⟩ := cells3 hg
  obtain ⟨x0, x1, y0, y1⟩ := cells2 hbx
  obtain rfl : buf = #[] := by simpa using hb
  clear hb hd hg hh hbx
  go_upto_region 2 with fail
  refine Sel.wp_recv_default (c := c) (cap := n) (s := s) (r := r) (tm := false) (z := .agg #[]) rfl rfl (by simp [go_sem, execOp, Go.Conc.rcase, Act.eval]) hc ?_
  clear hc
  go_wp2
  obtain ⟨z0, z1, _⟩ := cells2 (box2 (u := .int .i64 0) (v := .string ⟨#[]⟩) HBX.out)
  exact bodyPost_ret (v := .tuple #[zero, .bool false]) (by simp [results, Try.f18, go_sem, z0, z1, zero]) rfl ⟨rfl, (HK0.out.setNew (by simp; omega) _).setNew (by simp; omega) _⟩

set_option maxHeartbeats 1600000 in
theorem pop_some {g h c n : Nat} {x : Pr} {l : List Pr} {w : World} (hr : Is w g h c n (x :: l)) :
    Calls Try.prog 18 #[.pointer (some ⟨g, 0, none⟩)] w fun e w' => e = .returned (.tuple #[agg x, .bool true]) ∧ Is w' g h c n l ∧ Keeps [g, h, c] w w' := by
  go_enter Try.func18, Try.ntmps18
  go_upto_region 1 with fail
  obtain ⟨b2, hb2⟩ : ∃ b2, b2 = w.heap.size := ⟨_, rfl⟩
  obtain ⟨w0, hw0⟩ : ∃ w0, w0 = w.alloc (.cells #[.int .i64 0, .string ⟨#[]⟩] 49) := ⟨_, rfl⟩
  rw [← hw0, ← hb2]
  have hk0 : Keeps [] w w0 := by rw [hw0]; exact (Keeps.refl _ _).alloc _
  have hbx : w0.heap[b2]? = some (.cells #[.int .i64 0, .string ⟨#[]⟩] 49 (0, 0)) := by rw [hw0, hb2]; exact heap_alloc_new _ _
  have hr0 : Is w0 g h c n (x :: l) := hr.keeps hk0 (by simp) (by simp) (by simp)
  have hlt := hr.lts
  have hbw : w.heap.size = b2 := by omega
  have HK0 := Go.Lib.hid hk0
  have HBX := Go.Lib.hid hbx
  clear hw0 hb2 hk0 hr
  obtain ⟨⟨f, arr, buf, s, r, hg, hh, hc, hb, hd⟩, hgh, hcap⟩ := hr0
  obtain ⟨h0, h1, h2, _⟩ := cells3 hg
  have hgc : g ≠ c := block_ne hg hc (by simp)
  have hhc : h ≠ c := block_ne hh hc (by simp)
  have hb2g : b2 ≠ g ∧ b2 ≠ h ∧ b2 ≠ c := by omega
  have hf : f < n := hd.from_lt
  obtain ⟨hv0, hv1⟩ : arr[f * 2]? = some (.int .i64 x.n) ∧ arr[f * 2 + 1]? = some (.string x.s) := by
    have := holds_at hd (i := 0) (x := x) rfl
    rwa [Nat.add_zero, Nat.mod_eq_of_lt hf] at this
  have hbs : 0 < buf.size := by rw [hb]; simp
  have HB := Go.Lib.hid hb
  have HD := Go.Lib.hid hd
  clear hb hd hbx
  go_upto_region 2 with fail
  refine Sel.wp_recv_ready (c := c) (cap := n) (buf := buf) (closed := false) (s := s) (r := r) (tm := false) (z := .agg #[]) rfl rfl (by simp [go_sem, execOp, Go.Conc.rcase, Act.eval]) hc hbs ?_
  go_upto_region 4 with fail
  obtain ⟨W0, hW0⟩ : ∃ W0, W0 = w0.setChan c n (buf.extract 1 buf.size) false s (r + 1) false := ⟨_, rfl⟩
  obtain ⟨W, hW⟩ : ∃ W, W = W0.alloc (.cells #[.int .i64 0, .string ⟨#[]⟩] 49) := ⟨_, rfl⟩
  obtain ⟨b4, hb4⟩ : ∃ b4, b4 = W0.heap.size := ⟨_, rfl⟩
  rw [← hW0, ← hW, ← hb4]
  have hsz : W0.heap.size = w0.heap.size := by rw [hW0]; exact Go.Conc.size_setChan _ _ _ _ _ _ _ _
  have hlw := (show Keeps [] w w0 from HK0.out).size
  have hb2w : b2 < W0.heap.size := by rw [hsz]; exact lt_of_block HBX.out
  have hgw : g < W0.heap.size := by omega
  have hhw : h < W0.heap.size := by omega
  have hcw : c < W0.heap.size := by omega
  have hg' : W.heap[g]? = some (.cells #[.slice (some ⟨h, 0, none⟩) n n, .int .i64 f, .chan (some c)] 70 (0, 0)) := by rw [hW, Below.heap_alloc _ _ _ hgw, hW0, heap_setChan_ne _ _ _ _ _ _ _ _ _ hgc]; exact hg
  have hh' : W.heap[h]? = some (.cells arr 49 (0, 0)) := by rw [hW, Below.heap_alloc _ _ _ hhw, hW0, heap_setChan_ne _ _ _ _ _ _ _ _ _ hhc]; exact hh
  have hc' : W.heap[c]? = some (.chan n (buf.extract 1 buf.size) false s (r + 1) false) := by rw [hW, Below.heap_alloc _ _ _ hcw, hW0]; exact Go.Conc.heap_setChan _ _ _ _ _ _ _ _ (lt_of_block hc)
  have hx2 : W.heap[b2]? = some (.cells #[.int .i64 0, .string ⟨#[]⟩] 49 (0, 0)) := by rw [hW, Below.heap_alloc _ _ _ hb2w, hW0, heap_setChan_ne _ _ _ _ _ _ _ _ _ hb2g.2.2]; exact HBX.out
  have hx4 : W.heap[b4]? = some (.cells #[.int .i64 0, .string ⟨#[]⟩] 49 (0, 0)) := by rw [hW, hb4]; exact heap_alloc_new _ _
  have hK : Keeps [g, h, c] w W := by rw [hW, hW0]; exact (((show Keeps [] w w0 from HK0.out).mono (by simp)).setChan (by simp) _ _ _ _ _ _).alloc _
  have hb24 : b2 ≠ b4 ∧ b4 ≠ g ∧ b4 ≠ h ∧ b4 ≠ c := by omega
  have HC := Go.Lib.hid hc'
  have HK := Go.Lib.hid hK
  have HG := Go.Lib.hid hg'
  have HH := Go.Lib.hid hh'
  have HX2 := Go.Lib.hid hx2
  obtain ⟨hb2g, hb2h, hb2c⟩ := hb2g
  obtain ⟨hb24, hb4g, hb4h, hb4c⟩ := hb24
  clear h0 h1 h2
  obtain ⟨h0, h1, h2, z0, z1, z2⟩ := cells3 hg'
  obtain ⟨x0, x1, y0, y1⟩ := cells2 hx2
  obtain ⟨u0, u1, _, _⟩ := cells2 hx4
  obtain ⟨hv', hz'⟩ := cell_at hh' hv0
  obtain ⟨hv1', hz1'⟩ := cell_at hh' hv1
  clear hW hW0 hg hh hc hc' hK hh' hv0 hv1 hg' hx2 hx4 hb4 hlw hb2w hgw hhw hcw hsz
  refine QTail.wp_region_dtail 10 (by kernel_rfl) (by kernel_rfl) ?_
  simp only [List.take_succ_cons, List.take_zero, List.drop_succ_cons, List.drop_zero]
  repeat (go_big_quiet_step (fail))
  refine wpQuiet_nil ?_
  rintro _ ⟨n1, rfl⟩
  go_wp2_with fail
  refine QTail.wp_region_dtail 10 (by kernel_rfl) (by kernel_rfl) ?_
  simp only [List.take_succ_cons, List.take_zero, List.drop_succ_cons, List.drop_zero]
  repeat (go_big_quiet_step (fail))
  refine wpQuiet_nil ?_
  rintro _ ⟨n2, rfl⟩
  go_wp2_with fail
  refine (place (h := h) (c := c) (n := n) (f := f) (i := 1) ?_ (by omega) (by omega) (by omega) (by omega) (by omega) (by omega)).mono ?_
  · rw [Below.heap_setCell _ _ _ _ hgh, Below.heap_setCell _ _ _ _ hgh, World.heap_drewN, Below.heap_setCell _ _ _ _ hb2g.symm, Below.heap_setCell _ _ _ _ hb2g.symm]; exact HG.out
  rintro e w' ⟨rfl, k, rfl⟩
  go_wp2
  refine bodyPost_ret (v := .tuple #[agg x, .bool true]) (by
    obtain ⟨z0, z1, _⟩ := cells2 (box2 (w := (((((W.drewN n1).setCell ⟨b2, 0, none⟩ (.int .i64 x.n)).setCell ⟨b2, 1, none⟩ (.string x.s)).drewN n2).setCell ⟨h, f * 2, none⟩ (.int .i64 0)).setCell ⟨h, f * 2 + 1, none⟩ (.string ⟨#[]⟩) |>.drewN k |>.setCell ⟨g, 1, none⟩ (.int .i64 ((f + 1) % n))) (b := b2) (u := .int .i64 x.n) (v := .string x.s) (by
      rw [Below.heap_setCell _ _ _ _ hb2g, World.heap_drewN, Below.heap_setCell _ _ _ _ hb2h, Below.heap_setCell _ _ _ _ hb2h, World.heap_drewN]
      exact box2 HX2.out))
    simp [results, Try.f18, go_sem, z0, z1, agg]) rfl ⟨rfl, ⟨⟨(f + 1) % n, (arr.setIfInBounds (f * 2) (.int .i64 0)).setIfInBounds (f * 2 + 1) (.string ⟨#[]⟩), buf.extract 1 buf.size, s, r + 1, ?_, ?_, ?_, ?_, ?_⟩, hgh, hcap⟩, ?_⟩
  · rw [Below.heap_setCell _ _ _ _ hb2g.symm, Below.heap_setCell _ _ _ _ hb2g.symm, heap_setCell_self (cs := #[.slice (some ⟨h, 0, none⟩) n n, .int .i64 f, .chan (some c)]) (t := 70) (fr := (0, 0)) (by
      rw [World.heap_drewN, Below.heap_setCell _ _ _ _ hgh, Below.heap_setCell _ _ _ _ hgh, World.heap_drewN, Below.heap_setCell _ _ _ _ hb2g.symm, Below.heap_setCell _ _ _ _ hb2g.symm]; exact HG.out)]
    simp
  · rw [Below.heap_setCell _ _ _ _ hb2h.symm, Below.heap_setCell _ _ _ _ hb2h.symm, Below.heap_setCell _ _ _ _ (Ne.symm hgh), World.heap_drewN]
    refine heap_setCell_self (heap_setCell_self ?_)
    rw [World.heap_drewN, Below.heap_setCell _ _ _ _ hb2h.symm, Below.heap_setCell _ _ _ _ hb2h.symm]
    exact HH.out
  · rw [Below.heap_setCell _ _ _ _ hb2c.symm, Below.heap_setCell _ _ _ _ hb2c.symm, Below.heap_setCell _ _ _ _ (Ne.symm hgc), World.heap_drewN, Below.heap_setCell _ _ _ _ (Ne.symm hhc), Below.heap_setCell _ _ _ _ (Ne.symm hhc), World.heap_drewN, Below.heap_setCell _ _ _ _ hb2c.symm, Below.heap_setCell _ _ _ _ hb2c.symm]
    exact HC.out
  · have := HB.out
    simp only [List.length_cons] at this
    simp
    omega
  · exact HD.out.pop enc_len (by simp) set_other
  · exact (((((((((HK.out.drewN _).setNew (by simp; omega) _).setNew (by simp; omega) _).drewN _).setCell (by simp) _).setCell (by simp) _).drewN _).setCell (by simp) _).setNew (by simp; omega) _).setNew (by simp; omega) _

theorem alloc2 (w : World) (o1 o2 : Obj) : ((w.alloc o1).alloc o2).heap[w.heap.size]? = some o1 ∧ ((w.alloc o1).alloc o2).heap[w.heap.size + 1]? = some o2 := by
  refine ⟨?_, ?_⟩
  · rw [Below.heap_alloc _ _ _ (by simp)]
    exact heap_alloc_new w o1
  · have := heap_alloc_new (w.alloc o1) o2
    rwa [World.size_alloc] at this

set_option maxHeartbeats 1600000 in
theorem push_room {g h c n : Nat} {x : Pr} {l : List Pr} {w : World} (hr : Is w g h c n l) (hroom : l.length < n) :
    Calls Try.prog 22 #[.pointer (some ⟨g, 0, none⟩), agg x] w fun e w' => e = .returned (.tuple #[zero, .bool false]) ∧ Is w' g h c n (l ++ [x]) ∧ Keeps [g, h, c] w w' := by
  unfold agg
  go_enter Try.func22, Try.ntmps22
  go_upto_region 1 with fail
  obtain ⟨b3, hb3⟩ : ∃ b3, b3 = w.heap.size := ⟨_, rfl⟩
  obtain ⟨w0, hw0⟩ : ∃ w0, w0 = (w.alloc (.cells #[.int .i64 x.n, .string x.s] 49)).alloc (.cells #[.int .i64 0, .string ⟨#[]⟩] 49) := ⟨_, rfl⟩
  try simp only [World.size_alloc]
  rw [← hw0, ← hb3]
  have hk0 : Keeps [] w w0 := by rw [hw0]; exact ((Keeps.refl _ _).alloc _).alloc _
  obtain ⟨hx3, hx4⟩ := alloc2 w (.cells #[.int .i64 x.n, .string x.s] 49) (.cells #[.int .i64 0, .string ⟨#[]⟩] 49)
  rw [← hw0, ← hb3] at hx3 hx4
  obtain ⟨b4, hb4⟩ : ∃ b4, b4 = b3 + 1 := ⟨_, rfl⟩
  rw [← hb4] at hx4 ⊢
  have hr0 : Is w0 g h c n l := hr.keeps hk0 (by simp) (by simp) (by simp)
  have hlt := hr.lts
  have hlen := Go.Lib.hid (len hr0)
  have HK0 := Go.Lib.hid hk0
  have hne : b3 ≠ g ∧ b3 ≠ h ∧ b3 ≠ c ∧ b4 ≠ g ∧ b4 ≠ h ∧ b4 ≠ c ∧ b3 ≠ b4 := by omega
  have hw3 : w.heap.size ≤ b3 := by omega
  have hw4 : w.heap.size ≤ b4 := by omega
  clear hw0 hb3 hb4 hk0 hr
  obtain ⟨⟨f, arr, buf, s, r, hg, hh, hc, hb, hd⟩, hgh, hcap⟩ := hr0
  obtain ⟨h0, h1, h2, _⟩ := cells3 hg
  have hgc : g ≠ c := block_ne hg hc (by simp)
  have hhc : h ≠ c := block_ne hh hc (by simp)
  have hf : f < n := hd.from_lt
  have hbs : buf.size < n := by omega
  have hsz := hd.size
  have hp : (f + l.length) % n < n := Nat.mod_lt _ (by omega)
  obtain ⟨v0, hv0⟩ : ∃ v, arr[(f + l.length) % n * 2]? = some v := ⟨_, Array.getElem?_eq_getElem (by omega)⟩
  obtain ⟨v1, hv1⟩ : ∃ v, arr[(f + l.length) % n * 2 + 1]? = some v := ⟨_, Array.getElem?_eq_getElem (by omega)⟩
  have HS := Go.Lib.hid hsz
  have HB := Go.Lib.hid hb
  have HD := Go.Lib.hid hd
  have HNE := Go.Lib.hid hne
  clear hb hd hsz hlt
  go_wp2_with fail
  refine hlen.out.mono ?_
  rintro e w' ⟨rfl, rfl⟩
  go_upto_region 4 with fail
  refine Sel.wp_send_room (c := c) (cap := n) (buf := buf) (s := s) (r := r) (tm := false) (v := .agg #[]) (z := .agg #[]) rfl rfl (by simp [go_sem, execOp, Go.Conc.scase, Act.eval]) hc hbs ?_
  clear h0 h1 h2
  obtain ⟨W, hW⟩ : ∃ W, W = w0.setChan c n (buf.push (.agg #[])) false (s + 1) r false := ⟨_, rfl⟩
  rw [← hW]
  obtain ⟨hb3g, hb3h, hb3c, hb4g, hb4h, hb4c, hb34⟩ := hne
  have hg' : W.heap[g]? = some (.cells #[.slice (some ⟨h, 0, none⟩) n n, .int .i64 f, .chan (some c)] 70 (0, 0)) := by rw [hW, heap_setChan_ne _ _ _ _ _ _ _ _ _ hgc]; exact hg
  have hh' : W.heap[h]? = some (.cells arr 49 (0, 0)) := by rw [hW, heap_setChan_ne _ _ _ _ _ _ _ _ _ hhc]; exact hh
  have hc' : W.heap[c]? = some (.chan n (buf.push (.agg #[])) false (s + 1) r false) := by rw [hW]; exact Go.Conc.heap_setChan _ _ _ _ _ _ _ _ (lt_of_block hc)
  have hx3' : W.heap[b3]? = some (.cells #[.int .i64 x.n, .string x.s] 49 (0, 0)) := by rw [hW, heap_setChan_ne _ _ _ _ _ _ _ _ _ hb3c]; exact hx3
  have hx4' : W.heap[b4]? = some (.cells #[.int .i64 0, .string ⟨#[]⟩] 49 (0, 0)) := by rw [hW, heap_setChan_ne _ _ _ _ _ _ _ _ _ hb4c]; exact hx4
  have hK : Keeps [g, h, c] w W := by rw [hW]; exact ((show Keeps [] w w0 from HK0.out).mono (by simp)).setChan (by simp) _ _ _ _ _ _
  have HC := Go.Lib.hid hc'
  have HK := Go.Lib.hid hK
  have HG := Go.Lib.hid hg'
  have HH := Go.Lib.hid hh'
  have HX4 := Go.Lib.hid hx4'
  obtain ⟨h0, h1, h2, z0, z1, z2⟩ := cells3 hg'
  obtain ⟨p0, p1, _, _⟩ := cells2 hx3'
  obtain ⟨q0, q1, q2, q3⟩ := cells2 hx4'
  obtain ⟨hv0', hz0'⟩ := cell_at hh' hv0
  obtain ⟨hv1', hz1'⟩ := cell_at hh' hv1
  have hpc := fun k => place (h := h) (c := c) (n := n) (f := f) (i := l.length) (w := W.drewN k) hg' (by omega) (by omega) (by omega) (by omega) (by omega) (by omega)
  have e1 : (((f : Int) + l.length) % n) = ((f + l.length) % n : Nat) := by push_cast; rfl
  rw [e1] at hpc
  have HPC := Go.Lib.hid hpc
  clear e1 hW hg hh hc hc' hK hh' hv0 hv1 hg' hpc hlen hx3 hx4 hx3' hx4'
  generalize hq : (f + l.length) % n = q at *
  have HQ := Go.Lib.hid hq
  clear hq
  go_wp2_with fail
  refine QTail.wp_region_dtail 9 (by kernel_rfl) (by kernel_rfl) ?_
  simp only [List.take_succ_cons, List.take_zero, List.drop_succ_cons, List.drop_zero]
  repeat (go_big_quiet_step ((refine Calls.quiet_of (HPC.out _))))
  refine wpQuiet_nil ?_
  rintro _ ⟨n1, rfl⟩
  go_wp2
  refine bodyPost_ret (v := .tuple #[zero, .bool false]) (by
    obtain ⟨z0, z1, _⟩ := cells2 (box2 (w := (((W.drewN n1).setCell ⟨h, q * 2, none⟩ (.int .i64 x.n)).setCell ⟨h, q * 2 + 1, none⟩ (.string x.s))) (b := b4) (u := .int .i64 0) (v := .string ⟨#[]⟩) (by
      rw [Below.heap_setCell _ _ _ _ hb4h, Below.heap_setCell _ _ _ _ hb4h]
      exact HX4.out))
    simp [results, Try.f22, go_sem, z0, z1, zero]) rfl ⟨rfl, ⟨⟨f, (arr.setIfInBounds (q * 2) (.int .i64 x.n)).setIfInBounds (q * 2 + 1) (.string x.s), buf.push (.agg #[]), s + 1, r, ?_, ?_, ?_, ?_, ?_⟩, hgh, hcap⟩, ?_⟩
  · rw [Below.heap_setCell _ _ _ _ hb4g.symm, Below.heap_setCell _ _ _ _ hb4g.symm, Below.heap_setCell _ _ _ _ hgh, Below.heap_setCell _ _ _ _ hgh]
    exact HG.out
  · rw [Below.heap_setCell _ _ _ _ hb4h.symm, Below.heap_setCell _ _ _ _ hb4h.symm]
    exact heap_setCell_self (heap_setCell_self HH.out)
  · rw [Below.heap_setCell _ _ _ _ hb4c.symm, Below.heap_setCell _ _ _ _ hb4c.symm, Below.heap_setCell _ _ _ _ (Ne.symm hhc), Below.heap_setCell _ _ _ _ (Ne.symm hhc)]
    exact HC.out
  · simp [HB.out]
  · refine HD.out.push enc_len hroom (by simp) ?_ ?_
    · rw [HQ.out]
      exact set_other
    · rw [HQ.out]
      exact set_here HS.out hp
  · exact (((((HK.out.drewN _).setCell (by simp) _).setCell (by simp) _).setNew hw4 _).setNew hw4 _)

set_option maxHeartbeats 1600000 in
theorem push_full {g h c n : Nat} {x y : Pr} {l : List Pr} {w : World} (hr : Is w g h c n (y :: l)) (hfull : l.length + 1 = n) :
    Calls Try.prog 22 #[.pointer (some ⟨g, 0, none⟩), agg x] w fun e w' => e = .returned (.tuple #[agg y, .bool true]) ∧ Is w' g h c n (l ++ [x]) ∧ Keeps [g, h, c] w w' := by
  unfold agg
  go_enter Try.func22, Try.ntmps22
  go_upto_region 1 with fail
  obtain ⟨b3, hb3⟩ : ∃ b3, b3 = w.heap.size := ⟨_, rfl⟩
  obtain ⟨w0, hw0⟩ : ∃ w0, w0 = (w.alloc (.cells #[.int .i64 x.n, .string x.s] 49)).alloc (.cells #[.int .i64 0, .string ⟨#[]⟩] 49) := ⟨_, rfl⟩
  try simp only [World.size_alloc]
  rw [← hw0, ← hb3]
  have hk0 : Keeps [] w w0 := by rw [hw0]; exact ((Keeps.refl _ _).alloc _).alloc _
  obtain ⟨hx3, hx4⟩ := alloc2 w (.cells #[.int .i64 x.n, .string x.s] 49) (.cells #[.int .i64 0, .string ⟨#[]⟩] 49)
  rw [← hw0, ← hb3] at hx3 hx4
  obtain ⟨b4, hb4⟩ : ∃ b4, b4 = b3 + 1 := ⟨_, rfl⟩
  rw [← hb4] at hx4 ⊢
  have hr0 : Is w0 g h c n (y :: l) := hr.keeps hk0 (by simp) (by simp) (by simp)
  have hlt := hr.lts
  have hlen := Go.Lib.hid (len hr0)
  have HK0 := Go.Lib.hid hk0
  have hne : b3 ≠ g ∧ b3 ≠ h ∧ b3 ≠ c ∧ b4 ≠ g ∧ b4 ≠ h ∧ b4 ≠ c ∧ b3 ≠ b4 := by omega
  have hw3 : w.heap.size ≤ b3 := by omega
  have hw4 : w.heap.size ≤ b4 := by omega
  clear hw0 hb3 hb4 hk0 hr
  obtain ⟨⟨f, arr, buf, s, r, hg, hh, hc, hb, hd⟩, hgh, hcap⟩ := hr0
  obtain ⟨h0, h1, h2, z0, z1, z2⟩ := cells3 hg
  have hgc : g ≠ c := block_ne hg hc (by simp)
  have hhc : h ≠ c := block_ne hh hc (by simp)
  have hf : f < n := hd.from_lt
  have hbs : n ≤ buf.size := by rw [hb]; simp; omega
  have hsz := hd.size
  obtain ⟨hv0, hv1⟩ : arr[f * 2]? = some (.int .i64 y.n) ∧ arr[f * 2 + 1]? = some (.string y.s) := by
    have := holds_at hd (i := 0) (x := y) rfl
    rwa [Nat.add_zero, Nat.mod_eq_of_lt hf] at this
  obtain ⟨p0, p1, _, _⟩ := cells2 hx3
  obtain ⟨q0, q1, q2, q3⟩ := cells2 hx4
  obtain ⟨hv0', hz0'⟩ := cell_at hh hv0
  obtain ⟨hv1', hz1'⟩ := cell_at hh hv1
  have HG := Go.Lib.hid hg
  have HH := Go.Lib.hid hh
  have HC := Go.Lib.hid hc
  have HX4 := Go.Lib.hid hx4
  have HS := Go.Lib.hid hsz
  have HB := Go.Lib.hid hb
  have HD := Go.Lib.hid hd
  have HF := Go.Lib.hid hfull
  have hn0 : 0 < n := by omega
  obtain ⟨hb3g, hb3h, hb3c, hb4g, hb4h, hb4c, hb34⟩ := hne
  clear hb hd hsz hg hh hv0 hv1 hfull hx3 hx4
  go_wp2_with fail
  refine hlen.out.mono ?_
  rintro e w' ⟨rfl, rfl⟩
  go_upto_region 4 with fail
  refine Sel.wp_send_full (c := c) (cap := n) (buf := buf) (s := s) (r := r) (tm := false) (v := .agg #[]) (z := .agg #[]) rfl rfl (by simp [go_sem, execOp, Go.Conc.scase, Act.eval]) hc hbs ?_
  clear hc hlen
  go_wp2_with fail
  refine QTail.wp_region_dtail 10 (by kernel_rfl) (by kernel_rfl) ?_
  simp only [List.take_succ_cons, List.take_zero, List.drop_succ_cons, List.drop_zero]
  repeat (go_big_quiet_step (fail))
  refine wpQuiet_nil ?_
  rintro _ ⟨n1, rfl⟩
  go_wp2_with fail
  refine QTail.wp_region_dtail 10 (by kernel_rfl) (by kernel_rfl) ?_
  simp only [List.take_succ_cons, List.take_zero, List.drop_succ_cons, List.drop_zero]
  repeat (go_big_quiet_step (fail))
  refine wpQuiet_nil ?_
  rintro _ ⟨n2, rfl⟩
  go_wp2_with fail
  refine (place (h := h) (c := c) (n := n) (f := f) (i := 1) ?_ (by omega) (by omega) (by omega) (by omega) (by omega) (by omega)).mono ?_
  · rw [Below.heap_setCell _ _ _ _ hgh, Below.heap_setCell _ _ _ _ hgh, World.heap_drewN, Below.heap_setCell _ _ _ _ hb4g.symm, Below.heap_setCell _ _ _ _ hb4g.symm]; exact HG.out
  rintro e w' ⟨rfl, k, rfl⟩
  go_wp2
  refine bodyPost_ret (v := .tuple #[agg y, .bool true]) (by
    obtain ⟨z0, z1, _⟩ := cells2 (box2 (w := (((((w0.drewN n1).setCell ⟨b4, 0, none⟩ (.int .i64 y.n)).setCell ⟨b4, 1, none⟩ (.string y.s)).drewN n2).setCell ⟨h, f * 2, none⟩ (.int .i64 x.n)).setCell ⟨h, f * 2 + 1, none⟩ (.string x.s) |>.drewN k |>.setCell ⟨g, 1, none⟩ (.int .i64 ((f + 1) % n))) (b := b4) (u := .int .i64 y.n) (v := .string y.s) (by
      rw [Below.heap_setCell _ _ _ _ hb4g, World.heap_drewN, Below.heap_setCell _ _ _ _ hb4h, Below.heap_setCell _ _ _ _ hb4h, World.heap_drewN]
      exact box2 HX4.out))
    simp [results, Try.f22, go_sem, z0, z1, agg]) rfl ⟨rfl, ⟨⟨(f + 1) % n, (arr.setIfInBounds (f * 2) (.int .i64 x.n)).setIfInBounds (f * 2 + 1) (.string x.s), buf, s, r, ?_, ?_, ?_, ?_, ?_⟩, hgh, hcap⟩, ?_⟩
  · rw [Below.heap_setCell _ _ _ _ hb4g.symm, Below.heap_setCell _ _ _ _ hb4g.symm, heap_setCell_self (cs := #[.slice (some ⟨h, 0, none⟩) n n, .int .i64 f, .chan (some c)]) (t := 70) (fr := (0, 0)) (by
      rw [World.heap_drewN, Below.heap_setCell _ _ _ _ hgh, Below.heap_setCell _ _ _ _ hgh, World.heap_drewN, Below.heap_setCell _ _ _ _ hb4g.symm, Below.heap_setCell _ _ _ _ hb4g.symm]; exact HG.out)]
    simp
  · rw [Below.heap_setCell _ _ _ _ hb4h.symm, Below.heap_setCell _ _ _ _ hb4h.symm, Below.heap_setCell _ _ _ _ (Ne.symm hgh), World.heap_drewN]
    refine heap_setCell_self (heap_setCell_self ?_)
    rw [World.heap_drewN, Below.heap_setCell _ _ _ _ hb4h.symm, Below.heap_setCell _ _ _ _ hb4h.symm]
    exact HH.out
  · rw [Below.heap_setCell _ _ _ _ hb4c.symm, Below.heap_setCell _ _ _ _ hb4c.symm, Below.heap_setCell _ _ _ _ (Ne.symm hgc), World.heap_drewN, Below.heap_setCell _ _ _ _ (Ne.symm hhc), Below.heap_setCell _ _ _ _ (Ne.symm hhc), World.heap_drewN, Below.heap_setCell _ _ _ _ hb4c.symm, Below.heap_setCell _ _ _ _ hb4c.symm]
    exact HC.out
  · simp [HB.out]
  · exact HD.out.turn enc_len HF.out (by simp) set_other (set_here HS.out hf)
  · exact ((((((((((((show Keeps [] w w0 from HK0.out).mono (by simp)).drewN _).setNew hw4 _).setNew hw4 _).drewN _).setCell (by simp) _).setCell (by simp) _).drewN _).setCell (by simp) _).setNew hw4 _).setNew hw4 _)
end RPair
end Go.Proofs.Ytoncobhjdplamaa
