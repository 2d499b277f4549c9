/- The ring's methods at elements of one cell (Ptr): each call's contract, over the list that the ring holds. No condition but the ring's own. -/
import Derived.Test.YtldnnkceeeinlaaProg
import Derived.Test.YtldnnkceeeinlaaSel
import Derived.Test.YtldnnkceeeinlaaQTail
import Derived.Test.YtldnnkceeeinlaaRingData
import Derived.WalkKit
import Derived.WalkSpells
import Derived.Lib.Hide
import Derived.Deep.QuietTactic
import Derived.BigQuiet
import Derived.Deep.DeepCutAuto
import Derived.OneCell
namespace Go.Proofs.Ytldnnkceeeinlaa
namespace RPtr
open Go.RowKit

def enc (x : Nat) : List Value := [.pointer (some ⟨x,0,none⟩)]
theorem enc_len (x : Nat) : (enc x).length = 1 := rfl
abbrev Is (w : World) (g h c n : Nat) (l : List Nat) : Prop := RingIs 93 71 1 enc w g h c n l

theorem holds_at {n f : Nat} {arr : Array Value} {l : List Nat} (hd : Holds 1 enc n f arr l) {i : Nat} {x : Nat} (hx : l[i]? = some x) : arr[(f + i) % n]? = some (.pointer (some ⟨x,0,none⟩)) := by
  have := hd.cell i x hx 0 (.pointer (some ⟨x,0,none⟩)) rfl
  simpa using this

theorem set_other {arr : Array Value} {q : Nat} {v : Value} : ∀ p j, j < 1 → p ≠ q → (arr.setIfInBounds q v)[p * 1 + j]? = arr[p * 1 + j]? := by
  intro p j hj hp
  rw [Array.getElem?_setIfInBounds_ne (by omega)]

set_option maxHeartbeats 400000 in
theorem len {g h c n : Nat} {l : List Nat} {w : World} (hr : Is w g h c n l) :
    Calls Try.prog 36 #[.pointer (some ⟨g, 0, none⟩)] w fun e w' => e = .returned (.int .i64 l.length) ∧ w = w' := by
  obtain ⟨⟨f, arr, buf, s, r, hg, hh, hc, hb, hd⟩, hgh, hcap⟩ := hr
  obtain ⟨h0, h1, h2, _⟩ := cells3 hg
  have hl := fun ty => Go.Conc.run_len_chan (P := Try.prog) 91 ty Try.underlying91 hc
  rw [← hb]
  clear hb hd hg hh hc
  go_enter Try.func36, Try.ntmps36
  go_wp2
  go_ret
  exact ⟨rfl, rfl⟩

set_option maxHeartbeats 400000 in
theorem place {g h c n : Nat} {f i : Int} {w : World} (hg : w.heap[g]? = some (.cells #[.slice (some ⟨h, 0, none⟩) n n, .int .i64 f, .chan (some c)] 93 (0, 0)))
    (hf0 : 0 ≤ f) (hf1 : f < 256) (hi0 : 0 ≤ i) (hi1 : i ≤ 256) (hn0 : 0 < n) (hn1 : n ≤ 256) :
    Calls Try.prog 44 #[.pointer (some ⟨g, 0, none⟩), .int .i64 i] w fun e w' => e = .returned (.int .i64 ((f + i) % n)) ∧ ∃ k, w' = w.drewN k := by
  obtain ⟨h0, h1, h2, _⟩ := cells3 hg
  clear hg
  go_enter Try.func44, Try.ntmps44
  go_wp2
  go_quiet (fail)
  go_wp2
  go_ret
  exact ⟨by simp, _, rfl⟩

set_option maxHeartbeats 800000 in
theorem push_room {g h c n : Nat} {x : Nat} {l : List Nat} {w : World} (hr : Is w g h c n l) (hroom : l.length < n) :
    Calls Try.prog 34 #[.pointer (some ⟨g, 0, none⟩), .pointer (some ⟨x,0,none⟩)] w fun e w' => e = .returned (.tuple #[.pointer none, .bool false]) ∧ Is w' g h c n (l ++ [x]) ∧ Keeps [g, h, c] w w' := by
  have hlen := len hr
  obtain ⟨⟨f, arr, buf, s, r, hg, hh, hc, hb, hd⟩, hgh, hcap⟩ := hr
  obtain ⟨h0, h1, h2, _⟩ := cells3 hg
  have hgc : g ≠ c := block_ne hg hc (by simp)
  have hhc : h ≠ c := block_ne hh hc (by simp)
  have hf : f < n := hd.from_lt
  have hbs : buf.size < n := by omega
  have hsz := hd.size
  rw [Nat.mul_one] at hsz
  have hp : (f + l.length) % n < n := Nat.mod_lt _ (by omega)
  obtain ⟨v, hv⟩ : ∃ v, arr[(f + l.length) % n]? = some v := ⟨_, Array.getElem?_eq_getElem (by omega)⟩
  have HS := Go.Lib.hid hsz
  have HB := Go.Lib.hid hb
  have HD := Go.Lib.hid hd
  clear hb hd hsz
  go_enter Try.func34, Try.ntmps34
  go_wp2_with fail
  refine hlen.mono ?_
  rintro e w' ⟨rfl, rfl⟩
  go_upto_region 4 with fail
  refine Sel.wp_send_room (c := c) (cap := n) (buf := buf) (s := s) (r := r) (tm := false) (v := .agg #[]) (z := .agg #[]) rfl rfl (by simp [go_sem, execOp, Go.Conc.scase, Act.eval]) hc hbs ?_
  clear h0 h1 h2
  obtain ⟨W, hW⟩ : ∃ W, W = w.setChan c n (buf.push (.agg #[])) false (s + 1) r false := ⟨_, rfl⟩
  rw [← hW]
  have hg' : W.heap[g]? = some (.cells #[.slice (some ⟨h, 0, none⟩) n n, .int .i64 f, .chan (some c)] 93 (0, 0)) := by rw [hW, heap_setChan_ne _ _ _ _ _ _ _ _ _ hgc]; exact hg
  have hh' : W.heap[h]? = some (.cells arr 71 (0, 0)) := by rw [hW, heap_setChan_ne _ _ _ _ _ _ _ _ _ hhc]; exact hh
  have hc' : W.heap[c]? = some (.chan n (buf.push (.agg #[])) false (s + 1) r false) := by rw [hW]; exact Go.Conc.heap_setChan _ _ _ _ _ _ _ _ (lt_of_block hc)
  have hK : Keeps [g, h, c] w W := by rw [hW]; exact (Keeps.refl _ _).setChan (by simp) _ _ _ _ _ _
  have HC := Go.Lib.hid hc'
  have HK := Go.Lib.hid hK
  have HG := Go.Lib.hid hg'
  have HH := Go.Lib.hid hh'
  obtain ⟨h0, h1, h2, z0, z1, z2⟩ := cells3 hg'
  obtain ⟨hv', hz'⟩ := cell_at hh' hv
  have hpc := fun k => place (h := h) (c := c) (n := n) (f := f) (i := l.length) (w := W.drewN k) hg' (by omega) (by omega) (by omega) (by omega) (by omega) (by omega)
  have e1 : (((f : Int) + l.length) % n) = ((f + l.length) % n : Nat) := by push_cast; rfl
  rw [e1] at hpc
  have HPC := Go.Lib.hid hpc
  clear e1 hW hg hh hc hc' hK hh' hv hg' hpc hlen
  generalize hq : (f + l.length) % n = q at *
  have HQ := Go.Lib.hid hq
  clear hq
  go_wp2_with fail
  refine QTail.wp_region_dtail 9 (by kernel_rfl) (by kernel_rfl) ?_
  simp only [List.take_succ_cons, List.take_zero, List.drop_succ_cons, List.drop_zero]
  repeat (go_big_quiet_step ((refine Calls.quiet_of (HPC.out _))))
  refine wpQuiet_nil ?_
  rintro _ ⟨n1, rfl⟩
  go_wp2
  go_ret2
  refine ⟨rfl, ⟨⟨f, arr.setIfInBounds q (.pointer (some ⟨x,0,none⟩)), buf.push (.agg #[]), s + 1, r, ?_, ?_, ?_, ?_, ?_⟩, hgh, hcap⟩, ?_⟩
  · rw [Below.heap_setCell _ _ _ _ hgh]
    exact HG.out
  · exact heap_setCell_self HH.out
  · rw [Below.heap_setCell _ _ _ _ (Ne.symm hhc)]
    exact HC.out
  · simp [HB.out]
  · refine HD.out.push enc_len hroom (by simp) ?_ ?_
    · rw [HQ.out]
      exact set_other
    · rw [HQ.out]
      intro j u hj
      have hjl := lt_of_get hj
      rw [enc_len] at hjl
      obtain rfl : j = 0 := by omega
      obtain rfl : .pointer (some ⟨x,0,none⟩) = u := by simpa [enc] using hj
      rw [Nat.mul_one, Nat.add_zero]
      exact set1_self (by rw [HS.out]; exact hp)
  · exact (HK.out.drewN _).setCell (by simp) _

set_option maxHeartbeats 800000 in
theorem push_full {g h c n : Nat} {x y : Nat} {l : List Nat} {w : World} (hr : Is w g h c n (y :: l)) (hfull : l.length + 1 = n) :
    Calls Try.prog 34 #[.pointer (some ⟨g, 0, none⟩), .pointer (some ⟨x,0,none⟩)] w fun e w' => e = .returned (.tuple #[.pointer (some ⟨y,0,none⟩), .bool true]) ∧ Is w' g h c n (l ++ [x]) ∧ Keeps [g, h, c] w w' := by
  have hlen := len hr
  obtain ⟨⟨f, arr, buf, s, r, hg, hh, hc, hb, hd⟩, hgh, hcap⟩ := hr
  obtain ⟨h0, h1, h2, z0, z1, z2⟩ := cells3 hg
  have hgc : g ≠ c := block_ne hg hc (by simp)
  have hhc : h ≠ c := block_ne hh hc (by simp)
  have hf : f < n := hd.from_lt
  have hbs : n ≤ buf.size := by rw [hb]; simp; omega
  have hsz := hd.size
  rw [Nat.mul_one] at hsz
  have hv : arr[f]? = some (.pointer (some ⟨y,0,none⟩)) := by
    have := holds_at hd (i := 0) rfl
    rwa [Nat.add_zero, Nat.mod_eq_of_lt hf] at this
  obtain ⟨hv', hz'⟩ := cell_at hh hv
  have HG := Go.Lib.hid hg
  have HH := Go.Lib.hid hh
  have HC := Go.Lib.hid hc
  have HS := Go.Lib.hid hsz
  have HB := Go.Lib.hid hb
  have HD := Go.Lib.hid hd
  have HF := Go.Lib.hid hfull
  have hn0 : 0 < n := by omega
  clear hb hd hsz hg hh hv hfull
  go_enter Try.func34, Try.ntmps34
  go_wp2_with fail
  refine hlen.mono ?_
  rintro e w' ⟨rfl, rfl⟩
  go_upto_region 4 with fail
  refine Sel.wp_send_full (c := c) (cap := n) (buf := buf) (s := s) (r := r) (tm := false) (v := .agg #[]) (z := .agg #[]) rfl rfl (by simp [go_sem, execOp, Go.Conc.scase, Act.eval]) hc hbs ?_
  clear hc hlen
  go_wp2_with fail
  go_quiet (fail)
  go_wp2_with fail
  refine QTail.wp_region_dtail 10 (by kernel_rfl) (by kernel_rfl) ?_
  simp only [List.take_succ_cons, List.take_zero, List.drop_succ_cons, List.drop_zero]
  repeat (go_big_quiet_step (fail))
  refine wpQuiet_nil ?_
  rintro _ ⟨n1, rfl⟩
  go_wp2_with fail
  refine (place (h := h) (c := c) (n := n) (f := f) (i := 1) ?_ (by omega) (by omega) (by omega) (by omega) (by omega) (by omega)).mono ?_
  · rw [Below.heap_setCell _ _ _ _ hgh]; exact HG.out
  rintro e w' ⟨rfl, k, rfl⟩
  go_wp2
  go_ret2
  refine ⟨rfl, ⟨⟨(f + 1) % n, arr.setIfInBounds f (.pointer (some ⟨x,0,none⟩)), buf, s, r, ?_, ?_, ?_, ?_, ?_⟩, hgh, hcap⟩, ?_⟩
  · rw [heap_setCell_self (cs := #[.slice (some ⟨h, 0, none⟩) n n, .int .i64 f, .chan (some c)]) (t := 93) (fr := (0, 0)) (by rw [World.heap_drewN, Below.heap_setCell _ _ _ _ hgh]; exact HG.out)]
    simp
  · rw [Below.heap_setCell _ _ _ _ (Ne.symm hgh), World.heap_drewN]
    exact heap_setCell_self HH.out
  · rw [Below.heap_setCell _ _ _ _ (Ne.symm hgc), World.heap_drewN, Below.heap_setCell _ _ _ _ (Ne.symm hhc)]
    exact HC.out
  · simp [HB.out]
  · refine HD.out.turn enc_len HF.out (by simp) set_other ?_
    intro j u hj
    have hjl := lt_of_get hj
    rw [enc_len] at hjl
    obtain rfl : j = 0 := by omega
    obtain rfl : .pointer (some ⟨x,0,none⟩) = u := by simpa [enc] using hj
    rw [Nat.mul_one, Nat.add_zero]
    exact set1_self (by rw [HS.out]; exact hf)
  · exact ((((Keeps.refl _ _).drewN _).setCell (by simp) _).drewN _).setCell (by simp) _
end RPtr
end Go.Proofs.Ytldnnkceeeinlaa
