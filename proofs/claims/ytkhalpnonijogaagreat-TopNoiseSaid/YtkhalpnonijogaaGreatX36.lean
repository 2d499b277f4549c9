/- flash's raw, Erase, Write, Image; a flash of which the power holds. No condition but the flash's. | flash's Write of the first head; the words read. No condition but the flash's. | store.words of a flash. No condition but the flash's. | store.Open of a blank flash. No condition but the flash's. -/
import Derived.Test.YtkhalpnonijogaaGreatX35
import Derived.Deep.RegionHeld3
namespace Go.Proofs.YtkhalpnonijogaaGreat
open Go.RowKit

theorem flash_on {f g : Nat} {cnt : Int} {first : Value} {w : World} (h : FlashIs w f g cnt first) : Calls Tryz.prog 28 #[.pointer (some ⟨f, 0, none⟩)] w fun e w' => e = .returned (.bool true) ∧ w' = w := on_ok h.top
set_option maxHeartbeats 1600000 in
set_option maxRecDepth 100000 in
theorem raw_ok {f g : Nat} {cnt : Int} {first : Value} {w : World} (h : FlashIs w f g cnt first) (h0 : 0 ≤ cnt) (h1 : cnt ≤ 1000) :
    Calls Tryz.prog 127 #[.pointer (some ⟨f, 0, none⟩)] w fun e w' => e = .returned (.bool true) ∧ FlashIs w' f g (cnt + 1) first ∧ Keeps [f] w w' := by
  obtain ⟨p0, p1, p2, f0, f1, f2⟩ := cells3 h.top
  have HO := Go.Lib.hid (flash_on h)
  have HH := Go.Lib.hid h
  have HE : Hid (FlashIs (w.setCell ⟨f, 1, none⟩ (.int .i64 (cnt + 1))) f g (cnt + 1) first ∧ Keeps [f] w (w.setCell ⟨f, 1, none⟩ (.int .i64 (cnt + 1)))) := Go.Lib.hid (by
    have hk : Keeps [f] w (w.setCell ⟨f, 1, none⟩ (.int .i64 (cnt + 1))) := (Keeps.refl _ _).setCell (by simp) _
    obtain ⟨cur, c1, c2, c3, c4⟩ := h.row
    exact ⟨⟨(heap_setCell_self h.top).trans (by rfl), cur, hk.heap c1 (by rw [List.mem_singleton]; exact block_ne c1 h.top (by simp)), c2, c3, c4⟩, hk⟩)
  clear h
  go_enter Tryz.func127, Tryz.ntmps127
  go_wp2_with fail
  refine HO.out.mono ?_
  rintro e w' ⟨rfl, hw'⟩
  rw [hw']
  clear hw' HO
  go_wp2_with fail
  go_ret
  exact ⟨rfl, HE.out⟩
set_option maxHeartbeats 1600000 in
set_option maxRecDepth 100000 in
theorem page_ok {g : Nat} (w : World) : Calls Tryz.prog 128 #[.slice (some ⟨g, 0, none⟩) 512 512, .int .i64 0] w fun e w' => e = .returned (.slice (some ⟨g, 0, none⟩) 256 512) ∧ w' = w := by
  go_enter Tryz.func128, Tryz.ntmps128
  go_wp2_with fail
  go_ret
  exact ⟨rfl, rfl⟩
set_option maxHeartbeats 1600000 in
set_option maxRecDepth 100000 in
/-- Page 0 is erased: the words are blank. -/
theorem ferase_ok {f g : Nat} {cnt : Int} {w : World} (h : FlashIs w f g cnt ffs) (h0 : 0 ≤ cnt) (h1 : cnt ≤ 1000) :
    Calls Tryz.prog 75 #[.pointer (some ⟨f, 0, none⟩), .int .i64 0] w fun e w' => e = .returned (.int .i64 0) ∧ FlashIs w' f g (cnt + 1) ffs ∧ Keeps [f, g] w w' := by
  have HR := Go.Lib.hid (raw_ok h h0 h1)
  clear h
  go_enter Tryz.func75, Tryz.ntmps75
  go_wp2_with fail
  refine HR.out.mono ?_
  rintro e w1 ⟨rfl, hf1, hk1⟩
  obtain ⟨p0, p1, p2, _⟩ := cells3 hf1.top
  obtain ⟨cur, c1, c2, c3, c4⟩ := hf1.row
  have HE := Go.Lib.hid (erase_ok c1 (o := 0) (n := 256) (c := 512) (by omega) (by omega) (by omega))
  have HC := Go.Lib.hid (And.intro c1 (And.intro c2 (And.intro c3 c4)))
  have HF1 := Go.Lib.hid hf1.top
  have HK1 := Go.Lib.hid hk1
  clear HR hf1 hk1 c1 c2 c3 c4
  go_wp2_with fail
  refine (page_ok _).mono ?_
  rintro e w' ⟨rfl, hw'⟩
  rw [hw']
  clear hw'
  go_wp2_with fail
  refine HE.out.mono ?_
  rintro e w2 ⟨⟨v, rfl⟩, ⟨cur', d1, d2⟩, hk2⟩
  have HX : Hid (FlashIs w2 f g (cnt + 1) ffs ∧ Keeps [f, g] w w2) := Go.Lib.hid (by
    obtain ⟨c1, c2, c3, c4⟩ := HC.out
    refine ⟨⟨hk2.heap HF1.out (by rw [List.mem_singleton]; exact block_ne HF1.out c1 (by simp)), cur', d1, by rw [d2.size, c2], ?_, fun j h1 h2 => ?_⟩, (HK1.out.mono (by simp)).trans (hk2.mono (by simp))⟩
    · rw [d2.get 0 (by omega)]; rfl
    · rw [d2.get j (by omega)]
      split
      · rfl
      · exact c4 j h1 h2)
  clear HE d1 d2 hk2 p0 p1 p2
  go_wp2_with fail
  go_ret
  exact ⟨rfl, HX.out⟩
end Go.Proofs.YtkhalpnonijogaaGreat
namespace Go.Proofs.YtkhalpnonijogaaGreat
open Go.RowKit

def head1 : Value := .int .u32 1191182337
set_option maxHeartbeats 1600000 in
set_option maxRecDepth 100000 in
theorem fwrite_ok {f g : Nat} {cnt : Int} {w : World} (h : FlashIs w f g cnt ffs) (h0 : 0 ≤ cnt) (h1 : cnt ≤ 1000) :
    Calls Tryz.prog 76 #[.pointer (some ⟨f, 0, none⟩), .int .i64 0, .int .u32 1191182337] w fun e w' => e = .returned (.int .i64 0) ∧ FlashIs w' f g (cnt + 1) head1 ∧ Keeps [f, g] w w' := by
  have HR := Go.Lib.hid (raw_ok h h0 h1)
  clear h
  go_enter Tryz.func76, Tryz.ntmps76
  go_wp2_with fail
  refine HR.out.mono ?_
  rintro e w1 ⟨rfl, hf1, hk1⟩
  obtain ⟨p0, p1, p2, _⟩ := cells3 hf1.top
  obtain ⟨cur, c1, c2, c3, c4⟩ := hf1.row
  obtain ⟨q0, q1⟩ := cell_at c1 c3
  have hb : bits .and .u32 4294967295 1191182337 = 1191182337 := by decide
  have HX : Hid (FlashIs (w1.setCell ⟨g, 0, none⟩ (.int .u32 1191182337)) f g (cnt + 1) head1 ∧ Keeps [f, g] w (w1.setCell ⟨g, 0, none⟩ (.int .u32 1191182337))) := Go.Lib.hid (by
    have hk2 : Keeps [g] w1 (w1.setCell ⟨g, 0, none⟩ (.int .u32 1191182337)) := (Keeps.refl _ _).setCell (by simp) _
    refine ⟨⟨hk2.heap hf1.top (by rw [List.mem_singleton]; exact block_ne hf1.top c1 (by simp)), _, heap_setCell_self c1, by simp [c2], ?_, fun j h1 h2 => ?_⟩, (hk1.mono (by simp)).trans (hk2.mono (by simp))⟩
    · rw [Array.getElem?_setIfInBounds_self, if_pos (by omega)]; rfl
    · rw [Array.getElem?_setIfInBounds_ne (by omega)]; exact c4 j h1 h2)
  clear HR hf1 hk1 c1 c2 c3 c4
  rw [ffs] at q0
  go_wp2_with fail
  go_ret
  exact ⟨rfl, HX.out⟩
theorem ffs_one : ffs.oneCell' = true := rfl
set_option maxHeartbeats 1600000 in
set_option maxRecDepth 100000 in
theorem clone_words {g : Nat} {cur : Array Value} {w : World} (hc : w.heap[g]? = some (.cells cur 127 (0, 0))) (hs : cur.size = 512) (h1 : ∀ v ∈ cur.toList, v.oneCell' = true) :
    Calls Tryz.prog 230 #[.slice (some ⟨g, 0, none⟩) 512 512] w fun e w' => ∃ v, e = .returned v ∧ w'.ownsRow w.heap.size 127 1 v 512 cur.toList ∧ Keeps [] w w' := by
  obtain ⟨i0, hi, hz0, hz1, hz2⟩ := info127
  obtain ⟨W, hW⟩ : ∃ W, W = w.alloc (.cells #[] 127) := ⟨_, rfl⟩
  have hk : Keeps [] w W := by rw [hW]; exact (Keeps.refl _ _).alloc _
  have ho : W.ownsRow w.heap.size 127 1 (.slice (some ⟨w.heap.size, 0, none⟩) 0 0) 0 [] := by
    rw [hW]
    exact World.ownsRow_lit (base := w.heap.size) (e := 127) (size := 1) w #[] 0 (Nat.le_refl _) (by decide) rfl
  obtain ⟨v', w', e1, e2, e3, _⟩ := run_append_own_at (P := Tryz.prog) W w.heap.size 124 124 127 i0 _ 1 4 Tryz.underlying124 hi hz0 hz1 hz2 rfl (by omega) _ 0 _ ho ⟨g, 0, none⟩ 512 512 cur.toList (by simp [hs]) (fun j u hj => by
      rw [Addr.add_lit, cell_of_row W g _ cur 127 (0, 0) (hk.heap hc (by simp))]
      simpa using hj) h1 (by unfold maxLen; omega) (by omega) hk.size
  have hk2 := keeps_grow hk ho e3
  have heq : ∀ w', (binOp .eql 124 (.slice (some ⟨g, 0, none⟩) 512 512) (.slice none 0 0)).run Tryz.prog w' = .ok (.bool false) w' := fun w' => Lib.run_eql_slice_nil w' 124 127 (some ⟨g, 0, none⟩) 512 512 0 0 Tryz.underlying124
  have HR : Hid ((Builtin.append_ #[124, 124] 124 #[.slice (some ⟨w.heap.size, 0, none⟩) 0 0, .slice (some ⟨g, 0, none⟩) 512 512]).run Tryz.prog (w.alloc (.cells #[] 127)) = .ok v' w') := Go.Lib.hid (hW ▸ e1)
  have HE : Hid (w'.ownsRow w.heap.size 127 1 v' 512 cur.toList ∧ Keeps [] w w') := Go.Lib.hid ⟨by simpa using e2, hk2⟩
  clear hi hz0 hz1 hz2 hW hk ho e1 e2 e3 hk2 hc hs h1
  go_enter Tryz.func230, Tryz.ntmps230
  go_wp2_with (at_builtin; refine wpList_append_run (by rfl) (by rfl) HR.out ?_)
  go_ret
  exact ⟨_, rfl, HE.out⟩
end Go.Proofs.YtkhalpnonijogaaGreat
namespace Go.Proofs.YtkhalpnonijogaaGreat
open Go.RowKit

set_option maxHeartbeats 1600000 in
set_option maxRecDepth 100000 in
theorem image_ok {f g : Nat} {cnt : Int} {first : Value} {cur : Array Value} {w : World} (h : FlashIs w f g cnt first) (hc : w.heap[g]? = some (.cells cur 127 (0, 0))) (hs : cur.size = 512) (h1 : ∀ v ∈ cur.toList, v.oneCell' = true) :
    Calls Tryz.prog 180 #[.pointer (some ⟨f, 0, none⟩)] w fun e w' => ∃ v, e = .returned v ∧ w'.ownsRow w.heap.size 127 1 v 512 cur.toList ∧ Keeps [] w w' := by
  obtain ⟨p0, p1, p2, _⟩ := cells3 h.top
  have HC := Go.Lib.hid (clone_words hc hs h1)
  clear h hc hs h1
  go_enter Tryz.func180, Tryz.ntmps180
  go_wp2_with fail
  refine HC.out.mono ?_
  rintro e w' ⟨v, rfl, ho, hk⟩
  have HE := Go.Lib.hid (And.intro ho hk)
  clear ho hk HC
  go_wp2_with fail
  go_ret
  exact ⟨_, rfl, HE.out⟩
/-- A page's words. -/
structure PageIs (w : World) (b k : Nat) (first : Value) : Prop where
  get : ∀ j, j < 256 → w.cell? ⟨b, k * 256 + j, none⟩ = some (if k * 256 + j = 0 then first else ffs)
set_option maxHeartbeats 1600000 in
set_option maxRecDepth 100000 in
theorem words_ok {f g k : Nat} {cnt : Int} {first : Value} {w : World} (h : FlashIs w f g cnt first) (h1 : first.oneCell' = true) (hk : k < 2) :
    Calls Tryz.prog 126 #[.pointer (some ⟨f, 0, none⟩), .int .i64 k] w fun e w' => ∃ b c, e = .returned (.slice (some ⟨b, k * 256, none⟩) 256 c) ∧ 256 ≤ c ∧ PageIs w' b k first ∧ w.heap.size ≤ b ∧ Keeps [] w w' := by
  obtain ⟨cur, c1, c2, c3, c4⟩ := h.row
  have hone : ∀ v ∈ cur.toList, v.oneCell' = true := fun v hv => by
    obtain ⟨j, hj, rfl⟩ := List.getElem_of_mem hv
    have hj' : j < 512 := by simpa [c2] using hj
    by_cases e : j = 0
    · subst e
      have : cur.toList[0] = first := by
        have := c3
        rw [Array.getElem?_eq_getElem (by omega)] at this
        simpa using this
      rw [this]; exact h1
    · have : cur.toList[j] = ffs := by
        have := c4 j (by omega) hj'
        rw [Array.getElem?_eq_getElem (by omega)] at this
        simpa using this
      rw [this]; rfl
  have HC := Go.Lib.hid (image_ok h c1 c2 hone)
  have HG : Hid (∀ j, j < 512 → cur.toList[j]? = some (if j = 0 then first else ffs)) := Go.Lib.hid (fun j hj => by
    by_cases e : j = 0
    · subst e; rw [if_pos rfl]; simpa using c3
    · rw [if_neg e]; simpa using c4 j (by omega) hj)
  clear h h1 hone c1 c2 c3 c4
  have hkc : k = 0 ∨ k = 1 := by omega
  clear hk
  go_enter Tryz.func126, Tryz.ntmps126
  go_wp2_with fail
  refine HC.out.mono ?_
  rintro e w' ⟨v, rfl, ho, hk⟩
  obtain ⟨A, c, rfl⟩ := own_form ho
  obtain ⟨b, rfl, hb1, hb2, hb3⟩ := own_at ho (by omega)
  have HE : Hid ((∀ j, j < 512 → w'.cell? ⟨b, j, none⟩ = some (if j = 0 then first else ffs)) ∧ Keeps [] w w') := Go.Lib.hid ⟨fun j hj => own_cell ho (HG.out j hj), hk⟩
  unfold maxLen at hb3
  clear ho hk HC HG
  rcases hkc with rfl | rfl
  · have d1 : decide (256 ≤ c) = true := decide_eq_true (by omega)
    have d2 : decide ((256 : Int) ≤ (c : Int)) = true := decide_eq_true (by omega)
    go_wp2_with fail
    go_ret
    exact ⟨b, c, rfl, by omega, ⟨fun j hj => HE.out.1 _ (by omega)⟩, hb1, HE.out.2⟩
  · have d1 : decide (512 ≤ c) = true := decide_eq_true (by omega)
    have d2 : decide ((512 : Int) ≤ (c : Int)) = true := decide_eq_true (by omega)
    go_wp2_with fail
    go_ret
    exact ⟨b, c - 256, rfl, by omega, ⟨fun j hj => HE.out.1 _ (by omega)⟩, hb1, HE.out.2⟩
end Go.Proofs.YtkhalpnonijogaaGreat
namespace Go.Proofs.YtkhalpnonijogaaGreat
open Go.RowKit

set_option maxHeartbeats 800000 in
set_option maxRecDepth 100000 in
theorem gen_blank (w : World) : Calls Tryz.prog 125 #[.int .u32 4294967295] w fun e w' => e = .returned (.tuple #[.int .i64 0, .bool false]) ∧ w' = w := by
  have h1 : bits .and .u32 4294967295 4278190080 = 4278190080 := by decide
  go_enter Tryz.func125, Tryz.ntmps125
  go_wp2_with fail
  go_ret2
  exact ⟨rfl, rfl⟩
set_option maxHeartbeats 800000 in
set_option maxRecDepth 100000 in
theorem gen_head (w : World) : Calls Tryz.prog 125 #[.int .u32 1191182337] w fun e w' => e = .returned (.tuple #[.int .i64 1, .bool true]) ∧ w' = w := by
  have h1 : bits .and .u32 1191182337 4278190080 = 1191182336 := by decide
  have h2 : bits .andNot .u32 1191182337 4278190080 = 1 := by decide
  go_enter Tryz.func125, Tryz.ntmps125
  go_wp2_with fail
  go_ret2
  exact ⟨rfl, rfl⟩
set_option maxHeartbeats 800000 in
set_option maxRecDepth 100000 in
theorem head_ok (w : World) : Calls Tryz.prog 74 #[.int .i64 1] w fun e w' => e = .returned (.tuple #[.int .u32 1191182337, .int .i64 0]) ∧ w' = w := by
  go_enter Tryz.func74, Tryz.ntmps74
  go_wp2_with fail
  go_ret2
  exact ⟨rfl, rfl⟩
set_option maxHeartbeats 3200000 in
set_option maxRecDepth 100000 in
theorem counts_ok {f g : Nat} {cnt : Int} {w : World} (h : FlashIs w f g cnt ffs) :
    Calls Tryz.prog 73 #[.pointer (some ⟨f, 0, none⟩)] w fun e w' => e = .returned (.tuple #[.int .i64 (-1), .int .i64 (-1)]) ∧ Keeps [] w w' := by
  have HW := Go.Lib.hid (fun W (hW : Keeps [] w W) (k : Nat) (hk : k < 2) => words_ok (k := k) (w := W) (FlashIs.mk (hW.heap h.top (by simp)) (by obtain ⟨cur, c1, c2⟩ := h.row; exact ⟨cur, hW.heap c1 (by simp), c2⟩)) ffs_one hk)
  clear h
  go_enter Tryz.func73, Tryz.ntmps73
  go_wp2_with fail
  go_loopw [2, 3, 7] (fun s2 s3 s7 wx => ∃ k : Nat, k ≤ 2 ∧ s7 = .int .i64 k ∧ s2 = .int .i64 (-1) ∧ s3 = .int .i64 (-1) ∧ Hid (Keeps [] w wx)) (fun _ _ s7 _ => 2 - (intOf s7).toNat)
  case atStart => exact ⟨0, by omega, rfl, rfl, rfl, Go.Lib.hid (Keeps.refl _ _)⟩
  case round =>
    obtain ⟨k, hk, rfl, rfl, rfl, HK⟩ := hrel
    by_cases hlt : k < 2
    · have d1 : decide (k < 2) = true := decide_eq_true hlt
      have d2 : decide ((k : Int) < 2) = true := decide_eq_true (by omega)
      go_wp2_with fail
      refine (HW.out _ HK.out k hlt).mono ?_
      rintro e w1 ⟨b, c, rfl, hc, hp, hb, hk1⟩
      have hz : w1.cell? ⟨b, k * 256, none⟩ = some (.int .u32 4294967295) := by
        have := hp.get 0 (by omega)
        rw [Nat.add_zero] at this
        rw [this]
        split <;> rfl
      have HK1 := Go.Lib.hid (HK.out.trans hk1)
      clear hp hk1 hb
      go_wp2_with fail
      refine (gen_blank _).mono ?_
      rintro e w2 ⟨rfl, hw2⟩
      rw [hw2]
      clear hw2
      go_wp2_with fail
      exact ⟨⟨k + 1, by omega, by go_num, rfl, rfl, HK1⟩, by simp [intOf]; omega⟩
    · obtain rfl : k = 2 := by omega
      go_wp2_with fail
      go_ret2
      exact ⟨rfl, HK.out⟩
set_option maxHeartbeats 3200000 in
set_option maxRecDepth 100000 in
theorem open_ok {f g : Nat} {cnt : Int} {w : World} (h : FlashIs w f g cnt ffs) (h0 : 0 ≤ cnt) (h1 : cnt ≤ 900) :
    Calls Tryz.prog 44 #[.pointer (some ⟨f, 0, none⟩)] w fun e w' => ∃ s, e = .returned (.tuple #[.pointer (some ⟨s, 0, none⟩), .int .i64 0]) ∧ w'.heap[s]? = some (.cells #[.pointer (some ⟨f, 0, none⟩), .int .i64 0, .bool false] 174 (0, 0)) ∧ FlashIs w' f g (cnt + 2) head1 ∧ w.heap.size ≤ s ∧ Keeps [f, g] w w' := by
  have HH := Go.Lib.hid h
  have HC := Go.Lib.hid (counts_ok h)
  clear h
  go_enter Tryz.func44, Tryz.ntmps44
  go_wp2_with fail
  refine HC.out.mono ?_
  rintro e w1 ⟨rfl, hk1⟩
  have HE := Go.Lib.hid (ferase_ok (w := w1) (FlashIs.mk (hk1.heap HH.out.top (by simp)) (by obtain ⟨cur, c1, c2⟩ := HH.out.row; exact ⟨cur, hk1.heap c1 (by simp), c2⟩)) h0 (by omega))
  have HK1 := Go.Lib.hid hk1
  clear HC hk1 HH
  go_wp2_with fail
  refine (head_ok _).mono ?_
  rintro e w' ⟨rfl, hw'⟩
  rw [hw']
  clear hw'
  go_wp2_with fail
  refine HE.out.mono ?_
  rintro e w2 ⟨rfl, hf2, hk2⟩
  have HW := Go.Lib.hid (fwrite_ok hf2 (by omega) (by omega))
  have HK2 := Go.Lib.hid ((HK1.out.mono (by simp)).trans hk2)
  clear HE hf2 hk2
  go_wp2_with fail
  refine HW.out.mono ?_
  rintro e w3 ⟨rfl, hf3, hk3⟩
  rw [show cnt + 1 + 1 = cnt + 2 by omega] at hf3
  have HX : Hid ((w3.alloc (.cells #[.pointer (some ⟨f, 0, none⟩), .int .i64 0, .bool false] 174)).heap[w3.heap.size]? = some (.cells #[.pointer (some ⟨f, 0, none⟩), .int .i64 0, .bool false] 174 (0, 0)) ∧ FlashIs (w3.alloc (.cells #[.pointer (some ⟨f, 0, none⟩), .int .i64 0, .bool false] 174)) f g (cnt + 2) head1 ∧ w.heap.size ≤ w3.heap.size ∧ Keeps [f, g] w (w3.alloc (.cells #[.pointer (some ⟨f, 0, none⟩), .int .i64 0, .bool false] 174))) := Go.Lib.hid (by
    have hk4 : Keeps [] w3 (w3.alloc (.cells #[.pointer (some ⟨f, 0, none⟩), .int .i64 0, .bool false] 174)) := (Keeps.refl _ _).alloc _
    have hkw := HK2.out.trans hk3
    refine ⟨heap_alloc_new _ _, FlashIs.mk (hk4.heap hf3.top (by simp)) (by obtain ⟨cur, c1, c2⟩ := hf3.row; exact ⟨cur, hk4.heap c1 (by simp), c2⟩), hkw.size, hkw.alloc _⟩)
  clear HW hf3 hk3
  go_wp2_with fail
  go_ret2
  exact ⟨_, rfl, HX.out⟩
end Go.Proofs.YtkhalpnonijogaaGreat
