/- The walk of RingOrder: over every list of acts that lies in memory it returns true. No condition. -/
import Derived.Test.YtoncobhjdplamaaBase
import Derived.LoopTactic
import Derived.Deep.LoopGhost
namespace Go.Proofs.Ytoncobhjdplamaa
open Go.RowKit

/-- The list of acts as it lies in memory. -/
structure Act where
  d : Int
  n : Int
  s : ByteArray
def Acts (w : World) (A : Option Addr) (l : List Act) : Prop :=
  ∀ i x, l[i]? = some x → ∃ a, A = some a ∧ w.cell? (a.add (i * 3)) = some (.int .i64 x.d) ∧ w.cell? ⟨(a.add (i * 3)).block, (a.add (i * 3)).off + 1, none⟩ = some (.int .i64 x.n) ∧ w.cell? ⟨(a.add (i * 3)).block, (a.add (i * 3)).off + 2, none⟩ = some (.string x.s)
theorem Acts.keeps {w w' : World} {A : Option Addr} {l : List Act} (h : Acts w A l) (hk : Keeps [] w w') : Acts w' A l := by
  intro i x hx
  obtain ⟨a, ha, h1, h2, h3⟩ := h i x hx
  exact ⟨a, ha, hk.cell h1 (by simp), hk.cell h2 (by simp), hk.cell h3 (by simp)⟩

/-- The numbers from one on. -/
def nums (o k : Nat) : List Int := (List.range' o k).map Int.ofNat
theorem nums_succ (o k : Nat) : nums o (k + 1) = (o : Int) :: nums (o + 1) k := by simp [nums, List.range'_succ]
theorem nums_snoc (o k : Nat) : nums o k ++ [((o + k : Nat) : Int)] = nums o (k + 1) := by simp [nums, List.range'_1_concat]
theorem nums_len (o k : Nat) : (nums o k).length = k := by simp [nums]

structure Inv (w0 : World) (g h c g' h' c' n : Nat) (out inn k : Nat) (wr : World) : Prop where
  le : out ≤ inn
  room : inn - out ≤ n
  lek : inn ≤ k
  k60 : k ≤ 60
  ri : RInt.Is wr g h c n (nums out (inn - out))
  rs : ∃ ls, ls.length = inn - out ∧ RStr.Is wr g' h' c' n ls
  keeps : Keeps [] w0 wr

set_option maxHeartbeats 1600000 in
set_option maxRecDepth 100000 in
theorem order {A : Option Addr} {len0 cap0 : Nat} {cp : Int} {l : List Act} (hlen : len0 = l.length) (w : World) (hl : Acts w A l) :
    Calls Try.prog 3 #[.agg #[.int .i64 cp, .slice A len0 cap0]] w fun e w' => e = .returned (.bool true) ∧ Keeps [] w w' := by
  have hwr := wthn_range cp (n := 20) (by omega)
  obtain ⟨m, hm⟩ : ∃ m : Nat, wthn cp 20 = m := ⟨(wthn cp 20).toNat, by omega⟩
  have hn : m < 20 := by omega
  have HM := Go.Lib.hid hm
  have HL := Go.Lib.hid hlen
  have HA := Go.Lib.hid hl
  clear hm hwr hlen hl
  go_enter Try.func3, Try.ntmps3
  go_wp2_with fail
  refine (within _ _ (by omega) (by omega) _).mono ?_
  rintro e w' ⟨rfl, rfl⟩
  rw [HM.out]
  go_wp2_with fail
  obtain ⟨n, hn'⟩ : ∃ n : Nat, n = 1 + m := ⟨_, rfl⟩
  rw [show (1 + (m : Int)) = (n : Int) from by omega]
  obtain ⟨w0, hw0⟩ : ∃ w0, w0 = w.alloc (.cells #[.int .i64 cp, .slice A len0 cap0] 24) := ⟨_, rfl⟩
  rw [← hw0]
  obtain ⟨b, hb⟩ : ∃ b, b = w.heap.size := ⟨_, rfl⟩
  rw [← hb]
  have hb0 : w0.heap[b]? = some (.cells #[.int .i64 cp, .slice A len0 cap0] 24 (0, 0)) := by rw [hw0, hb]; exact heap_alloc_new _ _
  have hk0 : Keeps [] w w0 := by rw [hw0]; exact (Keeps.refl _ _).alloc _
  have HA0 : Hid (Acts w0 A l) := HA.out.keeps hk0
  have HB0 := Go.Lib.hid hb0
  have HK0 := Go.Lib.hid hk0
  have hn0 : 0 < n := by omega
  have hn1 : n ≤ 20 := by omega
  clear hb0 hk0 hw0 hb hn' hn HM HA
  refine (RInt.new_ok hn0 (by omega) _).mono ?_
  rintro e w1 ⟨g, h, c, rfl, hr, hg, hh, hc, hk⟩
  go_wp2_with fail
  refine (RStr.new_ok hn0 (by omega) _).mono ?_
  rintro e w2 ⟨g', h', c', rfl, hr', hg', hh', hc', hk'⟩
  have HI : Hid (Inv w0 g h c g' h' c' n 0 0 0 w2) := by
    refine ⟨by omega, by omega, by omega, by omega, ?_, ⟨[], rfl, hr'⟩, hk.trans hk'⟩
    have := hr.lts
    exact hr.keeps hk' (by simp) (by simp) (by simp)
  have HD : Hid ((∀ x ∈ [g, h, c], x ∉ [g', h', c']) ∧ (∀ x ∈ [g, h, c], w0.heap.size ≤ x) ∧ (∀ x ∈ [g', h', c'], w0.heap.size ≤ x)) := by
    have h1 := hr.lts
    have h2 := hk.size
    refine ⟨?_, ?_, ?_⟩
    · simp; omega
    · simp; omega
    · simp; omega
  clear hr hr' hk hk' hg hh hc hg' hh' hc'
  go_wp2_with (go_at_call 9; refine (num _ _).mono ?_; rintro e w' ⟨rfl, rfl⟩)
  go_loopw [8, 9, 10] (fun so si sk wr => ∃ out inn k : Nat, so = .int .i64 out ∧ si = .int .i64 inn ∧ sk = .int .i64 k ∧ Hid (Inv w0 g h c g' h' c' n out inn k wr)) (fun _ _ sk _ => 60 - (intOf sk).toNat)
  case atStart => exact ⟨0, 0, 0, rfl, rfl, rfl, HI⟩
  case round =>
    clear HI
    obtain ⟨out, inn, k, rfl, rfl, rfl, HI⟩ := hrel
    have hk60 : k ≤ 60 := HI.out.k60
    have hik : inn ≤ k := HI.out.lek
    have hoi : out ≤ inn := HI.out.le
    have hrm : inn - out ≤ n := HI.out.room
    have hbx := HI.out.keeps.heap HB0.out (by simp)
    have b0 : wr.cell? ⟨b, 0, none⟩ = some (.int .i64 cp) := (cell_at hbx rfl).1
    have b1 : wr.cell? ⟨b, 1, none⟩ = some (.slice A len0 cap0) := (cell_at hbx rfl).1
    clear hbx
    by_cases hlt : k < len0 ∧ k < 60
    · obtain ⟨hlt, hk6⟩ := hlt
      have d1 : decide (k < len0) = true := decide_eq_true hlt
      have d2 : decide ((k : Int) < 60) = true := decide_eq_true (by omega)
      obtain ⟨x, hx⟩ : ∃ x, l[k]? = some x := ⟨_, List.getElem?_eq_getElem (by have := HL.out; omega)⟩
      obtain ⟨a, rfl, x0, x1, x2⟩ := (HA0.out.keeps HI.out.keeps) k x hx
      have HX := Go.Lib.hid hx
      clear hx x1
      go_wp2_with fail
      refine (within _ _ (by omega) (by omega) _).mono ?_
      rintro e w' ⟨rfl, rfl⟩
      by_cases hz : wthn x.d 3 = 0
      · have e0 : (wthn x.d 3 == 0) = true := by simpa using hz
        clear hz
        by_cases hne : out < inn
        · obtain ⟨q, hq⟩ : ∃ q, inn - out = q + 1 := ⟨inn - out - 1, by omega⟩
          have hri := HI.out.ri
          rw [hq, nums_succ] at hri
          obtain ⟨ls, hls, hrs⟩ := HI.out.rs
          obtain ⟨y, ls, rfl⟩ : ∃ y l', ls = y :: l' := by
            cases ls with
            | nil => simp at hls; omega
            | cons y l' => exact ⟨y, l', rfl⟩
          have hls' : ls.length = q := by simp at hls; omega
          have HQ := Go.Lib.hid hq
          have HLS := Go.Lib.hid hls'
          clear hq hls hls'
          go_wp2_with fail
          refine (RInt.pop_some hri).mono ?_
          rintro e w1 ⟨rfl, hr1, hk1⟩
          have hrs1 := hrs.keeps hk1 (by have := HD.out.1; simp at this ⊢; omega) (by have := HD.out.1; simp at this ⊢; omega) (by have := HD.out.1; simp at this ⊢; omega)
          clear hri hrs
          go_wp2_with fail
          refine (RStr.pop_some hrs1).mono ?_
          rintro e w2 ⟨rfl, hr2, hk2⟩
          have hr1' := hr1.keeps hk2 (by have := HD.out.1; simp at this ⊢; omega) (by have := HD.out.1; simp at this ⊢; omega) (by have := HD.out.1; simp at this ⊢; omega)
          have HN : Hid (Inv w0 g h c g' h' c' n (out + 1) inn (k + 1) w2) := by
            refine ⟨by omega, by omega, by omega, by omega, ?_, ⟨ls, by have := HLS.out; have := HQ.out; omega, hr2⟩, (HI.out.keeps.step hk1 ?_).step hk2 ?_⟩
            · rw [show inn - (out + 1) = q by have := HQ.out; omega]; exact hr1'
            · intro x hx; exact .inr (HD.out.2.1 x hx)
            · intro x hx; exact .inr (HD.out.2.2 x hx)
          clear hr1 hk1 hrs1 hr2 hk2 hr1'
          go_wp2_with fail
          exact ⟨⟨out + 1, inn, k + 1, by go_num, rfl, by go_num, HN⟩, by simp [intOf]; omega⟩
        · obtain rfl : out = inn := by omega
          have hri := HI.out.ri
          rw [Nat.sub_self] at hri
          obtain ⟨ls, hls, hrs⟩ := HI.out.rs
          rw [Nat.sub_self] at hls
          obtain rfl : ls = [] := List.eq_nil_of_length_eq_zero hls
          clear hls
          go_wp2_with fail
          refine (RInt.pop_none hri).mono ?_
          rintro e w' ⟨rfl, rfl⟩
          go_wp2_with fail
          refine (RStr.pop_none hrs).mono ?_
          rintro e w' ⟨rfl, rfl⟩
          have HN : Hid (Inv w0 g h c g' h' c' n out out (k + 1) wr) := by
            refine ⟨by omega, by omega, by omega, by omega, HI.out.ri, HI.out.rs, HI.out.keeps⟩
          clear hri hrs
          go_wp2_with fail
          exact ⟨⟨out, out, k + 1, rfl, rfl, by go_num, HN⟩, by simp [intOf]; omega⟩
      · have e0 : (wthn x.d 3 == 0) = false := by simpa using hz
        clear hz
        by_cases hfull : inn - out = n
        · obtain ⟨q, hq⟩ : ∃ q, n = q + 1 := ⟨n - 1, by omega⟩
          have hri := HI.out.ri
          rw [hfull, show nums out n = (out : Int) :: nums (out + 1) q by rw [hq, nums_succ]] at hri
          obtain ⟨ls, hls, hrs⟩ := HI.out.rs
          obtain ⟨y, ls, rfl⟩ : ∃ y l', ls = y :: l' := by
            cases ls with
            | nil => simp at hls; omega
            | cons y l' => exact ⟨y, l', rfl⟩
          have hls' : ls.length = q := by simp at hls; omega
          have hlt2 : out < inn := by omega
          have hfin : inn = out + (q + 1) := by omega
          have HPI := Go.Lib.hid (RInt.push_full (x := inn) (y := out) (l := nums (out + 1) q) hri (by rw [nums_len, hq]))
          have HQ := Go.Lib.hid hq
          have HF := Go.Lib.hid hfin
          have HLS := Go.Lib.hid hls'
          have d3 : decide ((n : Int) < (inn : Int) + 1 - (out : Int)) = true := decide_eq_true (by omega)
          clear hq hfin hls hls' hfull hri
          go_wp2_with fail
          refine HPI.out.mono ?_
          rintro e w1 ⟨rfl, hr1, hk1⟩
          have hrs1 := hrs.keeps hk1 (by have := HD.out.1; simp at this ⊢; omega) (by have := HD.out.1; simp at this ⊢; omega) (by have := HD.out.1; simp at this ⊢; omega)
          have HK1 : Hid (Keeps [] w0 w1) := HI.out.keeps.step hk1 (fun x hx => .inr (HD.out.2.1 x hx))
          obtain ⟨a', ha', y0, y1, y2⟩ := (HA0.out.keeps HK1.out) k x HX.out
          obtain rfl : a = a' := by simpa using ha'
          have hbx := HK1.out.heap HB0.out (by simp)
          have z0 : w1.cell? ⟨b, 0, none⟩ = some (.int .i64 cp) := (cell_at hbx rfl).1
          have z1 : w1.cell? ⟨b, 1, none⟩ = some (.slice (some a) len0 cap0) := (cell_at hbx rfl).1
          have HPS := Go.Lib.hid (RStr.push_full (x := x.s) (y := y) (l := ls) hrs1 (by rw [HLS.out, HQ.out]))
          clear hrs hbx ha' y1
          go_wp2_with fail
          refine HPS.out.mono ?_
          rintro e w2 ⟨rfl, hr2, hk2⟩
          have hr1' := hr1.keeps hk2 (by have := HD.out.1; simp at this ⊢; omega) (by have := HD.out.1; simp at this ⊢; omega) (by have := HD.out.1; simp at this ⊢; omega)
          rw [show nums (out + 1) q ++ [(inn : Int)] = nums (out + 1) (q + 1) by rw [← nums_snoc, HF.out]; congr 3; omega] at hr1'
          have HLA := Go.Lib.hid (RInt.len hr1')
          have HLB := Go.Lib.hid (RStr.len hr2)
          have HN : Hid (Inv w0 g h c g' h' c' n (out + 1) (inn + 1) (k + 1) w2) := by
            have := HQ.out
            refine ⟨by omega, by have := HF.out; omega, by omega, by omega, ?_, ⟨ls ++ [x.s], by have := HLS.out; have := HF.out; simp; omega, hr2⟩, HK1.out.step hk2 ?_⟩
            · rw [show inn + 1 - (out + 1) = q + 1 by have := HF.out; omega]; exact hr1'
            · intro x hx; exact .inr (HD.out.2.2 x hx)
          have e3 : ((nums (out + 1) (q + 1)).length : Int) = (inn : Int) + 1 - ((out : Int) + 1) := by rw [nums_len]; have := HF.out; omega
          have e4 : ((ls ++ [x.s]).length : Int) = (inn : Int) + 1 - ((out : Int) + 1) := by have := HLS.out; have := HF.out; simp; omega
          have HE3 := Go.Lib.hid e3
          have HE4 := Go.Lib.hid e4
          clear hr1 hk1 hrs1 hr2 hk2 hr1' e3 e4
          go_wp2_with fail
          refine HLA.out.mono ?_
          rintro e w' ⟨rfl, rfl⟩
          rw [HE3.out]
          go_wp2_with fail
          refine HLB.out.mono ?_
          rintro e w' ⟨rfl, rfl⟩
          rw [HE4.out]
          go_wp2_with fail
          exact ⟨⟨out + 1, inn + 1, k + 1, by go_num, by go_num, by go_num, HN⟩, by simp [intOf]; omega⟩
        · have hri := HI.out.ri
          obtain ⟨q, hq⟩ : ∃ q, inn - out = q := ⟨_, rfl⟩
          rw [hq] at hri
          obtain ⟨ls, hls, hrs⟩ := HI.out.rs
          have hfin : inn = out + q := by omega
          have HPI := Go.Lib.hid (RInt.push_room (x := inn) hri (by rw [nums_len]; omega))
          have HF := Go.Lib.hid hfin
          have HLS := Go.Lib.hid hls
          have hqn : q < n := by omega
          have d3 : decide ((n : Int) < (inn : Int) + 1 - (out : Int)) = false := decide_eq_false (by omega)
          clear hq hfin hls hfull hri
          go_wp2_with fail
          refine HPI.out.mono ?_
          rintro e w1 ⟨rfl, hr1, hk1⟩
          have hrs1 := hrs.keeps hk1 (by have := HD.out.1; simp at this ⊢; omega) (by have := HD.out.1; simp at this ⊢; omega) (by have := HD.out.1; simp at this ⊢; omega)
          have HK1 : Hid (Keeps [] w0 w1) := HI.out.keeps.step hk1 (fun x hx => .inr (HD.out.2.1 x hx))
          obtain ⟨a', ha', y0, y1, y2⟩ := (HA0.out.keeps HK1.out) k x HX.out
          obtain rfl : a = a' := by simpa using ha'
          have hbx := HK1.out.heap HB0.out (by simp)
          have z0 : w1.cell? ⟨b, 0, none⟩ = some (.int .i64 cp) := (cell_at hbx rfl).1
          have z1 : w1.cell? ⟨b, 1, none⟩ = some (.slice (some a) len0 cap0) := (cell_at hbx rfl).1
          have HPS := Go.Lib.hid (RStr.push_room (x := x.s) (l := ls) hrs1 (by have := HLS.out; have := HF.out; omega))
          clear hrs hbx ha' y1
          go_wp2_with fail
          refine HPS.out.mono ?_
          rintro e w2 ⟨rfl, hr2, hk2⟩
          have hr1' := hr1.keeps hk2 (by have := HD.out.1; simp at this ⊢; omega) (by have := HD.out.1; simp at this ⊢; omega) (by have := HD.out.1; simp at this ⊢; omega)
          rw [show nums out q ++ [(inn : Int)] = nums out (q + 1) by rw [← nums_snoc, HF.out]] at hr1'
          have HLA := Go.Lib.hid (RInt.len hr1')
          have HLB := Go.Lib.hid (RStr.len hr2)
          have HN : Hid (Inv w0 g h c g' h' c' n out (inn + 1) (k + 1) w2) := by
            refine ⟨by omega, by have := HF.out; omega, by omega, by omega, ?_, ⟨ls ++ [x.s], by have := HLS.out; have := HF.out; simp; omega, hr2⟩, HK1.out.step hk2 ?_⟩
            · rw [show inn + 1 - out = q + 1 by have := HF.out; omega]; exact hr1'
            · intro x hx; exact .inr (HD.out.2.2 x hx)
          have e3 : ((nums out (q + 1)).length : Int) = (inn : Int) + 1 - (out : Int) := by rw [nums_len]; have := HF.out; omega
          have e4 : ((ls ++ [x.s]).length : Int) = (inn : Int) + 1 - (out : Int) := by have := HLS.out; have := HF.out; simp; omega
          have HE3 := Go.Lib.hid e3
          have HE4 := Go.Lib.hid e4
          clear hr1 hk1 hrs1 hr2 hk2 hr1' e3 e4
          go_wp2_with fail
          refine HLA.out.mono ?_
          rintro e w' ⟨rfl, rfl⟩
          rw [HE3.out]
          go_wp2_with fail
          refine HLB.out.mono ?_
          rintro e w' ⟨rfl, rfl⟩
          rw [HE4.out]
          go_wp2_with fail
          exact ⟨⟨out, inn + 1, k + 1, rfl, by go_num, by go_num, HN⟩, by simp [intOf]; omega⟩
    · have dd : decide (k < len0) = false ∨ decide (k < len0) = true ∧ decide ((k : Int) < 60) = false := by
        by_cases h1 : k < len0
        · exact .inr ⟨decide_eq_true h1, decide_eq_false (by omega)⟩
        · exact .inl (decide_eq_false h1)
      have HW := HI.out.keeps
      have HW' := Go.Lib.hid HW
      clear HW hlt
      rcases dd with d1 | ⟨d1, d2⟩
      all_goals
        go_wp2_with fail
        refine (wakes _).mono ?_
        rintro e w2 ⟨rfl, hk2⟩
        go_wp2
        go_ret
        exact ⟨rfl, HK0.out.trans (HW'.out.trans hk2)⟩
end Go.Proofs.Ytoncobhjdplamaa
