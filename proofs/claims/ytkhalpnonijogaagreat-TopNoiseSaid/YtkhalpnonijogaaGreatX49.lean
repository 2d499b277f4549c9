/- hub.New on a bus without devices and an empty flash. No condition but theirs. -/
import Derived.Test.YtkhalpnonijogaaGreatX48
import Derived.Test.YtkhalpnonijogaaGreatX37
namespace Go.Proofs.YtkhalpnonijogaaGreat
open Go.RowKit

/-- A hub's cells at first. -/
def hub0 (b f s vp r vb lk : Nat) (t : Value) : Array Value := #[.pointer (some ⟨b, 0, none⟩), .pointer (some ⟨f, 0, none⟩), .pointer (some ⟨s, 0, none⟩), .int .i64 0, .int .i64 0, .bool false, .int .i64 0, .int .i64 0, .int .i64 0, .bool false, .int .i64 0, .int .i64 0, .int .i64 0, .int .i64 0, .bool false, .int .i64 0, .int .i64 0, .int .i64 0, .bool false, .int .i64 0, .int .i64 0, .int .i64 0, .int .i64 0, .bool false, .int .i64 0, .int .i64 0, .int .i64 0, .bool false, .int .i64 0, .int .i64 0, .int .i64 0, .int .i64 0, .bool false, .int .i64 0, .int .i64 0, .int .i64 0, .bool false, .int .i64 0, .int .i64 0, .int .i64 0, .int .i64 0, .bool false, .int .i64 0, .int .i64 0, .int .i64 0, .bool false, .int .i64 0, .int .i64 0, .pointer (some ⟨vp, 0, none⟩), .pointer (some ⟨r, 0, none⟩), .pointer (some ⟨vb, 0, none⟩), .pointer (some ⟨lk, 0, none⟩), t, .int .i64 0]
/-- The drivers ahead of n are set on their way. -/
def DrvP (arr : Array Value) (n : Nat) : Prop := ∀ d : Nat, d < n → ∀ j : Nat, j < 9 → arr[3 + d * 9 + j]? = (drvA (16 + (d : Int)) (49 + (d : Int)) false 1 6 0 false)[j]?
theorem FlashIs.new' {w w' : World} {f g : Nat} {cnt : Int} {first : Value} (h : FlashIs w f g cnt first) (hk : Keeps [] w w') : FlashIs w' f g cnt first := by
  obtain ⟨cur, h1, h2⟩ := h.row
  exact ⟨hk.heap h.top (by simp), cur, hk.heap h1 (by simp), h2⟩
theorem SchIs.new {lo : Nat} {w w' : World} {t wh k : Nat} (h : SchIs lo w t wh k) (hk : Keeps [] w w') : SchIs lo w' t wh k := by
  obtain ⟨sv, L, h1, h2, h3⟩ := h.ex
  refine ⟨sv, L, hk.heap h1 (by simp), own_new h2 hk, fun i hi => ?_⟩
  obtain ⟨c, e1, e2, e3⟩ := h3 i hi
  exact ⟨c, e1, hk.heap e2 (by simp), e3⟩
theorem keeps_out {S T U : List Nat} {w W0 W : World} (h1 : Keeps S w W0) (h2 : Keeps T W0 W) (hS : ∀ x ∈ S, x ∈ U) (hT : ∀ x ∈ T, x ∈ U ∨ w.heap.size ≤ x) : Keeps U w W :=
  ⟨h2.os.trans h1.os, h2.tape.trans h1.tape, h2.output.trans h1.output, Nat.le_trans h1.size h2.size, fun k hk hu => by
    rw [h2.block k (Nat.lt_of_lt_of_le hk h1.size) (fun hm => by
      rcases hT k hm with e | e
      · exact hu e
      · omega)]
    exact h1.block k hk (fun hm => hu (hS k hm))⟩
theorem keeps9h (W : World) (x o : Nat) (a b c d e f g h i : Value) : Keeps [x] W (((((((((W.setCell ⟨x, o, none⟩ a).setCell ⟨x, o + 1, none⟩ b).setCell ⟨x, o + 2, none⟩ c).setCell ⟨x, o + 3, none⟩ d).setCell ⟨x, o + 4, none⟩ e).setCell ⟨x, o + 5, none⟩ f).setCell ⟨x, o + 6, none⟩ g).setCell ⟨x, o + 7, none⟩ h).setCell ⟨x, o + 8, none⟩ i) := by
  repeat (refine Keeps.setCell ?_ (by simp) _)
  exact Keeps.refl _ _
theorem there9 {w : World} {h n : Nat} {arr : Array Value} (hh : w.heap[h]? = some (.cells arr 94 (0, 0))) (hs : arr.size = 54) (hn : n < 5) : ∀ j : Nat, j < 9 → ∃ v, w.cell? ⟨h, 3 + n * 9 + j, none⟩ = some v := fun j hj =>
  ⟨_, by rw [cell_of_row w h _ arr 94 (0, 0) hh]; exact Array.getElem?_eq_getElem (by omega)⟩
/-- The first n drivers are given up, the others on their way. -/
def base (n : Nat) : Nat → Int × Int := fun d => if d < n then (8, 0) else (6, 0)
def stS : Nat → Int × Int
  | 0 => (6, 0)
  | 1 => (6, 1)
  | 2 => (6, 2)
  | 3 => (7, 0)
  | _ => (8, 0)
def cur (n i : Nat) : Nat → Int × Int := fun d => if d = n then stS i else base n d
theorem cur_self (n i : Nat) : cur n i n = stS i := by simp [cur]
theorem cur_zero (n : Nat) : base n = cur n 0 := by
  funext d
  by_cases h : d = n
  · simp [cur, base, stS, h]
  · simp [cur, h]
theorem cur_upd (n i : Nat) (v : Int × Int) (hv : v = stS (i + 1)) : updS (cur n i) n v = cur n (i + 1) := by
  funext d
  by_cases h : d = n
  · simp [cur, updS, h, hv]
  · simp [cur, updS, h]
theorem cur_four (n : Nat) : cur n 4 = base (n + 1) := by
  funext d
  by_cases h : d = n
  · simp [cur, base, stS, h]
  · by_cases h2 : d < n
    · simp [cur, base, h, h2, show d < n + 1 by omega]
    · simp [cur, base, h, h2, show ¬ d < n + 1 by omega]
theorem stS_nx {i : Nat} (hi : i < 4) : ∃ f st fl st' fl', stS i = (st, fl) ∧ stS (i + 1) = (st', fl') ∧ Nx st fl st' fl' f ∧ (st = 6 ∨ st = 7) ∧ 0 ≤ fl ∧ fl ≤ 2 := by
  obtain rfl | rfl | rfl | rfl : i = 0 ∨ i = 1 ∨ i = 2 ∨ i = 3 := by omega
  · exact ⟨_, _, _, _, _, rfl, rfl, .a, by simp, by simp, by simp⟩
  · exact ⟨_, _, _, _, _, rfl, rfl, .b, by simp, by simp, by simp⟩
  · exact ⟨_, _, _, _, _, rfl, rfl, .c, by simp, by simp, by simp⟩
  · exact ⟨_, _, _, _, _, rfl, rfl, .d, by simp, by simp, by simp⟩
/-- How many transactions there were. -/
def cnt (w : World) (b : Nat) : Nat := match w.cell? ⟨b, 2, none⟩ with | some v => (intOf v).toNat | none => 0
theorem cnt_of {w : World} {b : Nat} {c : Int} (h : BusIs w b c) : cnt w b = c.toNat := by
  obtain ⟨m, h1, _⟩ := h
  rw [cnt, (cell_at h1 (p := 2) rfl).1]
  rfl
structure PreIs (A : Array Value) (h n : Nat) (w : World) : Prop where
  ex : ∃ arr, w.heap[h]? = some (.cells arr 94 (0, 0)) ∧ arr.size = 54 ∧ (∀ j, (j < 3 ∨ 48 ≤ j) → arr[j]? = A[j]?) ∧ DrvP arr n
theorem PreIs.new {A : Array Value} {h n : Nat} {w w' : World} (H : PreIs A h n w) (hk : Keeps [] w w') : PreIs A h n w' := by
  obtain ⟨arr, h1, h2⟩ := H.ex
  exact ⟨arr, hk.heap h1 (by simp), h2⟩
theorem PreIs.set {A : Array Value} {h n : Nat} {w : World} (H : PreIs A h n w) (hn : n < 5) : PreIs A h (n + 1) (w.setCells h (3 + n * 9) (drvA (16 + (n : Int)) (49 + (n : Int)) false 1 6 0 false).toList) ∧ Keeps [h] w (w.setCells h (3 + n * 9) (drvA (16 + (n : Int)) (49 + (n : Int)) false 1 6 0 false).toList) := by
  obtain ⟨arr, h1, h2, h2', h2''⟩ := H.ex
  have hl : (drvA (16 + (n : Int)) (49 + (n : Int)) false 1 6 0 false).toList.length = 9 := rfl
  have hkk : Keeps [h] w (w.setCells h (3 + n * 9) (drvA (16 + (n : Int)) (49 + (n : Int)) false 1 6 0 false).toList) := keeps_setCells (.inl (by simp)) _ _ _ (Keeps.refl _ _)
  obtain ⟨arr', e1, e2, e3, e4⟩ := heap_setCells (b := h) (t := 94) (fr := (0, 0)) (drvA (16 + (n : Int)) (49 + (n : Int)) false 1 6 0 false).toList (3 + n * 9) w arr h1 (by rw [hl, h2]; omega)
  rw [hl] at e4
  refine ⟨⟨arr', e1, by rw [e2, h2], fun j hj => by rw [e4 j (by omega)]; exact h2' j hj, fun d hd5 j hj => ?_⟩, hkk⟩
  by_cases hdk : d = n
  · subst hdk
    have hj' : j < (drvA (16 + (d : Int)) (49 + (d : Int)) false 1 6 0 false).toList.length := by rw [hl]; exact hj
    rw [e3 j _ (List.getElem?_eq_getElem hj'), ← Array.getElem?_toList, List.getElem?_eq_getElem hj']
  · rw [e4 _ (by omega)]
    exact h2'' d (by omega) j hj
theorem hub_made {own : Nat → Prop} {b f g s vp r vb lk t wh h lo : Nat} {cnt : Int} {c : Int} {w9 W : World} (hn : NewIs (hub0 b f s vp r vb lk (.pointer (some ⟨t, 0, none⟩))) h b r (base 5) c W) (hk : Keeps [h, b] w9 W) (hh9 : ∃ cs fr, w9.heap[h]? = some (.cells cs 94 fr)) (hb9 : ∃ cs fr, w9.heap[b]? = some (.cells cs 112 fr))
    (hf : FlashIs w9 f g cnt head1) (hr : w9.heap[r]? = some (.cells #[.slice none 0 0, .func (.func 79) #[] #[]] 210 (0, 0))) (hl : w9.heap[lk]? = some (.cells (lkA (.slice none 0 0) 0 0 (.pointer none)) 150 (0, 0))) (hs : SchIs lo w9 t wh 6)
    (ho : ∀ k, lo ≤ k → k < W.heap.size → own k) (hoh : own h) (hor : own r) (hol : own lk) : HubIs own h 0 0 ⟨[], 0⟩ none W := by
  have hS : ∀ x ∈ [h, b], ∃ cs u fr, w9.heap[x]? = some (Obj.cells cs u fr) ∧ (u = 94 ∨ u = 112) := fun x hx => by
    simp only [List.mem_cons, List.not_mem_nil, or_false] at hx
    rcases hx with rfl | rfl
    · obtain ⟨cs, fr, e⟩ := hh9; exact ⟨cs, _, fr, e, .inl rfl⟩
    · obtain ⟨cs, fr, e⟩ := hb9; exact ⟨cs, _, fr, e, .inr rfl⟩
  have hT : ∀ x ∈ [h, b], ∀ cs u fr, w9.heap[x]? = some (Obj.cells cs u fr) → u = 94 ∨ u = 112 := fun x hx cs u fr e => by
    obtain ⟨cs', u', fr', e', h'⟩ := hS x hx
    rw [e'] at e
    simp only [Option.some.injEq, Obj.cells.injEq] at e
    rw [← e.2.1]; exact h'
  obtain ⟨arr, h1, h2, h3, h4⟩ := hn.ex
  obtain ⟨sv, L, s1, s2, s3⟩ := hs.ex
  refine ⟨⟨arr, f, r, lk, t, _, _, h1, h2, (h3 1 (.inl (by omega))).trans rfl, (h3 49 (.inr (by omega))).trans rfl, (h3 51 (.inr (by omega))).trans rfl, (h3 52 (.inr (by omega))).trans rfl, (h3 53 (.inr (by omega))).trans rfl, fun d hd => ⟨false, 1, by omega, by omega, fun j hj => ?_⟩,
    hk.heap hf.top (fun hm => by rcases hT _ hm _ _ _ hf.top with e | e <;> simp at e), ⟨⟨.slice none 0 0, 0, [], Nat.le_refl _, hk.heap hr (fun hm => by rcases hT _ hm _ _ _ hr with e | e <;> simp at e), World.ownsRow_nil _ _ _ _, fun g e => by simp [Value.ownBlock] at e⟩, hor⟩,
    ⟨⟨.slice none 0 0, 0, .pointer none, hk.heap hl (fun hm => by rcases hT _ hm _ _ _ hl with e | e <;> simp at e), ⟨World.ownsRow_nil _ _ _ _, fun g e => by simp [Value.ownBlock] at e⟩, rfl⟩, hol⟩, ?_⟩, hoh⟩
  · have := h4 d hd j hj
    rwa [base, if_pos hd] at this
  · obtain ⟨hlen, hrow⟩ := s2
    rcases hrow with ⟨_, e⟩ | ⟨ev, cap, cur, e1, e2, e3, e4, e5, e6, e7⟩
    · omega
    · subst e1
      refine ⟨ev, cap, _, _, cur, hk.heap s1 (fun hm => by rcases hT _ hm _ _ _ s1 with e | e <;> simp at e), e4, hk.heap e3 (fun hm => by rcases hT _ hm _ _ _ e3 with e | e <;> simp at e), fun i hi => ?_⟩
      obtain ⟨c, c1, c2, c3⟩ := s3 i hi
      have hc : W.heap[c]? = some (.chan 1 #[] false 0 0 false) := hk.heap c2 (fun hm => by
        obtain ⟨_, _, _, e, _⟩ := hS c hm
        rw [c2] at e
        simp at e)
      refine ⟨c, #[], 0, 0, ?_, hc, by simp, ho c c3 (lt_of_block hc)⟩
      rw [← e7, List.getElem?_take, if_pos (by omega)] at c1
      simpa using c1
set_option maxHeartbeats 6400000 in
set_option maxRecDepth 100000 in
theorem hnew_ok {b f g : Nat} {w : World} (hb : BusIs w b 0) (hf : FlashIs w f g 0 ffs) (hbf : b ≠ f ∧ b ≠ g) :
    Calls Tryz.prog 27 #[.pointer (some ⟨b, 0, none⟩), .pointer (some ⟨f, 0, none⟩)] w fun e w' => ∃ h, e = .returned (.tuple #[.pointer (some ⟨h, 0, none⟩), .int .i64 0]) ∧ (∀ own : Nat → Prop, (∀ k, w.heap.size ≤ k → k < w'.heap.size → own k) → HubIs own h 0 0 ⟨[], 0⟩ none w') ∧ Keeps [b, f, g] w w' := by
  have HOP := Go.Lib.hid (open_ok hf (by omega) (by omega))
  have HBW := Go.Lib.hid (fun (W : World) (hk : Keeps [f, g] w W) => (show BusIs W b 0 by
    obtain ⟨m, e1, e2⟩ := hb
    obtain ⟨cur, g1, _⟩ := hf.row
    refine ⟨m, hk.heap e1 (by simp; exact hbf), e2.keeps hk (fun hm => ?_)⟩
    obtain ⟨es, clk, e, _⟩ := e2
    simp only [List.mem_cons, List.not_mem_nil, or_false] at hm
    rcases hm with rfl | rfl
    · rw [hf.top] at e; simp at e
    · rw [g1] at e; simp at e))
  clear hf hb
  go_enter Tryz.func27, Tryz.ntmps27
  go_wp2_with fail
  refine HOP.out.mono ?_
  rintro e w1 ⟨s, rfl, hs1, hf1, hsw, hk1⟩
  have HS1 := Go.Lib.hid hs1
  have HF1 := Go.Lib.hid hf1
  have HK1 := Go.Lib.hid hk1
  have HB1 := Go.Lib.hid (HBW.out _ hk1)
  clear HBW hs1 hf1 hsw hk1 HOP
  go_wp2_with fail
  refine (pipe_new _).mono ?_
  rintro e w2 ⟨⟨vp, rfl⟩, hk2⟩
  have HK2 := Go.Lib.hid hk2
  clear hk2
  go_wp2_with fail
  refine (rate_new _).mono ?_
  rintro e w3 ⟨r, rfl, hr3, hrw, hk3⟩
  have HR3 := Go.Lib.hid (And.intro hr3 (Nat.le_trans HK2.out.size hrw))
  have HK3 := Go.Lib.hid (HK2.out.trans hk3)
  clear hk3 hr3 hrw HK2
  go_wp2_with fail
  refine (batch_new _).mono ?_
  rintro e w4 ⟨⟨vb, rfl⟩, hk4⟩
  have HK4 := Go.Lib.hid hk4
  clear hk4
  go_wp2_with fail
  refine (lnew_ok _).mono ?_
  rintro e w5 ⟨lk, rfl, hl5, hlw, hk5⟩
  have HL5 := Go.Lib.hid (And.intro hl5 (Nat.le_trans (HK3.out.trans HK4.out).size hlw))
  have HK5 := Go.Lib.hid (HK4.out.trans hk5)
  clear hk5 hl5 hlw HK4
  go_upto_region 7 with fail
  obtain ⟨h, hh⟩ : ∃ h, h = w5.heap.size := ⟨_, rfl⟩
  obtain ⟨w6, hw6⟩ : ∃ w6, w6 = w5.alloc (.cells (hub0 b f s vp r vb lk (.pointer none)) 94) := ⟨_, rfl⟩
  have hw6' := hw6
  unfold hub0 at hw6'
  rw [← hw6', ← hh]
  have HHX : Hid (w5.heap.size ≤ h) := Go.Lib.hid (Nat.le_of_eq hh.symm)
  have HH6 : Hid (w6.heap[h]? = some (.cells (hub0 b f s vp r vb lk (.pointer none)) 94 (0, 0))) := Go.Lib.hid (by rw [hw6, hh]; exact heap_alloc_new _ _)
  have HA6 : Hid (Keeps [] w5 w6) := Go.Lib.hid (by rw [hw6]; exact (Keeps.refl _ _).alloc _)
  have HK6 : Hid (Keeps [] w3 w6) := Go.Lib.hid (by rw [hw6]; exact HK5.out.alloc _)
  clear hh hw6 hw6'
  go_wp2_with fail
  refine (sched_new _).mono ?_
  rintro e w7 ⟨t, wh, rfl, hsch, htw, hk7⟩
  have hh7 := hk7.heap HH6.out (by simp)
  have c52 := (cell_at hh7 (p := 52) rfl).1
  have f52 := (cell_at hh7 (p := 52) rfl).2
  have HH8 : Hid ((w7.setCell ⟨h, 52, none⟩ (.pointer (some ⟨t, 0, none⟩))).heap[h]? = some (.cells (hub0 b f s vp r vb lk (.pointer (some ⟨t, 0, none⟩))) 94 (0, 0))) := Go.Lib.hid ((heap_setCell_self hh7).trans (by simp [hub0]))
  have HSC := Go.Lib.hid (And.intro hsch (Nat.le_trans (HK1.out.size) (Nat.le_trans (HK3.out.trans HK6.out).size htw)))
  have HK7 := Go.Lib.hid (HK6.out.trans hk7)
  have HA7 := Go.Lib.hid (HA6.out.trans hk7)
  have HH7 := Go.Lib.hid hh7
  clear hsch htw hk7 hh7
  go_upto_region 8 with fail
  obtain ⟨w8, hw8⟩ : ∃ w8, w8 = w7.setCell ⟨h, 52, none⟩ (.pointer (some ⟨t, 0, none⟩)) := ⟨_, rfl⟩
  rw [← hw8] at HH8 ⊢
  have hk78 : Keeps [h] w7 w8 := by rw [hw8]; exact (Keeps.refl _ _).setCell (by simp) _
  have HK8 : Hid (Keeps [] w3 w8) := Go.Lib.hid (by rw [hw8]; exact HK7.out.setNew (by simp; have := HHX.out; have := HK5.out.size; omega) _)
  have HA8 : Hid (Keeps [] w5 w8) := Go.Lib.hid (by rw [hw8]; exact HA7.out.setNew (by simp; have := HHX.out; omega) _)
  have HSC8 : Hid (SchIs w6.heap.size w8 t wh 6) := Go.Lib.hid (by
    obtain ⟨sv, L, h1, h2, h3⟩ := HSC.out.1.ex
    refine ⟨sv, L, hk78.heap h1 (fun hm => ?_), own_kept h2 (fun i cs fr hi => hk78.heap hi (fun hm => ?_)), fun i hi => ?_⟩
    · rw [List.mem_singleton.1 hm, HH7.out] at h1; simp at h1
    · rw [List.mem_singleton.1 hm, HH7.out] at hi; simp at hi
    · obtain ⟨c, e1, e2, e3⟩ := h3 i hi
      exact ⟨c, e1, hk78.heap e2 (fun hm => by rw [List.mem_singleton.1 hm, HH7.out] at e2; simp at e2), e3⟩)
  clear hw8 hk78 c52 f52
  go_wp2_with fail
  refine (storeall_ok (HF1.out.new' (HK3.out.trans HK8.out)) ((HK3.out.trans HK8.out).heap HS1.out (by simp))).mono ?_
  rintro e w9 ⟨rfl, hk9⟩
  have HK9 := Go.Lib.hid (HK8.out.trans hk9)
  have HA9 := Go.Lib.hid (HA8.out.trans hk9)
  have HP0 : Hid (PreIs (hub0 b f s vp r vb lk (.pointer (some ⟨t, 0, none⟩))) h 0 w9) := Go.Lib.hid ⟨_, hk9.heap HH8.out (by simp), rfl, fun j hj => rfl, fun d hd => absurd hd (by omega)⟩
  have HSC9 := Go.Lib.hid (HSC8.out.new hk9)
  clear hk9 HSC8 HH8 HH6 HH7
  go_wp2_with fail
  go_loopw [48] (fun s48 wx => s48 = .int .i64 0 ∧ wx = w9) (fun _ _ => 0)
  case atStart => exact ⟨rfl, rfl⟩
  case round =>
    obtain ⟨rfl, hwx⟩ := hrel
    have hwx' := hwx.symm
    subst hwx'
    clear hwx
    go_wp2_with fail
    go_loopw [11] (fun s11 wx => ∃ n : Nat, n ≤ 5 ∧ s11 = .int .i64 ((n : Int) + 1) ∧ Hid (PreIs (hub0 b f s vp r vb lk (.pointer (some ⟨t, 0, none⟩))) h n wx ∧ Keeps [h] w9 wx)) (fun s11 _ => 6 - (intOf s11).toNat)
    case atStart => exact ⟨0, by omega, rfl, Go.Lib.hid ⟨HP0.out, Keeps.refl _ _⟩⟩
    case round =>
      obtain ⟨n, hn5, rfl, HN⟩ := hrel
      by_cases hn : n < 5
      · have HAT := Go.Lib.hid (hat_ok (h := h) hn)
        have HNW := Go.Lib.hid (fun W => drv_new (a := 16 + (n : Int)) (id := 49 + (n : Int)) (by omega) (by omega) (by omega) (by omega) W)
        unfold drvA at HNW
        go_wp2_with fail
        rw [show 16 + ((n : Int) + 1) - 1 = 16 + (n : Int) by omega, show 49 + ((n : Int) + 1) - 1 = 49 + (n : Int) by omega]
        refine (HNW.out _).mono ?_
        rintro e wk ⟨rfl, hk⟩
        have HKN := Go.Lib.hid hk
        clear hk HNW
        go_upto_region 18 with fail
        obtain ⟨y, hy⟩ : ∃ y, y = wk.heap.size := ⟨_, rfl⟩
        obtain ⟨wy, hwy⟩ : ∃ wy, wy = wk.alloc (.cells #[.int .i64 (16 + (n : Int)), .int .i64 (49 + (n : Int)), .bool false, .int .i64 1, .int .i64 6, .int .i64 0, .bool false, .int .i64 0, .int .i64 0] 85) := ⟨_, rfl⟩
        rw [← hwy, ← hy]
        have hky : Keeps [] wr wy := by rw [hwy]; exact HKN.out.alloc _
        have HYY : Hid (wy.heap[y]? = some (.cells #[.int .i64 (16 + (n : Int)), .int .i64 (49 + (n : Int)), .bool false, .int .i64 1, .int .i64 6, .int .i64 0, .bool false, .int .i64 0, .int .i64 0] 85 (0, 0))) := Go.Lib.hid (by rw [hwy, hy]; exact heap_alloc_new _ _)
        have HPY := Go.Lib.hid (HN.out.1.new hky)
        have HKY := Go.Lib.hid hky
        obtain ⟨arr, hh, hs, ha, hd⟩ := HPY.out.ex
        have HYH : Hid (y ∉ [h]) := Go.Lib.hid (fun hm => by
          have := HYY.out
          rw [List.mem_singleton.1 hm, hh] at this
          simp at this)
        have kc : ∀ W : World, Keeps [h] wy W → W.cell? ⟨y, 0, none⟩ = some (.int .i64 (16 + (n : Int))) ∧ W.cell? ⟨y, 1, none⟩ = some (.int .i64 (49 + (n : Int))) ∧ W.cell? ⟨y, 2, none⟩ = some (.bool false) ∧ W.cell? ⟨y, 3, none⟩ = some (.int .i64 1) ∧ W.cell? ⟨y, 4, none⟩ = some (.int .i64 6) ∧ W.cell? ⟨y, 5, none⟩ = some (.int .i64 0) ∧ W.cell? ⟨y, 6, none⟩ = some (.bool false) ∧ W.cell? ⟨y, 7, none⟩ = some (.int .i64 0) ∧ W.cell? ⟨y, 8, none⟩ = some (.int .i64 0) := fun W hW => cells9 (hW.heap HYY.out HYH.out)
        have KC := Go.Lib.hid kc
        have fz := fun j => frozen_of_row wy h j arr 94 hh
        have f0 := fz (3 + n * 9)
        have f1 := fz (3 + n * 9 + 1)
        have f2 := fz (3 + n * 9 + 2)
        have f3 := fz (3 + n * 9 + 3)
        have f4 := fz (3 + n * 9 + 4)
        have f5 := fz (3 + n * 9 + 5)
        have f6 := fz (3 + n * 9 + 6)
        have f7 := fz (3 + n * 9 + 7)
        have f8 := fz (3 + n * 9 + 8)
        have th := there9 hh hs hn
        obtain ⟨v0, t0'⟩ := th 0 (by omega)
        have t0 : wy.cell? ⟨h, 3 + n * 9, none⟩ = some v0 := t0'
        clear t0'
        obtain ⟨v1, t1⟩ := th 1 (by omega)
        obtain ⟨v2, t2⟩ := th 2 (by omega)
        obtain ⟨v3, t3⟩ := th 3 (by omega)
        obtain ⟨v4, t4⟩ := th 4 (by omega)
        obtain ⟨v5, t5⟩ := th 5 (by omega)
        obtain ⟨v6, t6⟩ := th 6 (by omega)
        obtain ⟨v7, t7⟩ := th 7 (by omega)
        obtain ⟨v8, t8⟩ := th 8 (by omega)
        obtain ⟨hset, hks⟩ := HPY.out.set hn
        have HSET := Go.Lib.hid hset
        have HKS := Go.Lib.hid hks
        clear hwy hy hky hh hs ha hd kc fz th hset hks
        go_region_held3 (fun W => W.cell? ⟨y, 0, none⟩ = some (.int .i64 (16 + (n : Int))) ∧ W.cell? ⟨y, 1, none⟩ = some (.int .i64 (49 + (n : Int))) ∧ W.cell? ⟨y, 2, none⟩ = some (.bool false) ∧ W.cell? ⟨y, 3, none⟩ = some (.int .i64 1) ∧ W.cell? ⟨y, 4, none⟩ = some (.int .i64 6) ∧ W.cell? ⟨y, 5, none⟩ = some (.int .i64 0) ∧ W.cell? ⟨y, 6, none⟩ = some (.bool false) ∧ W.cell? ⟨y, 7, none⟩ = some (.int .i64 0) ∧ W.cell? ⟨y, 8, none⟩ = some (.int .i64 0))
          (first | with_reducible exact KC.out _ (Keeps.refl [h] wy).drew | with_reducible exact KC.out _ (keeps9h _ _ _ _ _ _ _ _ _ _ _ _).drew | with_reducible exact KC.out _ (keeps9h _ _ _ _ _ _ _ _ _ _ _ _) | fail)
          ((go_at_call 53; (refine (HAT.out _).mono ?_; rintro e w' ⟨rfl, rfl⟩)))
        obtain ⟨wz, hwz⟩ : ∃ wz, wz = wy.setCells h (3 + n * 9) (drvA (16 + (n : Int)) (49 + (n : Int)) false 1 6 0 false).toList := ⟨_, rfl⟩
        rw [← hwz] at HSET HKS
        rw [show ((((((((wy.setCell ⟨h, 3 + n * 9, none⟩ (.int .i64 (16 + (n : Int)))).setCell ⟨h, 3 + n * 9 + 1, none⟩ (.int .i64 (49 + (n : Int)))).setCell ⟨h, 3 + n * 9 + 2, none⟩ (.bool false)).setCell ⟨h, 3 + n * 9 + 3, none⟩ (.int .i64 1)).setCell ⟨h, 3 + n * 9 + 4, none⟩ (.int .i64 6)).setCell ⟨h, 3 + n * 9 + 5, none⟩ (.int .i64 0)).setCell ⟨h, 3 + n * 9 + 6, none⟩ (.bool false)).setCell ⟨h, 3 + n * 9 + 7, none⟩ (.int .i64 0)).setCell ⟨h, 3 + n * 9 + 8, none⟩ (.int .i64 0) = wz from hwz.symm]
        have HE : Hid (PreIs (hub0 b f s vp r vb lk (.pointer (some ⟨t, 0, none⟩))) h (n + 1) wz.drew ∧ Keeps [h] w9 wz.drew) := Go.Lib.hid ⟨HSET.out.new (Keeps.refl _ _).drew, ((HN.out.2.trans (HKY.out.mono (by simp))).trans HKS.out).drew⟩
        clear hwz f0 f1 f2 f3 f4 f5 f6 f7 f8 t0 t1 t2 t3 t4 t5 t6 t7 t8
        go_wp2_with fail
        exact ⟨⟨n + 1, by omega, by go_num, HE⟩, by simp [intOf]; omega⟩
      · have hn55 : n = 5 := by omega
        have d0 : decide ((n : Int) + 1 ≤ 5) = false := decide_eq_false (by omega)
        have HB5 : Hid (NewIs (hub0 b f s vp r vb lk (.pointer (some ⟨t, 0, none⟩))) h b r (base 0) 0 wr ∧ Keeps [h, b] w9 wr) := Go.Lib.hid ⟨by
          obtain ⟨arr, h1, h2, h3, h4⟩ := HN.out.1.ex
          obtain ⟨arr0, h0, _⟩ := HP0.out.ex
          refine ⟨⟨arr, h1, h2, h3, fun d hd j hj => h4 d (by omega) j hj⟩, ⟨_, HN.out.2.heap (HK9.out.heap HR3.out.1 (by simp)) (fun hm => ?_)⟩, ?_⟩
          · have := HK9.out.heap HR3.out.1 (by simp)
            rw [List.mem_singleton.1 hm, h0] at this
            simp at this
          · obtain ⟨m, e1, e2⟩ := HB1.out.new (HK3.out.trans HK9.out)
            refine ⟨m, HN.out.2.heap e1 (fun hm => ?_), e2.keeps HN.out.2 (fun hm => ?_)⟩
            · rw [List.mem_singleton.1 hm, h0] at e1
              simp at e1
            · obtain ⟨es, clk, e, _⟩ := e2
              rw [List.mem_singleton.1 hm, h0] at e
              simp at e, HN.out.2.mono (by simp)⟩
        clear HN hn55
        go_wp2_with fail
        clear d0
        go_loopw [14] (fun s14 wx => ∃ n : Nat, n ≤ 5 ∧ s14 = .int .i64 ((n : Int) + 1) ∧ Hid (NewIs (hub0 b f s vp r vb lk (.pointer (some ⟨t, 0, none⟩))) h b r (base n) (4 * (n : Int)) wx ∧ Keeps [h, b] w9 wx)) (fun s14 _ => 6 - (intOf s14).toNat)
        case atStart => exact ⟨0, by omega, rfl, HB5⟩
        case round =>
          obtain ⟨n, hn5, rfl, HN⟩ := hrel
          by_cases hn : n < 5
          · have d1 : decide ((n : Int) + 1 ≤ 5) = true := decide_eq_true (by omega)
            go_wp2_with fail
            go_loopw [84] (fun _ wx => ∃ i : Nat, i ≤ 4 ∧ Hid (NewIs (hub0 b f s vp r vb lk (.pointer (some ⟨t, 0, none⟩))) h b r (cur n i) (4 * (n : Int) + i) wx ∧ Keeps [h, b] w9 wx)) (fun _ wx => 4 * n + 4 - cnt wx b)
            case atStart => exact ⟨0, by omega, Go.Lib.hid ⟨by rw [← cur_zero]; simpa using HN.out.1, HN.out.2⟩⟩
            case round =>
              obtain ⟨i, hi4, HI⟩ := hrel
              by_cases hi : i < 4
              · obtain ⟨fl1, st, fl, st', fl', hs1, hs2, hnx, hst, hf1, hf2⟩ := stS_nx hi
                go_wp2_with fail
                refine (busy_ok HI.out.1 hn (by rw [cur_self, hs1]) hst hf1 hf2).mono ?_
                rintro e wb ⟨rfl, hkb⟩
                have HIB := Go.Lib.hid (HI.out.1.new hkb)
                have HKB := Go.Lib.hid (HI.out.2.trans (hkb.mono (by simp)))
                clear hkb
                go_wp2_with fail
                refine (drive_ok HIB.out ⟨rfl, rfl, ⟨_, rfl⟩, rfl⟩ hn (by rw [cur_self, hs1]) hnx (by omega) (by omega)).mono ?_
                rintro e wd ⟨⟨vd, rfl⟩, hnd, hkd⟩
                rw [cur_upd n i _ hs2.symm] at hnd
                have HID : Hid (NewIs (hub0 b f s vp r vb lk (.pointer (some ⟨t, 0, none⟩))) h b r (cur n (i + 1)) (4 * (n : Int) + ((i + 1 : Nat) : Int)) wd ∧ Keeps [h, b] w9 wd) := Go.Lib.hid ⟨by rw [show 4 * (n : Int) + ((i + 1 : Nat) : Int) = 4 * (n : Int) + i + 1 by omega]; exact hnd, HKB.out.trans hkd⟩
                clear hnd hkd
                go_wp2_with fail
                have e1 := cnt_of HI.out.1.bus
                have e2 := cnt_of HID.out.1.bus
                exact ⟨⟨i + 1, by omega, HID⟩, by rw [e1, e2]; omega⟩
              · obtain rfl : i = 4 := by omega
                go_wp2_with fail
                refine (idle_ok (fl := 0) HI.out.1 hn (by rw [cur_self]; rfl) (by omega) (by omega)).mono ?_
                rintro e wb ⟨rfl, hkb⟩
                have HID : Hid (NewIs (hub0 b f s vp r vb lk (.pointer (some ⟨t, 0, none⟩))) h b r (base (n + 1)) (4 * ((n + 1 : Nat) : Int)) wb ∧ Keeps [h, b] w9 wb) := Go.Lib.hid ⟨by rw [← cur_four, show 4 * ((n + 1 : Nat) : Int) = 4 * (n : Int) + ((4 : Nat) : Int) by omega]; exact HI.out.1.new hkb, HI.out.2.trans (hkb.mono (by simp))⟩
                clear hkb
                go_wp2_with fail
                exact ⟨⟨n + 1, by omega, by go_num, HID⟩, by simp [intOf]; omega⟩
          · obtain rfl : n = 5 := by omega
            go_wp2_with fail
            go_ret2
            have z1 := HK1.out.size
            have z3 := HK3.out.size
            have z5 := HK5.out.size
            have z6 := HK6.out.size
            have zh := HHX.out
            have zr := HR3.out.2
            have zl := HL5.out.2
            obtain ⟨arr0, h0, _⟩ := HP0.out.ex
            obtain ⟨m0, hb0, _⟩ := HB1.out.new (HK3.out.trans HK9.out)
            refine ⟨h, rfl, fun own hown => ?_, ?_⟩
            · have zW := HN.out.1
              obtain ⟨arrW, hW, _⟩ := zW.ex
              obtain ⟨frW, hrW⟩ := zW.rate
              have hkl : w9.heap[lk]? = some (.cells (lkA (.slice none 0 0) 0 0 (.pointer none)) 150 (0, 0)) := HA9.out.heap HL5.out.1 (by simp)
              refine hub_made HN.out.1 HN.out.2 ⟨_, _, h0⟩ ⟨_, _, hb0⟩ (HF1.out.new' (HK3.out.trans HK9.out)) (HK9.out.heap HR3.out.1 (by simp)) hkl HSC9.out (fun k h1 h2 => hown k (by omega) h2) (hown h (by omega) (lt_of_block hW)) (hown r (by omega) (lt_of_block hrW)) (hown lk (by omega) ?_)
              exact Nat.lt_of_lt_of_le (lt_of_block hkl) HN.out.2.size
            · refine keeps_out (HK1.out.trans ((HK3.out.trans HK9.out).mono (by simp))) HN.out.2 (fun x hx => by simp at hx ⊢; exact .inr hx) (fun x hx => ?_)
              simp only [List.mem_cons, List.not_mem_nil, or_false] at hx
              rcases hx with rfl | rfl
              · exact .inr (by omega)
              · exact .inl (by simp)
end Go.Proofs.YtkhalpnonijogaaGreat
