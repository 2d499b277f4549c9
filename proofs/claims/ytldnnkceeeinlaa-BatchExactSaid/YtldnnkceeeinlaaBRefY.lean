/- 'Rising', the reference's 'MayPut' either way, 'CopyNumbers', the reference's 'Ready'. No condition but the rows'. -/
import Derived.Test.YtldnnkceeeinlaaBEq
import Derived.RegionTactic
namespace Go.Proofs.Ytldnnkceeeinlaa
open Go.RowKit

def OkC (cl : List Int) (i : Nat) : Prop := ∃ c, cl[i]? = some c ∧ 0 ≤ c ∧ c < 8 ∧ ∀ y, 0 < i → cl[i - 1]? = some y → y < c
def Ris (cl : List Int) : Prop := ∀ i, i < cl.length → OkC cl i
def okB (cl : List Int) (i : Nat) : Bool := decide (0 ≤ cl.getD i 0) && decide (cl.getD i 0 < 8) && (decide (i = 0) || decide (cl.getD (i - 1) 0 < cl.getD i 0))
def risB (cl : List Int) : Bool := (List.range cl.length).all (okB cl)
theorem okB_iff {cl : List Int} {i : Nat} (hi : i < cl.length) : okB cl i = true ↔ OkC cl i := by
  have h0 : cl[i]? = some (cl.getD i 0) := by rw [List.getD_eq_getElem?_getD, List.getElem?_eq_getElem hi]; rfl
  have h1 : cl[i - 1]? = some (cl.getD (i - 1) 0) := by rw [List.getD_eq_getElem?_getD, List.getElem?_eq_getElem (by omega)]; rfl
  simp only [okB, Bool.and_eq_true, Bool.or_eq_true, decide_eq_true_eq]
  refine ⟨fun h => ⟨_, h0, h.1.1, h.1.2, fun y hp hy => ?_⟩, fun h => ?_⟩
  · rw [h1] at hy
    obtain rfl := Option.some.inj hy
    rcases h.2 with h | h
    · omega
    · exact h
  · obtain ⟨c, hc, e1, e2, e3⟩ := h
    rw [h0] at hc
    obtain rfl := Option.some.inj hc
    refine ⟨⟨e1, e2⟩, ?_⟩
    by_cases hz : i = 0
    · exact .inl hz
    · exact .inr (e3 _ (by omega) h1)
theorem risB_iff (cl : List Int) : risB cl = true ↔ Ris cl := by
  unfold risB
  rw [List.all_eq_true]
  exact ⟨fun h i hi => (okB_iff hi).1 (h i (List.mem_range.2 hi)), fun h i hi => (okB_iff (List.mem_range.1 hi)).2 (h i (List.mem_range.1 hi))⟩
theorem risB_yes {cl : List Int} (h : Ris cl) : risB cl = true := (risB_iff cl).2 h
theorem risB_no {cl : List Int} (h : ¬ Ris cl) : risB cl = false := by
  cases hb : risB cl with
  | false => rfl
  | true => exact absurd ((risB_iff cl).1 hb) h

set_option maxHeartbeats 3200000 in
theorem zrising {cl : List Int} {A : Option Addr} {n c0 : Nat} (hn : n = cl.length) (w : World) (hA : Nums w A cl) (h9 : cl.length ≤ 100) :
    Calls Try.prog 42 #[.slice A n c0, .int .i64 0, .int .i64 8] w fun e w' => e = .returned (.bool (risB cl)) ∧ Keeps [] w w' := by
  have HA := Go.Lib.hid hA
  have HN := Go.Lib.hid hn
  have hm9 : n ≤ 100 := by omega
  clear hA hn
  go_enter Try.func42, Try.ntmps42
  go_upto_region 2 with fail
  go_loopw [7] (fun i wr => ∃ k : Nat, i = .int .i64 k ∧ k ≤ n ∧ Hid (∀ j, j < k → OkC cl j) ∧ Hid (Keeps [] w wr)) (fun i _ => n - (intOf i).toNat)
  case atStart => exact ⟨0, rfl, Nat.zero_le _, fun j h => by omega, Keeps.refl _ _⟩
  case round =>
    obtain ⟨k, rfl, hk, HO, HK⟩ := hrel
    by_cases hlt : k < n
    · have d1 : decide (k < n) = true := decide_eq_true hlt
      obtain ⟨c, hc⟩ : ∃ c, cl[k]? = some c := ⟨_, List.getElem?_eq_getElem (by have := HN.out; omega)⟩
      obtain ⟨a, rfl, a0⟩ := (HA.out.keeps0 HK.out) k c hc
      have HK2 : Hid (∀ n, Keeps [] w (wr.drewN n)) := fun n => HK.out.drewN n
      by_cases hc0 : c < 0
      · have d2 : decide (c < 0) = true := decide_eq_true hc0
        have HR : Hid (risB cl = false) := risB_no (fun h => by obtain ⟨c', h1, h2, _⟩ := h k (by have := HN.out; omega); rw [hc] at h1; obtain rfl := Option.some.inj h1; omega)
        clear hc
        go_wp2_with fail
        go_quiet (fail)
        go_wp2_with fail
        go_ret
        exact ⟨by rw [HR.out]; rfl, HK2.out _⟩
      · have d2 : decide (c < 0) = false := decide_eq_false hc0
        by_cases hc8 : 8 ≤ c
        · have d3 : decide (8 ≤ c) = true := decide_eq_true hc8
          have HR : Hid (risB cl = false) := risB_no (fun h => by obtain ⟨c', h1, h2, h3, _⟩ := h k (by have := HN.out; omega); rw [hc] at h1; obtain rfl := Option.some.inj h1; omega)
          clear hc
          go_wp2_with fail
          go_quiet (fail)
          go_wp2_with fail
          go_ret
          exact ⟨by rw [HR.out]; rfl, HK2.out _⟩
        · have d3 : decide (8 ≤ c) = false := decide_eq_false hc8
          by_cases hprev : 0 < k
          · have d6 : decide (0 < k) = true := decide_eq_true hprev
            obtain ⟨y, hy⟩ : ∃ y, cl[k - 1]? = some y := ⟨_, List.getElem?_eq_getElem (by have := HN.out; omega)⟩
            obtain ⟨a', ha', p0⟩ := (HA.out.keeps0 HK.out) (k - 1) y hy
            obtain rfl : a = a' := by simpa using ha'
            by_cases hcy : c ≤ y
            · have d5 : decide (c ≤ y) = true := decide_eq_true hcy
              have HR : Hid (risB cl = false) := risB_no (fun h => by obtain ⟨c', h1, h2, h3, h4⟩ := h k (by have := HN.out; omega); rw [hc] at h1; obtain rfl := Option.some.inj h1; have := h4 y hprev hy; omega)
              clear hc hy ha'
              go_wp2_with fail
              go_quiet (fail)
              go_wp2_with fail
              go_ret
              exact ⟨by rw [HR.out]; rfl, HK2.out _⟩
            · have d5 : decide (c ≤ y) = false := decide_eq_false hcy
              have HO2 : Hid (∀ j, j < k + 1 → OkC cl j) := fun j hj => by
                by_cases e : j = k
                · subst e
                  exact ⟨c, hc, by omega, by omega, fun z _ hz => by rw [hy] at hz; obtain rfl := Option.some.inj hz; omega⟩
                · exact HO.out j (by omega)
              clear hc hy ha'
              go_wp2_with fail
              go_quiet (fail)
              go_wp2_with fail
              exact ⟨⟨k + 1, by go_num, by omega, HO2, HK2.out _⟩, by simp [intOf]; omega⟩
          · have d6 : decide (0 < k) = false := decide_eq_false hprev
            have HO2 : Hid (∀ j, j < k + 1 → OkC cl j) := fun j hj => by
              by_cases e : j = k
              · subst e
                exact ⟨c, hc, by omega, by omega, fun z h0 _ => by omega⟩
              · exact HO.out j (by omega)
            clear hc
            go_wp2_with fail
            go_quiet (fail)
            go_wp2_with fail
            exact ⟨⟨k + 1, by go_num, by omega, HO2, HK2.out _⟩, by simp [intOf]; omega⟩
    · have d1 : decide (k < n) = false := decide_eq_false hlt
      have HR : Hid (risB cl = true) := risB_yes (fun i hi => HO.out i (by have := HN.out; omega))
      go_wp2_with fail
      go_ret
      exact ⟨by rw [HR.out]; rfl, HK.out⟩

def WOk (ws : List Int) (k : Nat) : Prop := ∀ i x, i < k → ws[i]? = some x → 0 ≤ x ∧ x ≤ 60000
theorem rising_of {cl ws : List Int} (h1 : cl.length = ws.length) (h2 : Ris cl) (h3 : WOk ws ws.length) : Rising cl ws := by
  refine ⟨h1, fun i hi => ?_⟩
  obtain ⟨c, hc, e1, e2, e3⟩ := h2 i hi
  obtain ⟨x, hx⟩ : ∃ x, ws[i]? = some x := ⟨_, List.getElem?_eq_getElem (by omega)⟩
  obtain ⟨f1, f2⟩ := h3 i x (by omega) hx
  exact ⟨c, x, hc, hx, e1, e2, f1, f2, e3⟩
theorem of_rising {cl ws : List Int} (h : Rising cl ws) : cl.length = ws.length ∧ Ris cl ∧ WOk ws ws.length := by
  refine ⟨h.1, fun i hi => ?_, fun i x hi hx => ?_⟩
  · obtain ⟨c, x, hc, hx, e1, e2, e3, e4, e5⟩ := h.2 i hi
    exact ⟨c, hc, e1, e2, e5⟩
  · obtain ⟨c, x', hc, hx', e1, e2, e3, e4, e5⟩ := h.2 i (by rw [h.1]; exact hi)
    rw [hx] at hx'
    obtain rfl := Option.some.inj hx'
    exact ⟨e3, e4⟩
def mayB (e : Ev) (cl ws : List Int) : Bool := decide (cl.length = ws.length) && risB cl && ws.all (fun x => decide (0 ≤ x) && decide (x ≤ 60000)) && (decide (0 ≤ e.t) && decide (e.t ≤ 1099511627776))
theorem mayB_iff (e : Ev) (cl ws : List Int) : mayB e cl ws = true ↔ MayPut e cl ws := by
  simp only [mayB, Bool.and_eq_true, decide_eq_true_eq, risB_iff, List.all_eq_true]
  refine ⟨fun h => ⟨rising_of h.1.1.1 h.1.1.2 (fun i x _ hx => h.1.2 x (List.mem_of_getElem? hx)), h.2⟩, fun h => ?_⟩
  obtain ⟨h1, h2, h3⟩ := of_rising h.1
  refine ⟨⟨⟨h1, h2⟩, fun x hx => ?_⟩, h.2⟩
  obtain ⟨i, hi⟩ := List.mem_iff_getElem?.1 hx
  exact h3 i x (List.getElem?_eq_some_iff.1 hi).1 hi
theorem mayB_yes {e : Ev} {cl ws : List Int} (h : MayPut e cl ws) : mayB e cl ws = true := (mayB_iff e cl ws).2 h
theorem mayB_no {e : Ev} {cl ws : List Int} (h : ¬ MayPut e cl ws) : mayB e cl ws = false := by
  cases hb : mayB e cl ws with
  | false => rfl
  | true => exact absurd ((mayB_iff e cl ws).1 hb) h

set_option maxHeartbeats 3200000 in
theorem mayput {w : World} {e : Ev} {cl ws : List Int} {A D : Option Addr} {n m c0 c1 : Nat} (hn : n = cl.length) (hm : m = ws.length) (hA : Nums w A cl) (hD : Nums w D ws) (h9 : cl.length ≤ 100) (h10 : ws.length ≤ 100) :
    Calls Try.prog 27 #[evA e, .slice A n c0, .slice D m c1] w fun e' w' => e' = .returned (.bool (mayB e cl ws)) ∧ Keeps [] w w' := by
  unfold evA
  go_enter Try.func27, Try.ntmps27
  go_upto_region 1 with fail
  obtain ⟨b5, hb5⟩ : ∃ b5, b5 = w.heap.size := ⟨_, rfl⟩
  obtain ⟨w0, hw0⟩ : ∃ w0, w0 = w.alloc (.cells (evs e).toArray 31) := ⟨_, rfl⟩
  rw [show (w.alloc (.cells #[.int .i64 e.s, .int .i64 e.t, .int .i64 e.v0, .int .i64 e.v1, .int .i64 e.v2, .int .i64 e.v3] 31)) = w0 from hw0.symm, ← hb5]
  have hk0 : Keeps [] w w0 := by rw [hw0]; exact (Keeps.refl _ _).alloc _
  have hx5 : w0.heap[b5]? = some (.cells (evs e).toArray 31 (0, 0)) := by rw [hw0, hb5]; exact heap_alloc_new _ _
  have HX5 := Go.Lib.hid hx5
  have HK0 := Go.Lib.hid hk0
  have HZ := Go.Lib.hid (zrising (c0 := c0) hn w0 (hA.keeps hk0 (by simp)) h9)
  have HD := Go.Lib.hid hD
  have HN := Go.Lib.hid hn
  have HM := Go.Lib.hid hm
  have hn9 : n ≤ 100 := by omega
  have hm9 : m ≤ 100 := by omega
  clear hk0 hx5 hw0 hb5 hA hD hn hm
  go_wp2_with fail
  refine HZ.out.mono ?_
  rintro e' w1 ⟨rfl, hk1⟩
  have HK1 := Go.Lib.hid (HK0.out.trans hk1)
  have e1 : w1.cell? ⟨b5, 1, none⟩ = some (.int .i64 e.t) := (cell_at (hk1.heap HX5.out (by simp)) rfl).1
  clear hk1
  rcases Decidable.em (risB cl = true) with hr | hr
  · have hri : Ris cl := by
      rcases Classical.em (Ris cl) with h | h
      · exact h
      · rw [risB_no h] at hr; cases hr
    have HRI := Go.Lib.hid hri
    rw [hr]
    clear hr hri
    by_cases hnm : n = m
    · have f1 : ((m : Int) != n) = false := by simp; omega
      have f2 : (m != n) = false := by simp; omega
      have HNM := Go.Lib.hid hnm
      clear hnm
      by_cases ht : 0 ≤ e.t ∧ e.t ≤ 1099511627776
      · obtain ⟨t0, t1⟩ := ht
        have HT := Go.Lib.hid (ztime_yes t0 t1 w1)
        go_wp2_with fail
        refine HT.out.mono ?_
        rintro e' w' ⟨rfl, rfl⟩
        go_upto_region 4 with fail
        go_loopw [7] (fun i wr => ∃ k : Nat, i = .int .i64 k ∧ k ≤ m ∧ Hid (WOk ws k) ∧ wr = w1) (fun i _ => m - (intOf i).toNat)
        case atStart => exact ⟨0, rfl, Nat.zero_le _, fun i x h => by omega, rfl⟩
        case round =>
          obtain ⟨k, rfl, hk, HO, rfl⟩ := hrel
          by_cases hlt : k < m
          · have d1 : decide (k < m) = true := decide_eq_true hlt
            obtain ⟨x, hx⟩ : ∃ x, ws[k]? = some x := ⟨_, List.getElem?_eq_getElem (by have := HM.out; omega)⟩
            obtain ⟨a, rfl, a0⟩ := (HD.out.keeps0 HK1.out) k x hx
            by_cases hx0 : x < 0
            · have d2 : decide (x < 0) = true := decide_eq_true hx0
              have HR : Hid (mayB e cl ws = false) := mayB_no (fun h => by have := (of_rising h.1).2.2 k x (by have := HM.out; omega) hx; omega)
              clear hx
              go_wp2_with fail
              go_ret
              exact ⟨by rw [HR.out]; rfl, HK1.out⟩
            · have d2 : decide (x < 0) = false := decide_eq_false hx0
              by_cases hx6 : 60000 < x
              · have d3 : decide (60000 < x) = true := decide_eq_true hx6
                have HR : Hid (mayB e cl ws = false) := mayB_no (fun h => by have := (of_rising h.1).2.2 k x (by have := HM.out; omega) hx; omega)
                clear hx
                go_wp2_with fail
                go_ret
                exact ⟨by rw [HR.out]; rfl, HK1.out⟩
              · have d3 : decide (60000 < x) = false := decide_eq_false hx6
                have HO2 : Hid (WOk ws (k + 1)) := fun i y hi hy => by
                  by_cases e : i = k
                  · subst e; rw [hx] at hy; obtain rfl := Option.some.inj hy; omega
                  · exact HO.out i y (by omega) hy
                clear hx
                go_wp2_with fail
                exact ⟨⟨k + 1, by go_num, by omega, HO2, trivial⟩, by simp [intOf]; omega⟩
          · have d1 : decide (k < m) = false := decide_eq_false hlt
            have hkm : k = ws.length := by have h2 := HM.out; omega
            have hwo : WOk ws ws.length := by rw [← hkm]; exact HO.out
            have hcw : cl.length = ws.length := by have h1 := HN.out; have h2 := HM.out; have h3 := HNM.out; omega
            have HR : Hid (mayB e cl ws = true) := mayB_yes ⟨rising_of hcw HRI.out hwo, t0, t1⟩
            clear hkm hwo hcw
            go_wp2_with fail
            go_ret
            exact ⟨by rw [HR.out]; rfl, HK1.out⟩
      · have HT := Go.Lib.hid (ztime_no (t := e.t) (by omega) w1)
        have HR : Hid (mayB e cl ws = false) := mayB_no (fun h => ht h.2)
        clear ht
        go_wp2_with fail
        refine HT.out.mono ?_
        rintro e' w' ⟨rfl, rfl⟩
        go_wp2_with fail
        go_ret
        exact ⟨by rw [HR.out]; rfl, HK1.out⟩
    · have f1 : ((m : Int) != n) = true := by simp; omega
      have f2 : (m != n) = true := by simp; omega
      have HR : Hid (mayB e cl ws = false) := mayB_no (fun h => hnm (by have h1 := HN.out; have h2 := HM.out; have h3 := h.1.1; omega))
      clear hnm
      go_wp2_with fail
      go_ret
      exact ⟨by rw [HR.out]; rfl, HK1.out⟩
  · have HR : Hid (mayB e cl ws = false) := mayB_no (fun h => hr (risB_yes (of_rising h.1).2.1))
    have hr2 : risB cl = false := by simpa using hr
    rw [hr2]
    clear hr hr2
    go_wp2_with fail
    go_ret
    exact ⟨by rw [HR.out]; rfl, HK1.out⟩
set_option maxHeartbeats 1600000 in
theorem copynums {l : List Int} {A : Option Addr} {n c0 : Nat} (hn : n = l.length) (w : World) (hA : Nums w A l) (h9 : l.length ≤ 100) :
    Calls Try.prog 29 #[.slice A n c0] w fun e w' => ∃ D c1, e = .returned (.slice D n c1) ∧ Nums w' D l ∧ Keeps [] w w' := by
  have hm : (Try.prog.info? 3).map (fun i => (i.zero, i.size, i.bytes)) = some (some (.int .i64 0), 1, 8) := by kernel_rfl
  obtain ⟨i0, hi, hz0, hz1, hz2⟩ := info_parts hm
  have HI := Go.Lib.hid hi
  have HZ0 := Go.Lib.hid hz0
  have HZ1 := Go.Lib.hid hz1
  have HZ2 := Go.Lib.hid hz2
  have HA := Go.Lib.hid hA
  have HN := Go.Lib.hid hn
  have hm9 : n ≤ 100 := by omega
  clear hm hi hz0 hz1 hz2 hA hn
  go_enter Try.func29, Try.ntmps29
  go_upto_region 3 with fail
  go_loopw [3, 4] (fun sv si wr => ∃ k : Nat, si = .int .i64 k ∧ k ≤ n ∧ Hid (wr.ownsRow w.heap.size 3 1 sv (l.take k).length (ints (l.take k))) ∧ Hid (Keeps [] w wr)) (fun _ i _ => n - (intOf i).toNat)
  case atStart => exact ⟨0, rfl, Nat.zero_le _, World.ownsRow_nil _ _ _ _, Keeps.refl _ _⟩
  case round =>
    obtain ⟨k, rfl, hk, HO, HK⟩ := hrel
    by_cases hlt : k < n
    · have d1 : decide (k < n) = true := decide_eq_true hlt
      obtain ⟨x, hx⟩ : ∃ x, l[k]? = some x := ⟨_, List.getElem?_eq_getElem (by have := HN.out; omega)⟩
      obtain ⟨a, rfl, a0⟩ := (HA.out.keeps0 HK.out) k x hx
      have hsz := HK.out.size
      have hln : (l.take k).length ≤ 100 := by rw [List.length_take]; omega
      have HX := Go.Lib.hid hx
      clear hx
      go_wp2_with (at_builtin; refine wpList_append_own _ rfl _ _ 25 rfl w.heap.size 3 i0 (.int .i64 0) 1 8 Try.underlying25 HI.out HZ0.out HZ1.out HZ2.out rfl (by decide) _ (l.take k).length _ rfl (HO.out.alloc _) ⟨wr.heap.size, 0, none⟩ 1 1 [.int .i64 x] rfl rfl ?c1 ?c2 ?c3 ?c4 ?c5 ?_)
      case c1 => exact cell_one_new _ _ _
      case c2 => simp [Value.oneCell']
      case c3 => unfold maxLen; omega
      case c4 => omega
      case c5 => simp; omega
      intro v1 w5 hown1 hgrow1 _
      have HO2 : Hid (w5.ownsRow w.heap.size 3 1 v1 (l.take (k + 1)).length (ints (l.take (k + 1)))) := Go.Lib.hid (by
        rw [List.take_add_one, HX.out]
        simpa [ints] using hown1)
      have HK2 : Hid (Keeps [] w w5) := by
        have h1 : Keeps [] w (wr.alloc (.cells #[.int .i64 x] 3)) := HK.out.alloc _
        have hb : ∀ j, u3.ownBlock = some j → w.heap.size ≤ j := fun j e => (HO.out.lt j e).1
        exact ⟨hgrow1.os.trans h1.os, hgrow1.tape.trans h1.tape, hgrow1.output.trans h1.output, Nat.le_trans h1.size hgrow1.size, fun j hj _ => (hgrow1.block j (Nat.lt_of_lt_of_le hj h1.size) (fun e => by have := hb j e.symm; omega)).trans (h1.block j hj (by simp))⟩
      clear hown1 hgrow1 HX
      go_wp2_with fail
      exact ⟨⟨k + 1, by go_num, by omega, HO2, HK2⟩, by simp [intOf]; omega⟩
    · have d1 : decide (k < n) = false := decide_eq_false hlt
      have hkn : k = l.length := by have := HN.out; omega
      have hfull : l.take k = l := List.take_of_length_le (by omega)
      have ho := HO.out
      rw [hfull] at ho
      obtain ⟨D, c1, rfl, hnum⟩ := Nums.of_own ho rfl
      have HNU := Go.Lib.hid hnum
      clear hkn hfull ho hnum HO
      have hnn := HN.out
      go_wp2_with fail
      go_ret
      exact ⟨D, c1, by rw [HN.out]; rfl, HNU.out, HK.out⟩
/-- The reference's test: one waits whose deadline has come. -/
def dueB (now : Int) (c : Nat) (m : List It) : Bool := m.any fun x => decide (0 ≤ x.u.getD c (-1)) && decide (x.u.getD c (-1) ≤ now)
theorem dueB_snoc (now : Int) (c : Nat) (m : List It) (x : It) : dueB now c (m ++ [x]) = (dueB now c m || (decide (0 ≤ x.u.getD c (-1)) && decide (x.u.getD c (-1) ≤ now))) := by simp [dueB]
theorem due_pend (now : Int) (c : Nat) (m : List It) : dueB now c m = (decide (0 < (pend c m).1) && decide ((pend c m).2 ≤ now)) := by
  have key : ∀ r : List It, dueB now c r.reverse = (decide (0 < (pend c r.reverse).1) && decide ((pend c r.reverse).2 ≤ now)) := by
    intro r
    induction r with
    | nil => rfl
    | cons x r ih =>
      rw [List.reverse_cons, dueB_snoc, ih, pend_snoc, pstep]
      generalize pend c r.reverse = p
      generalize x.u.getD c (-1) = t
      obtain ⟨n, u⟩ := p
      rw [Bool.eq_iff_iff]
      simp only [Bool.or_eq_true, Bool.and_eq_true, decide_eq_true_eq]
      split
      · split <;> (simp only; omega)
      · simp only; omega
  have := key m.reverse
  rwa [List.reverse_reverse] at this
def refB (m : List It) (lost : List Int) (c : Nat) : Bool := decide (8 ≤ (pend c m).1) || (decide (0 < (pend c m).1) && decide (0 < lost.getD c 0))
theorem refB_rdy (now : Int) (m : List It) (lost : List Int) (c : Nat) : (refB m lost c || dueB now c m) = rdyB now m lost c := by
  rw [due_pend, refB, rdyB]
  generalize decide (8 ≤ (pend c m).1) = a
  generalize decide (0 < (pend c m).1) = b
  generalize decide (0 < lost.getD c 0) = d
  generalize decide ((pend c m).2 ≤ now) = f
  cases a <;> cases b <;> cases d <;> cases f <;> rfl

set_option maxHeartbeats 3200000 in
theorem r_ready {B r : Nat} {w : World} {m : List It} {lost : List Int} (h : RL B w r m lost) (now : Int) :
    Calls Try.prog 24 #[.pointer (some ⟨r, 0, none⟩), .int .i64 now] w fun e w' => ∃ D c1, e = .returned (.slice D (readyTo now m lost 8).length c1) ∧ Nums w' D (readyTo now m lost 8) ∧ Keeps [] w w' := by
  have hm : (Try.prog.info? 3).map (fun i => (i.zero, i.size, i.bytes)) = some (some (.int .i64 0), 1, 8) := by kernel_rfl
  obtain ⟨i0, hi, hz0, hz1, hz2⟩ := info_parts hm
  have HI := Go.Lib.hid hi
  have HZ0 := Go.Lib.hid hz0
  have HZ1 := Go.Lib.hid hz1
  have HZ2 := Go.Lib.hid hz2
  have HR := Go.Lib.hid h
  clear hm hi hz0 hz1 hz2 h
  go_enter Try.func24, Try.ntmps24
  go_upto_region 3 with fail
  go_loopw [5, 6] (fun sv si wr => ∃ k : Nat, si = .int .i64 k ∧ k ≤ 8 ∧ Hid (wr.ownsRow w.heap.size 3 1 sv (readyTo now m lost k).length (ints (readyTo now m lost k))) ∧ Hid (Keeps [] w wr)) (fun _ i _ => 8 - (intOf i).toNat)
  case atStart => exact ⟨0, rfl, Nat.zero_le _, World.ownsRow_nil _ _ _ _, Keeps.refl _ _⟩
  case round =>
    obtain ⟨k, rfl, hk, HO, HK⟩ := hrel
    obtain ⟨w1, rfl⟩ : ∃ w1 : World, w1 = wr := ⟨_, rfl⟩
    by_cases hlt : k < 8
    · have d1 : decide (k < 8) = true := decide_eq_true hlt
      have d2 : decide ((k : Int) < 8) = true := decide_eq_true (by omega)
      have hk8 : (k : Int) < 8 := by omega
      have hr1 := HR.out.new HK.out
      have hp := (pend_le k m)
      have HP := Go.Lib.hid (r_pending hr1 hlt)
      obtain ⟨v, hr⟩ := hr1
      obtain ⟨ad, cp, rfl⟩ := hr.row.form
      have h64 := hr.few
      obtain ⟨z, hz⟩ : ∃ z, lost[k]? = some z := ⟨_, List.getElem?_eq_getElem (by rw [hr.lost8]; exact hlt)⟩
      obtain ⟨p0, _⟩ := cell_at hr.own (rA_zero _ lost)
      obtain ⟨p1, _⟩ := cell_at hr.own (rA_get (v := .slice ad m.length cp) hz)
      have hrefb : refB m lost k = (decide (8 ≤ (pend k m).1) || (decide (0 < (pend k m).1) && decide (0 < z))) := by
        rw [refB]; simp [hz]
      have HRQ := Go.Lib.hid hr
      clear hr hz
      obtain ⟨p, hpp⟩ : ∃ p, p = (pend k m).1 := ⟨_, rfl⟩
      rw [← hpp] at HP hrefb hp
      have HRB := Go.Lib.hid hrefb
      clear hpp hrefb
      go_wp2_with fail
      refine HP.out.mono ?_
      rintro e w' ⟨rfl, rfl⟩
      go_upto_region 6 with fail
      go_cut [8] from 17 to 31 (fun s8 wx => s8 = .bool (refB m lost k) ∧ wx = w1)
      case first =>
        by_cases hp8 : 8 ≤ p
        · have f1 : decide (8 ≤ p) = true := decide_eq_true hp8
          have f2 : decide ((8 : Int) ≤ p) = true := decide_eq_true (by omega)
          have HV : Hid (refB m lost k = true) := Go.Lib.hid (by rw [HRB.out, f1]; rfl)
          go_wp2
          go_meet
          case rel => exact ⟨by rw [HV.out], rfl⟩
        · have f1 : decide (8 ≤ p) = false := decide_eq_false hp8
          have f2 : decide ((8 : Int) ≤ p) = false := decide_eq_false (by omega)
          by_cases hp0 : 0 < p
          · have f3 : decide (0 < p) = true := decide_eq_true hp0
            have f4 : decide ((0 : Int) < p) = true := decide_eq_true (by omega)
            have HV : Hid (refB m lost k = decide (0 < z)) := Go.Lib.hid (by rw [HRB.out, f1, f3]; rfl)
            go_wp2
            go_meet
            case rel => exact ⟨by rw [HV.out], rfl⟩
          · have f3 : decide (0 < p) = false := decide_eq_false hp0
            have f4 : decide ((0 : Int) < p) = false := decide_eq_false (by omega)
            have HV : Hid (refB m lost k = false) := Go.Lib.hid (by rw [HRB.out, f1, f3]; rfl)
            go_wp2
            go_meet
            case rel => exact ⟨by rw [HV.out], rfl⟩
      case rest =>
        obtain ⟨rfl, rfl⟩ := hcut
        obtain ⟨b0, hb0⟩ : ∃ b0, b0 = refB m lost k := ⟨_, rfl⟩
        rw [← hb0]
        have HB0 := Go.Lib.hid hb0
        clear hb0 HRB HP hp p1
        go_upto_region 8 with fail
        go_loopw [8, 9] (fun sb si wx => ∃ (j : Nat) (b : Bool), sb = .bool b ∧ si = .int .i64 j ∧ j ≤ m.length ∧ Hid (b = (b0 || dueB now k (m.take j))) ∧ wx = wc) (fun _ si _ => m.length - (intOf si).toNat)
        case atStart => exact ⟨0, b0, rfl, rfl, by omega, Go.Lib.hid (by simp [dueB]), rfl⟩
        case round =>
          obtain ⟨j, b, rfl, rfl, hj, HB, rfl⟩ := hrel
          by_cases hjl : j < m.length
          · have e1 : decide (j < m.length) = true := decide_eq_true hjl
            obtain ⟨x, hx⟩ : ∃ x, m[j]? = some x := ⟨_, List.getElem?_eq_getElem hjl⟩
            obtain ⟨t, ht⟩ : ∃ t, x.u[k]? = some t := ⟨_, List.getElem?_eq_getElem (by rw [HRQ.out.wide x (List.mem_of_getElem? hx)]; exact hlt)⟩
            obtain ⟨g, o, rfl, _, _, hrow⟩ := HRQ.out.row.at (by omega)
            obtain ⟨y0, _⟩ := hrow.line hx ht
            have hs : (b0 || dueB now k (m.take (j + 1))) = (b || (decide (0 ≤ t) && decide (t ≤ now))) := by
              rw [List.take_add_one, hx, Option.toList_some, dueB_snoc, ← Bool.or_assoc, ← HB.out, List.getD_eq_getElem?_getD, ht]
              rfl
            have HS := Go.Lib.hid hs
            clear hx ht hrow hs
            cases b with
            | true =>
              have HB2 : Hid (true = (b0 || dueB now k (m.take (j + 1)))) := Go.Lib.hid (by rw [HS.out]; rfl)
              clear HS HB
              go_wp2_with fail
              exact ⟨⟨j + 1, true, rfl, by go_num, by omega, HB2, trivial⟩, by simp [intOf]; omega⟩
            | false =>
              by_cases h0 : 0 ≤ t
              · have e3 : decide (0 ≤ t) = true := decide_eq_true h0
                by_cases h1 : t ≤ now
                · have e4 : decide (t ≤ now) = true := decide_eq_true h1
                  have HB2 : Hid (true = (b0 || dueB now k (m.take (j + 1)))) := Go.Lib.hid (by rw [HS.out, e3, e4]; rfl)
                  clear HS HB
                  go_wp2_with fail
                  exact ⟨⟨j + 1, true, rfl, by go_num, by omega, HB2, trivial⟩, by simp [intOf]; omega⟩
                · have e4 : decide (t ≤ now) = false := decide_eq_false h1
                  have HB2 : Hid (false = (b0 || dueB now k (m.take (j + 1)))) := Go.Lib.hid (by rw [HS.out, e3, e4]; rfl)
                  clear HS HB
                  go_wp2_with fail
                  exact ⟨⟨j + 1, false, rfl, by go_num, by omega, HB2, trivial⟩, by simp [intOf]; omega⟩
              · have e3 : decide (0 ≤ t) = false := decide_eq_false h0
                have HB2 : Hid (false = (b0 || dueB now k (m.take (j + 1)))) := Go.Lib.hid (by rw [HS.out, e3]; rfl)
                clear HS HB
                go_wp2_with fail
                exact ⟨⟨j + 1, false, rfl, by go_num, by omega, HB2, trivial⟩, by simp [intOf]; omega⟩
          · have e1 : decide (j < m.length) = false := decide_eq_false hjl
            have hrdy : b = rdyB now m lost k := by
              rw [HB.out, List.take_of_length_le (by omega), HB0.out, refB_rdy]
            have hlen := readyTo_len now m lost k
            have hsz := HK.out.size
            clear HB
            cases b with
            | true =>
              have hs : readyTo now m lost (k + 1) = readyTo now m lost k ++ [(k : Int)] := by rw [readyTo, ← hrdy]; rfl
              have HS := Go.Lib.hid hs
              clear hs hrdy
              go_wp2_with (at_builtin; refine wpList_append_own _ rfl _ _ 25 rfl w.heap.size 3 i0 (.int .i64 0) 1 8 Try.underlying25 HI.out HZ0.out HZ1.out HZ2.out rfl (by decide) _ (readyTo now m lost k).length _ rfl (HO.out.alloc _) ⟨wr.heap.size, 0, none⟩ 1 1 [.int .i64 k] rfl rfl ?c1 ?c2 ?c3 ?c4 ?c5 ?_)
              case c1 => exact cell_one_new _ _ _
              case c2 => simp [Value.oneCell']
              case c3 => unfold maxLen; omega
              case c4 => omega
              case c5 => simp; omega
              intro v1 w5 hown1 hgrow1 _
              have HO2 : Hid (w5.ownsRow w.heap.size 3 1 v1 (readyTo now m lost (k + 1)).length (ints (readyTo now m lost (k + 1)))) := Go.Lib.hid (by
                rw [HS.out]
                simpa [ints] using hown1)
              have HK2 : Hid (Keeps [] w w5) := by
                have h1 : Keeps [] w (wr.alloc (.cells #[.int .i64 k] 3)) := HK.out.alloc _
                have hb : ∀ j, u5.ownBlock = some j → w.heap.size ≤ j := fun j e => (HO.out.lt j e).1
                exact ⟨hgrow1.os.trans h1.os, hgrow1.tape.trans h1.tape, hgrow1.output.trans h1.output, Nat.le_trans h1.size hgrow1.size, fun j hj _ => (hgrow1.block j (Nat.lt_of_lt_of_le hj h1.size) (fun e => by have := hb j e.symm; omega)).trans (h1.block j hj (by simp))⟩
              clear hown1 hgrow1
              go_wp2_with fail
              exact ⟨⟨k + 1, by go_num, by omega, HO2, HK2⟩, by simp [intOf]; omega⟩
            | false =>
              have hs : readyTo now m lost (k + 1) = readyTo now m lost k := by rw [readyTo, ← hrdy]; rfl
              have HO2 : Hid (wr.ownsRow w.heap.size 3 1 u5 (readyTo now m lost (k + 1)).length (ints (readyTo now m lost (k + 1)))) := Go.Lib.hid (by
                rw [hs]; exact HO.out)
              clear hs hrdy
              go_wp2_with fail
              exact ⟨⟨k + 1, by go_num, by omega, HO2, HK⟩, by simp [intOf]; omega⟩
    · obtain rfl : k = 8 := by omega
      obtain ⟨D, c1, rfl, hnum⟩ := Nums.of_own HO.out rfl
      have HNU := Go.Lib.hid hnum
      clear hnum HO
      go_wp2_with fail
      go_ret
      exact ⟨D, c1, rfl, HNU.out, HK.out⟩
end Go.Proofs.Ytldnnkceeeinlaa
