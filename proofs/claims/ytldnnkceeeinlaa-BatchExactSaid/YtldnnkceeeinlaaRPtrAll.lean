/- The ring's All at elements of one cell (Ptr): a function that hands the things out one by one, with their numbers. No condition but the ring's own. -/
import Derived.Test.YtldnnkceeeinlaaRange
import Derived.Test.YtldnnkceeeinlaaRPtrList
namespace Go.Proofs.Ytldnnkceeeinlaa
namespace RPtr
open Go.RowKit
attribute [local go_sem] Oper.semAt_some

/-- What yield is handed in round k. -/
def nth (l : List Nat) (k : Nat) : Nat := l[k]?.getD 0
theorem nth_at {l : List Nat} {k : Nat} {x : Nat} (hx : l[k]? = some x) : nth l k = x := by simp [nth, hx]
def encv (x : Nat) : Value := .pointer (some ⟨x,0,none⟩)
def elem (l : List Nat) (k : Nat) : Array Value := #[.int .i64 k, encv (nth l k)]
theorem elem_at {l : List Nat} {k : Nat} {x : Nat} (hx : l[k]? = some x) : elem l k = #[.int .i64 k, .pointer (some ⟨x,0,none⟩)] := by rw [elem, nth_at hx]; rfl
theorem elem_size (l : List Nat) (k : Nat) : (elem l k).size = 2 := rfl

set_option maxRecDepth 100000 in
set_option maxHeartbeats 2000000 in
theorem iter (n : Nat) (hn : 1 ≤ n) (y Bs B b cap : Nat) (cur : Array Value) (l : List Nat) (hb : B ≤ b) (hl : l.length ≤ 256) (J : Nat → World → Prop) (Jx : World → Prop)
    (hY : ∀ k W, k < l.length → J k W → YieldAt Fence.wide 0 Try.prog y (elem l k) W fun e W' =>
      (e = .returned (.bool true) ∧ J (k + 1) W' ∧ Rng.KeepsCells B W W') ∨ (e = .returned (.bool false) ∧ Jx W'))
    (W : World) (hBs : W.cell? ⟨Bs, 0, none⟩ = some (.slice (some ⟨b, 0, none⟩) l.length cap)) (hcur : W.heap[b]? = some (.cells cur 71 (0, 0))) (hc : ∀ (k : Nat) (x : Nat), l[k]? = some x → cur[k]? = some (.pointer (some ⟨x,0,none⟩) : Value)) (h0 : J 0 W) :
    CallsIn Fence.wide n Try.prog 49 #[.func (.yield y) #[] #[], .pointer (some ⟨Bs, 0, none⟩)] W fun e W' => (∃ v, e = .returned v) ∧ (J l.length W' ∨ Jx W') := by
  have HC := Go.Lib.hid hc
  have HCU := Go.Lib.hid hcur
  have HY := Go.Lib.hid hY
  clear hc hcur hY
  refine callsIn_of_wp Try.func49 rfl trivial ?_ rfl
  simp only [Try.ntmps49, List.size_toArray, List.length_cons, List.length_nil, Nat.reduceAdd, Nat.reduceSub, Array.replicate_succ, Array.replicate_zero, List.push_toArray, List.append_toArray, List.nil_append, List.cons_append]
  gi_wp2
  gi_loopw [7] (fun i wr => ∃ k : Nat, i = .int .i64 k ∧ Hid (k ≤ l.length ∧ J k wr ∧ wr.heap[b]? = some (.cells cur 71 (0, 0)))) (fun i _ => l.length - (intOf i).toNat)
  case atStart => exact ⟨0, rfl, Nat.zero_le _, h0, HCU.out⟩
  case round =>
    obtain ⟨k, rfl, HR⟩ := hrel
    have hk := HR.out.1
    by_cases hlt : k < l.length
    · obtain ⟨x, hx⟩ : ∃ x, l[k]? = some x := ⟨_, List.getElem?_eq_getElem hlt⟩
      have hcx := (cell_at HR.out.2.2 (HC.out k x hx)).1
      obtain ⟨fn, tmps, assign, body, hy, hR⟩ := Rng.yield_any (m' := n - 1) (HY.out k wr hlt HR.out.2.1)
      rw [elem_at hx] at hy
      have HRR := Go.Lib.hid hR
      clear hR hx
      gi_wp2
      refine HRR.out.mono ?_
      rintro e W3 (⟨rfl, hJ3, hk3⟩ | ⟨rfl, hJx3⟩)
      · have HN : Hid (k + 1 ≤ l.length ∧ J (k + 1) W3 ∧ W3.heap[b]? = some (.cells cur 71 (0, 0))) := ⟨hlt, hJ3, hk3 b _ _ _ hb rfl HR.out.2.2⟩
        clear hJ3 hk3
        gi_wp2
        go_roundw
        case rel => exact ⟨k + 1, by simp, HN⟩
        case measure => simp [intOf]; omega
      · have HN := Go.Lib.hid hJx3
        clear hJx3
        gi_wp2
        refine bodyPost_ret (results_none rfl _ _ _) rfl ?_
        exact ⟨⟨_, rfl⟩, .inr HN.out⟩
    · obtain rfl : k = l.length := by omega
      gi_wp2
      go_end0
      exact ⟨⟨_, rfl⟩, .inl HR.out.2.1⟩

set_option maxRecDepth 100000 in
set_option maxHeartbeats 1000000 in
theorem iter_nil (n : Nat) (y Bs : Nat) (J : Nat → World → Prop) (W : World) (hBs : W.cell? ⟨Bs, 0, none⟩ = some (.slice none 0 0)) (h0 : J 0 W) :
    CallsIn Fence.wide n Try.prog 49 #[.func (.yield y) #[] #[], .pointer (some ⟨Bs, 0, none⟩)] W fun e W' => (∃ v, e = .returned v) ∧ J 0 W' := by
  have H0 := Go.Lib.hid h0
  clear h0
  refine callsIn_of_wp Try.func49 rfl trivial ?_ rfl
  simp only [Try.ntmps49, List.size_toArray, List.length_cons, List.length_nil, Nat.reduceAdd, Nat.reduceSub, Array.replicate_succ, Array.replicate_zero, List.push_toArray, List.append_toArray, List.nil_append, List.cons_append]
  gi_wp2
  gi_loopw [7] (fun i wr => i = .int .i64 0 ∧ Hid (J 0 wr)) (fun _ _ => 0)
  case atStart => exact ⟨rfl, H0⟩
  case round =>
    obtain ⟨rfl, hJs⟩ := hrel
    gi_wp2
    go_end0
    exact ⟨⟨_, rfl⟩, hJs.out⟩

set_option maxHeartbeats 400000 in
theorem slices_all (a : Option Addr) (len cap : Nat) (w : World) :
    Calls Try.prog 46 #[.slice a len cap] w fun e w' => e = .returned (.func (.func 49) #[] #[.pointer (some ⟨w.heap.size, 0, none⟩)]) ∧ w' = w.alloc (.cells #[.slice a len cap] 90) := by
  go_enter Try.func46, Try.ntmps46
  go_wp2
  go_ret
  exact ⟨rfl, rfl⟩

set_option maxHeartbeats 400000 in
theorem all (a : Option Addr) (w : World) :
    Calls Try.prog 37 #[.pointer a] w fun e w' => e = .returned (.func (.func 45) #[] #[.pointer (some ⟨w.heap.size, 0, none⟩)]) ∧ w' = w.alloc (.cells #[.pointer a] 67) := by
  go_enter Try.func37, Try.ntmps37
  go_wp2
  go_ret
  exact ⟨rfl, rfl⟩

theorem is_below {B : Nat} {w w' : World} {g h c n : Nat} {l : List Nat} (hr : Is w g h c n l) (hb : Below B w w') (hg : g < B) (hh : h < B) (hc : c < B) : Is w' g h c n l := by
  obtain ⟨⟨f, arr, buf, s, r, h1, h2, h3, h4⟩, h5, h6⟩ := hr
  exact ⟨⟨f, arr, buf, s, r, (hb.block _ hg).trans h1, (hb.block _ hh).trans h2, (hb.block _ hc).trans h3, h4⟩, h5, h6⟩

theorem flat_eq (l : List Nat) : l.flatMap enc = l.map (fun x => (.pointer (some ⟨x,0,none⟩) : Value)) := by
  induction l with
  | nil => rfl
  | cons y l ih =>
    rw [List.flatMap_cons, List.map_cons, ih]
    rfl
theorem flat_get (l : List Nat) (k : Nat) (x : Nat) (hx : l[k]? = some x) : (l.flatMap enc)[k]? = some (.pointer (some ⟨x,0,none⟩)) := by
  rw [flat_eq, List.getElem?_map, hx]
  rfl

theorem grown_of_keeps {w w' : World} (h : Keeps [] w w') : w.grownBy w' none := ⟨h.os, h.tape, h.output, h.size, fun k hk _ => h.block k hk (by simp)⟩

set_option maxRecDepth 100000 in
set_option maxHeartbeats 1000000 in
/-- What All hands back goes through the things that lie there when it is begun. -/
theorem all_iter {g h c n bx : Nat} {l : List Nat} {w : World} (hbx : w.cell? ⟨bx, 0, none⟩ = some (.pointer (some ⟨g, 0, none⟩))) (hr : Is w g h c n l) :
    Rng.Iter Try.prog 45 #[.pointer (some ⟨bx, 0, none⟩)] l.length (elem l) w.heap.size w := by
  intro y J Jx W hW hWs hJ hY h0
  have hlts := hr.lts
  have hl9 : l.length ≤ 256 := Nat.le_trans hr.len hr.cap
  have hrW := is_below hr hW hlts.1 hlts.2.1 hlts.2.2
  have hb0 : W.cell? ⟨bx, 0, none⟩ = some (.pointer (some ⟨g, 0, none⟩)) := (hW.cell (p := ⟨bx, 0, none⟩) (World.block_lt_of_cell? w _ hbx)).trans hbx
  have HL := Go.Lib.hid (list hrW)
  have HJ := Go.Lib.hid hJ
  have HY := Go.Lib.hid hY
  have H0 := Go.Lib.hid h0
  have HS := Go.Lib.hid hWs
  clear hJ hY h0 hr hrW hbx hW hlts hWs
  show Calls Try.prog 45 #[.func (.yield y) #[] #[], .pointer (some ⟨bx, 0, none⟩)] W _
  go_enter Try.func45, Try.ntmps45
  go_wp2_with fail
  refine HL.out.mono ?_
  rintro e w1 ⟨v, rfl, hrow, hk⟩
  have H1 : Hid (J 0 w1) := HJ.out 0 W w1 H0.out (grown_of_keeps hk)
  have hs1 := hk.size
  have HR := Go.Lib.hid hrow.2
  have HX := Go.Lib.hid hrow.1
  clear hrow hk H0
  rcases HR.out with ⟨rfl, hn0⟩ | ⟨b, cap, cur, rfl, hb, hcur, hle, hmx, hsz, htk⟩
  · obtain rfl : l = [] := List.eq_nil_of_length_eq_zero hn0
    go_wp2_with fail
    refine (slices_all _ _ _ _).mono ?_
    rintro e w2 ⟨rfl, rfl⟩
    go_wp2_with fail
    refine (callsIn_wide.1 (iter_nil 1 y w1.heap.size J _ (cell_at (heap_alloc_new _ _) rfl).1 ?_)).mono ?_
    · exact HJ.out 0 w1 _ H1.out (grown_of_keeps ((Keeps.refl _ _).alloc _))
    · rintro e w3 ⟨⟨v, rfl⟩, hJ3⟩
      have HJ3 := Go.Lib.hid hJ3
      clear hJ3
      go_wp2
      go_end0
      exact ⟨⟨_, rfl⟩, .inl HJ3.out⟩
  · have hc : ∀ (k : Nat) (x : Nat), l[k]? = some x → cur[k]? = some (.pointer (some ⟨x,0,none⟩) : Value) := by
      intro k x hx
      have h1 := flat_get l k x hx
      rw [← htk, List.getElem?_take] at h1
      split at h1
      · simpa using h1
      · simp at h1
    have HC := Go.Lib.hid hc
    have HCUR := Go.Lib.hid hcur
    have HT := Go.Lib.hid htk
    have HSZ := Go.Lib.hid hsz
    clear hc hcur htk hsz
    go_wp2_with fail
    refine (slices_all _ _ _ _).mono ?_
    rintro e w2 ⟨rfl, rfl⟩
    go_wp2_with fail
    refine (callsIn_wide.1 (iter 1 (by omega) y w1.heap.size w.heap.size b cap cur l (Nat.le_trans HS.out hb) hl9 J Jx HY.out _ (cell_at (heap_alloc_new _ _) rfl).1 ?_ HC.out ?_)).mono ?_
    · rw [Below.heap_alloc _ _ _ (lt_of_block HCUR.out)]; exact HCUR.out
    · exact HJ.out 0 w1 _ H1.out (grown_of_keeps ((Keeps.refl _ _).alloc _))
    · rintro e w3 ⟨⟨v, rfl⟩, hJ3⟩
      have HJ3 := Go.Lib.hid hJ3
      clear hJ3
      go_wp2
      go_end0
      exact ⟨⟨_, rfl⟩, HJ3.out⟩
end RPtr
end Go.Proofs.Ytldnnkceeeinlaa
