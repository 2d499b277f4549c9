/- Small contracts of the laws over batches: a number brought within bounds, an error's number, and that what is put is taken ('wakes'). No condition. -/
import Derived.Test.YtldnnkceeeinlaaBTake
import Derived.Test.YtldnnkceeeinlaaBPut
namespace Go.Proofs.Ytldnnkceeeinlaa
open Go.RowKit

theorem ret_int {k : IntKind} {a b : Int} (h : a = b) : Ending.returned (.int k a) = .returned (.int k b) := by rw [h]
def wthn (a n : Int) : Int := (a % 18446744073709551616) % n
theorem wthn_range (a : Int) {n : Int} (h0 : 0 < n) : 0 ≤ wthn a n ∧ wthn a n < n := ⟨Int.emod_nonneg _ (by omega), Int.emod_lt_of_pos _ h0⟩
theorem wthn_val (a n : Int) (h0 : 0 < n) (h1 : n < 4294967296) : wrap64 ((IntKind.u64.wrap a).tmod n) = wthn a n := by
  have ha : IntKind.u64.wrap a = a % 18446744073709551616 := by
    simp only [IntKind.wrap, show IntKind.u64.signed = false from rfl, show IntKind.u64.bits = 64 from rfl, Bool.false_and, Bool.false_eq_true, if_false]
    rfl
  have h2 : 0 ≤ a % 18446744073709551616 := Int.emod_nonneg _ (by omega)
  have h3 := wthn_range a h0
  rw [ha, Int.tmod_eq_emod_of_nonneg h2]
  unfold wthn at *
  unfold wrap64
  omega

theorem within (a n : Int) (h0 : 0 < n) (h1 : n < 4294967296) (w : World) :
    Calls Try.prog 12 #[.int .i64 a, .int .i64 n] w fun e w' => e = .returned (.int .i64 (wthn a n)) ∧ w = w' := by
  go_enter Try.func12, Try.ntmps12
  go_wp2
  go_ret
  exact ⟨ret_int (wthn_val a n h0 h1), rfl⟩

theorem num (a : Int) (w : World) :
    Calls Try.prog 8 #[.int .i64 a] w fun e w' => e = .returned (.int .i64 a) ∧ w = w' := by
  go_enter Try.func8, Try.ntmps8
  go_wp2
  go_ret
  exact ⟨rfl, rfl⟩

/-- A queue, by the items alone. -/
def QL (B : Nat) (W : World) (q : Nat) (m : List It) (lost : List Int) : Prop := ∃ l, QIs B W q l lost ∧ l.map (·.2) = m
theorem QL.new {B q : Nat} {w w' : World} {m : List It} {lost : List Int} (h : QL B w q m lost) (hk : Keeps [] w w') : QL B w' q m lost := by
  obtain ⟨l, h1, h2⟩ := h
  exact ⟨l, h1.new hk, h2⟩
theorem QL.base {B q : Nat} {w : World} {m : List It} {lost : List Int} (h : QL B w q m lost) : B ≤ w.heap.size ∧ lost.length = 8 ∧ m.length ≤ 64 ∧ ∀ x ∈ m, x.u.length = 8 := by
  obtain ⟨l, ⟨g, h0, k, hq⟩, rfl⟩ := h
  refine ⟨by have := hq.base.1; have := hq.lts.1; omega, hq.lost8, by have := hq.ring.len; simpa using this, fun x hx => ?_⟩
  obtain ⟨p, hp, rfl⟩ := List.mem_map.1 hx
  exact hq.wide p hp

/-- What a push makes of the items, and of the losses. -/
def putM (m : List It) (x : It) : List It := if m.length < 64 then m ++ [x] else m.tail ++ [x]
def lostM (m : List It) (lost : List Int) : List Int := if m.length < 64 then lost else bump ((m.head?.map (·.u)).getD []) lost
theorem putL_snd (l : List (Nat × It)) (p : Nat × It) : (putL l p).map (·.2) = putM (l.map (·.2)) p.2 := by
  rw [putL, putM, List.length_map]
  split <;> simp
theorem putLost_snd (l : List (Nat × It)) (lost : List Int) : putLost l lost = lostM (l.map (·.2)) lost := by
  rw [putLost, lostM, List.length_map, List.head?_map, Option.map_map]
  rfl

/-- A pack's events, and what is left. -/
def takeM (c m : Nat) (l : List It) : List Ev × List It := l.foldl (fun s x => if s.1.length < m ∧ 0 ≤ x.u.getD c (-1) then (s.1 ++ [x.e], s.2 ++ [⟨x.e, x.u.set c (-1)⟩]) else (s.1, s.2 ++ [x])) ([], [])
theorem takeF_from2 (c m : Nat) (l : List (Nat × It)) : ∀ s : List Ev × List (Nat × It), ((l.foldl (tstep c m) s).1, (l.foldl (tstep c m) s).2.map (·.2)) =
    (l.map (·.2)).foldl (fun s x => if s.1.length < m ∧ 0 ≤ x.u.getD c (-1) then (s.1 ++ [x.e], s.2 ++ [(⟨x.e, x.u.set c (-1)⟩ : It)]) else (s.1, s.2 ++ [x])) (s.1, s.2.map (·.2)) := by
  induction l with
  | nil => intro s; rfl
  | cons x l ih =>
    intro s
    rw [List.foldl_cons, ih, List.map_cons, List.foldl_cons]
    congr 1
    rw [tstep]
    split <;> simp [unw]
theorem takeF_snd (c m : Nat) (l : List (Nat × It)) : (takeF c m l).1 = (takeM c m (l.map (·.2))).1 ∧ (takeF c m l).2.map (·.2) = (takeM c m (l.map (·.2))).2 := by
  have := takeF_from2 c m l ([], [])
  exact ⟨congrArg Prod.fst this, congrArg Prod.snd this⟩
def sweepM (m : List It) : List It := m.filter waitsB
theorem sweepL_snd (l : List (Nat × It)) : (sweepL l).map (·.2) = sweepM (l.map (·.2)) := by
  rw [sweepL, sweepM, List.filter_map]
  rfl

section
variable {B q : Nat} {w : World} {m : List It} {lost : List Int}
theorem q_put (hq : QL B w q m lost) {e : Ev} {cl ws : List Int} {A D : Option Addr} {n k c0 c1 : Nat} (hn : n = cl.length) (hk : k = ws.length) (hA : Nums w A cl) (hD : Nums w D ws) (hR : Rising cl ws) (h9 : cl.length ≤ 100) (h0 : 0 < cl.length)
    (ht0 : 0 ≤ e.t) (ht1 : e.t ≤ 1099511627776) (hlo : ∀ x ∈ lost, 0 ≤ x ∧ x < 1152921504606846976) :
    Calls Try.prog 9 #[.pointer (some ⟨q, 0, none⟩), evA e, .slice A n c0, .slice D k c1] w fun e' w' => e' = .returned (.int .i64 0) ∧ QL B w' q (putM m ⟨e, uOf e.t cl ws⟩) (lostM m lost) ∧ BK B w w' := by
  obtain ⟨l, hq, rfl⟩ := hq
  refine (put_ok hn hk hq hA hD hR h9 h0 ht0 ht1 hlo).mono ?_
  rintro e' w' ⟨rfl, x, h1, h2⟩
  exact ⟨rfl, ⟨_, h1, putL_snd _ _⟩ |> fun h => (putLost_snd l lost) ▸ h, h2⟩
theorem q_losses (hq : QL B w q m lost) {c : Nat} {x : Int} (hx : lost[c]? = some x) :
    Calls Try.prog 10 #[.pointer (some ⟨q, 0, none⟩), .int .i64 c] w fun e w' => e = .returned (.tuple #[.int .i64 x, .int .i64 0]) ∧ w = w' := by
  obtain ⟨l, hq, rfl⟩ := hq
  exact losses hq hx
theorem q_len (hq : QL B w q m lost) : Calls Try.prog 11 #[.pointer (some ⟨q, 0, none⟩)] w fun e w' => e = .returned (.int .i64 m.length) ∧ w = w' := by
  obtain ⟨l, hq, rfl⟩ := hq
  have := qlen hq
  simpa using this
theorem q_take (hq : QL B w q m lost) {c k : Nat} (hc8 : c < 8) (hm1 : 1 ≤ k) (hm5 : k ≤ 5) {z : Int} (hz : lost[c]? = some z) :
    Calls Try.prog 13 #[.pointer (some ⟨q, 0, none⟩), .int .i64 c, .int .i64 k] w fun e w' => ∃ v, e = .returned (.tuple #[.agg #[.int .i64 c, .int .i64 z, v], .int .i64 0]) ∧
      w'.ownsRow w.heap.size 31 6 v (takeM c k m).1.length ((takeM c k m).1.flatMap evs) ∧ QL B w' q (sweepM (takeM c k m).2) (lost.set c 0) ∧ BK B w w' := by
  obtain ⟨l, hq, rfl⟩ := hq
  refine (take hq hc8 hm1 hm5 hz).mono ?_
  rintro e' w' ⟨v, rfl, h1, h2, h3⟩
  obtain ⟨e1, e2⟩ := takeF_snd c k l
  rw [e1] at h1
  exact ⟨v, rfl, h1, ⟨_, h2, by rw [sweepL_snd, e2]⟩, h3⟩
theorem q_forget (hq : QL B w q m lost) {c : Nat} (hc8 : c < 8) :
    Calls Try.prog 18 #[.pointer (some ⟨q, 0, none⟩), .int .i64 c] w fun e w' => e = .returned (.int .i64 0) ∧ QL B w' q (sweepM (m.map fun x => ⟨x.e, x.u.set c (-1)⟩)) (lost.set c 0) ∧ BK B w w' := by
  obtain ⟨l, hq, rfl⟩ := hq
  refine (forget hq hc8).mono ?_
  rintro e' w' ⟨rfl, h1, h2⟩
  exact ⟨rfl, ⟨_, h1, by rw [sweepL_snd]; simp [unw, Function.comp_def]⟩, h2⟩
theorem q_pending (hq : QL B w q m lost) {c : Nat} (hc8 : c < 8) :
    Calls Try.prog 39 #[.pointer (some ⟨q, 0, none⟩), .int .i64 c] w fun e w' => e = .returned (.tuple #[.int .i64 (pend c m).1, .int .i64 (pend c m).2]) ∧ Keeps [] w w' := by
  obtain ⟨l, hq, rfl⟩ := hq
  exact pending hq hc8
theorem q_new (w : World) : Calls Try.prog 7 #[] w fun e w' => ∃ q, e = .returned (.pointer (some ⟨q, 0, none⟩)) ∧ QL w.heap.size w' q [] [0, 0, 0, 0, 0, 0, 0, 0] ∧ Keeps [] w w' := by
  refine (new w).mono ?_
  rintro e' w' ⟨q, rfl, h1, h2⟩
  exact ⟨q, rfl, ⟨_, h1, rfl⟩, h2⟩
end

theorem Nums.of_block {w : World} {b : Nat} {l : List Int} (h : w.heap[b]? = some (.cells (ints l).toArray 3 (0, 0))) : Nums w (some ⟨b, 0, none⟩) l := by
  intro i x hx
  refine ⟨_, rfl, ?_⟩
  rw [Addr.add_lit, Nat.zero_add]
  exact (cell_at h (by simpa using ints_get hx)).1
theorem row_len {M : Nat} {w : World} {v : Value} {n : Nat} {xs : List Value} (h : w.ownsRow M 31 6 v n xs) {k : Nat} (hk : n = k) : ∃ ad cp, v = .slice ad k cp := by
  subst hk
  rcases h.2 with ⟨rfl, h0⟩ | ⟨g', cap, cur, rfl, e2, e3, e4⟩
  · exact ⟨none, 0, by rw [h0]⟩
  · exact ⟨_, _, rfl⟩
theorem Rising.one {c x : Int} (h0 : 0 ≤ c) (h8 : c < 8) (hx0 : 0 ≤ x) (hx : x ≤ 60000) : Rising [c] [x] := by
  refine ⟨rfl, fun i hi => ?_⟩
  obtain rfl : i = 0 := by simpa using hi
  exact ⟨c, x, rfl, rfl, h0, h8, hx0, hx, fun y hy => by omega⟩

set_option maxHeartbeats 1600000 in
theorem wakes (w : World) : Calls Try.prog 14 #[] w fun e w' => e = .returned (.bool true) ∧ Keeps [] w w' := by
  go_enter Try.func14, Try.ntmps14
  go_wp2_with fail
  refine (q_new _).mono ?_
  rintro e w1 ⟨q, rfl, hq, hk⟩
  have HQ := Go.Lib.hid hq
  have HK := Go.Lib.hid hk
  clear hq hk
  go_wp2_with fail
  obtain ⟨w2, hw2⟩ : ∃ w2, w2 = (w1.alloc (.cells #[.int .i64 2] 3)).alloc (.cells #[.int .i64 0] 3) := ⟨_, rfl⟩
  obtain ⟨b, hb⟩ : ∃ b, b = w1.heap.size := ⟨_, rfl⟩
  rw [← hw2, ← hb]
  have hk2 : Keeps [] w1 w2 := by rw [hw2]; exact ((Keeps.refl _ _).alloc _).alloc _
  have hx0 : w2.heap[b]? = some (.cells (ints [2]).toArray 3 (0, 0)) := by rw [hw2, hb, Below.heap_alloc _ _ _ (by simp)]; exact heap_alloc_new _ _
  have hx1 : w2.heap[b + 1]? = some (.cells (ints [0]).toArray 3 (0, 0)) := by
    rw [hw2, hb]
    have := heap_alloc_new (w1.alloc (.cells #[.int .i64 2] 3)) (.cells #[.int .i64 0] 3)
    rwa [World.size_alloc] at this
  have HQ2 := Go.Lib.hid (HQ.out.new hk2)
  have HP := Go.Lib.hid (fun c0 c1 => q_put (c0 := c0) (c1 := c1) (n := 1) (k := 1) (e := ⟨5, 0, 0, 0, 0, 0⟩) (cl := [2]) (ws := [0]) HQ2.out rfl rfl (Nums.of_block hx0) (Nums.of_block hx1) (Rising.one (by omega) (by omega) (by omega) (by omega)) (by decide) (by decide) (by decide) (by decide) (by simp))
  have HK2 := Go.Lib.hid (HK.out.trans hk2)
  clear hw2 hb hx0 hx1 hk2
  refine (HP.out _ _).mono ?_
  rintro e w3 ⟨rfl, hq3, hb3⟩
  have HQ3 := Go.Lib.hid hq3
  have HB3 := Go.Lib.hid hb3
  clear hq3 hb3
  go_wp2_with fail
  refine (num _ _).mono ?_
  rintro e w' ⟨rfl, rfl⟩
  go_wp2_with fail
  refine (q_take HQ3.out (c := 2) (k := 1) (z := 0) (by omega) (by omega) (by omega) rfl).mono ?_
  rintro e w4 ⟨v, rfl, hrow, hq4, hb4⟩
  obtain ⟨ad, cp, rfl⟩ : ∃ ad cp, v = .slice ad (1 : Nat) cp := row_len hrow rfl
  have HB4 := Go.Lib.hid hb4
  clear hrow hq4 hb4
  go_wp2_with fail
  refine (num _ _).mono ?_
  rintro e w' ⟨rfl, rfl⟩
  go_wp2
  go_ret
  exact ⟨rfl, (HB4.out.keeps (HB3.out.keeps HK2.out (Nat.le_refl _)) (Nat.le_refl _)).alloc _⟩
end Go.Proofs.Ytldnnkceeeinlaa
