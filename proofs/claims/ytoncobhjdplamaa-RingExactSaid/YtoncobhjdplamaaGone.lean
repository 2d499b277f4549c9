/- 'gone': a list beside the ring, gone through with All. No condition but the two lists'. -/
import Derived.Test.YtoncobhjdplamaaBase
import Derived.Test.YtoncobhjdplamaaRPairMore
import Derived.Test.YtoncobhjdplamaaRPairAll
import Derived.Test.YtoncobhjdplamaaWMore
import Derived.Test.YtoncobhjdplamaaQRound
namespace Go.Proofs.Ytoncobhjdplamaa
open Go.RowKit RPair

/-- A slice of pairs: the list, in blocks that are none of S. -/
structure SeesAt (S : List Nat) (W : World) (b o : Nat) (L : List Pr) : Prop where
  out : b ∉ S
  cell : ∀ i x, L[i]? = some x → W.cell? ⟨b, o + i * 2, none⟩ = some (.int .i64 x.n) ∧ W.cell? ⟨b, o + i * 2 + 1, none⟩ = some (.string x.s)
inductive Sees (S : List Nat) (W : World) : Value → List Pr → Prop
  | nil (a : Option Addr) (cap : Nat) : Sees S W (.slice a 0 cap) []
  | cons (b o cap : Nat) (L : List Pr) (hc : L.length ≤ cap) (h : SeesAt S W b o L) : Sees S W (.slice (some ⟨b, o, none⟩) L.length cap) L

theorem Sees.turn {S : List Nat} {W W' : World} {v : Value} {L : List Pr} (h : Sees S W v L) {B : Nat} (ht : Rng.Turn B W W') : Sees S W' v L := by
  cases h with
  | nil a cap => exact .nil a cap
  | cons b o cap L hc h => exact .cons b o cap L hc ⟨h.out, fun i x hx => ⟨ht.cell (h.cell i x hx).1, ht.cell (h.cell i x hx).2⟩⟩
theorem Sees.keeps {S T : List Nat} {W W' : World} {v : Value} {L : List Pr} (h : Sees S W v L) (hk : Keeps T W W') (hT : ∀ x ∈ T, x ∈ S ∨ W.heap.size ≤ x) : Sees S W' v L := by
  cases h with
  | nil a cap => exact .nil a cap
  | cons b o cap L hc h =>
    refine .cons b o cap L hc ⟨h.out, fun i x hx => ?_⟩
    have hb := World.block_lt_of_cell? W _ (h.cell i x hx).1
    have hn : b ∉ T := fun hm => (hT b hm).elim h.out (fun hh => by simp at hb; omega)
    exact ⟨hk.cell (h.cell i x hx).1 hn, hk.cell (h.cell i x hx).2 hn⟩
theorem Sees.len {S : List Nat} {W : World} {v : Value} {L : List Pr} (h : Sees S W v L) : ∃ a c, v = .slice a L.length c := by
  cases h with
  | nil a cap => exact ⟨_, _, rfl⟩
  | cons b o cap L hc h => exact ⟨_, _, rfl⟩

theorem Sees.get {S : List Nat} {W : World} {a : Option Addr} {m cap : Nat} {L : List Pr} (h : Sees S W (.slice a m cap) L) {i : Nat} {x : Pr} (hx : L[i]? = some x) :
    ∃ b o, a = some ⟨b, o, none⟩ ∧ b ∉ S ∧ W.cell? ⟨b, o + i * 2, none⟩ = some (.int .i64 x.n) ∧ W.cell? ⟨b, o + i * 2 + 1, none⟩ = some (.string x.s) := by
  cases h with
  | nil => simp at hx
  | cons b o cap L hc h => exact ⟨b, o, rfl, h.out, h.cell i x hx⟩

theorem Sees.more {S : List Nat} {W : World} {v : Value} {L : List Pr} (h : Sees S W v L) {k : Nat} (hk : W.heap.size ≤ k) : Sees (k :: S) W v L := by
  cases h with
  | nil a cap => exact .nil a cap
  | cons b o cap L hc h =>
    cases L with
    | nil => exact .nil _ _
    | cons x L =>
      have hb := World.block_lt_of_cell? W _ (h.cell 0 x rfl).1
      exact .cons b o cap (x :: L) hc ⟨by simp only [List.mem_cons, not_or]; exact ⟨by simp at hb; omega, h.out⟩, h.cell⟩
theorem Sees.less {S : List Nat} {W : World} {v : Value} {L : List Pr} {k : Nat} (h : Sees (k :: S) W v L) : Sees S W v L := by
  cases h with
  | nil a cap => exact .nil a cap
  | cons b o cap L hc h => exact .cons b o cap L hc ⟨fun hm => h.out (List.mem_cons_of_mem _ hm), h.cell⟩

theorem alloc4 (w : World) (o1 o2 o3 o4 : Obj) : ((((w.alloc o1).alloc o2).alloc o3).alloc o4).heap[w.heap.size]? = some o1 ∧ ((((w.alloc o1).alloc o2).alloc o3).alloc o4).heap[w.heap.size + 1]? = some o2 ∧
    ((((w.alloc o1).alloc o2).alloc o3).alloc o4).heap[w.heap.size + 2]? = some o3 ∧ ((((w.alloc o1).alloc o2).alloc o3).alloc o4).heap[w.heap.size + 3]? = some o4 := by
  obtain ⟨h1, h2, h3⟩ := alloc3 w o1 o2 o3
  refine ⟨?_, ?_, ?_, ?_⟩
  · rw [Below.heap_alloc _ _ _ (lt_of_block h1)]; exact h1
  · rw [Below.heap_alloc _ _ _ (lt_of_block h2)]; exact h2
  · rw [Below.heap_alloc _ _ _ (lt_of_block h3)]; exact h3
  · have := heap_alloc_new (((w.alloc o1).alloc o2).alloc o3) o4
    rwa [World.size_alloc, World.size_alloc, World.size_alloc] at this

structure GoB (wB : World) (g h c n b : Nat) (v : Value) (L : List Pr) (early : Bool) (j : Nat) (W : World) : Prop where
  ring : Is W g h c n L
  keeps : Keeps [] wB W
  sees : Sees [b + 1 + 1 + 1, g, h, c] W v L
  box4 : W.heap[b]? = some (.cells #[v] 50 (0, 0))
  box5 : W.heap[b + 1]? = some (.cells #[.bool early] 4 (0, 0))
  box6 : W.heap[b + 1 + 1]? = some (.cells #[.bool false] 4 (0, 0))
  box7 : W.heap[b + 1 + 1 + 1]? = some (.cells #[.int .i64 j] 3 (0, 0))
theorem GoB.turn {wB : World} {g h c n b : Nat} {v : Value} {L : List Pr} {early : Bool} {j B : Nat} {W W' : World} (hi : GoB wB g h c n b v L early j W) (ht : Rng.Turn B W W') (hB : wB.heap.size ≤ B) (hc : c < B) : GoB wB g h c n b v L early j W' :=
  ⟨Rng.turn_ring hi.ring ht hc, Rng.turn_keeps hi.keeps ht hB, hi.sees.turn ht, ht.heap hi.box4, ht.heap hi.box5, ht.heap hi.box6, ht.heap hi.box7⟩
theorem GoB.new {wB : World} {g h c n b : Nat} {v : Value} {L : List Pr} {early : Bool} {j : Nat} {W W' : World} (hi : GoB wB g h c n b v L early j W) (hk : Keeps [] W W') : GoB wB g h c n b v L early j W' :=
  ⟨hi.ring.keeps hk (by simp) (by simp) (by simp), hi.keeps.trans hk, hi.sees.keeps hk (by simp), hk.heap hi.box4 (by simp), hk.heap hi.box5 (by simp), hk.heap hi.box6 (by simp), hk.heap hi.box7 (by simp)⟩
theorem GoB.count {wB : World} {g h c n b : Nat} {v : Value} {L : List Pr} {early : Bool} {j : Nat} {W : World} (hi : GoB wB g h c n b v L early j W) (hb : wB.heap.size ≤ b) (hg : g < b ∧ h < b ∧ c < b) (i : Nat) : GoB wB g h c n b v L early i (W.setCell ⟨b + 1 + 1 + 1, 0, none⟩ (.int .i64 i)) := by
  have hk : Keeps [b + 1 + 1 + 1] W (W.setCell ⟨b + 1 + 1 + 1, 0, none⟩ (.int .i64 i)) := (Keeps.refl _ _).setCell (by simp) _
  refine ⟨hi.ring.keeps hk (by simp; omega) (by simp; omega) (by simp; omega), hi.keeps.step hk (by simp; omega), ?_, hk.heap hi.box4 (by simp; omega), hk.heap hi.box5 (by simp), hk.heap hi.box6 (by simp), ?_⟩
  · exact hi.sees.keeps hk (by simp)
  · rw [heap_setCell_self hi.box7]
    simp

/-- wp_range where the round's entry makes a box. -/
theorem Rng.wp_range2 {P : Program} {g : Operand} {ps : Array Tmp} {assign body : Code} {Q : Exit → Act → World → Prop} {a : Act} {w : World} {gf : Nat} {lb : Array Value}
    (hg : a.eval g = .func (.func gf) #[] lb) (eg : ∀ args w, (callFunc gf args).run P w = .ok (.enter gf args) w) {N : Nat} {elem : Nat → Array Value} (hit : Rng.Iter P gf lb N elem w.heap.size w) (hps : ∀ k, (elem k).size = ps.size)
    (I : Nat → World → Prop) (Ix : Code → World → Prop) (Bx : Nat → Nat → World → Prop) (A₁ : Nat → Nat → Act)
    (hI : ∀ k W W', I k W → Rng.Turn w.heap.size W W' → I k W') (hIx : ∀ c W W', Ix c W → Rng.Turn w.heap.size W W' → Ix c W') (hBx : ∀ k b W W', Bx k b W → Rng.Turn w.heap.size W W' → Bx k b W') (h0 : I 0 w)
    (hassign : ∀ y k W, k < N → I k W → assign.wpIn (Fence.wide.inRound y) 0 P (Exit.then (fun a₁ W₁ => (∃ b, a₁ = A₁ k b ∧ Bx k b W₁) ∧ Rng.Hold w.heap.size W W₁) (fun _ _ _ => False)) { tmps := (ps.zip (elem k)).foldl (fun t (p, v) => t.setIfInBounds p v) a.tmps, defers := [] } W)
    (hbody : ∀ y k b W, k < N → Bx k b W → body.wpIn (Fence.wide.inRound y) 0 P (Rng.RoundOut w.heap.size (I (k + 1)) Ix W) (A₁ k b) W)
    (hdone : ∀ D W, w.heap.size ≤ D → I N W → W.heap[D]? = some (.deferred (some [])) → Q .normal { a with defers := { target := .collected D, args := #[] } :: a.defers } W)
    (hstop : ∀ D c W, w.heap.size ≤ D → Ix c W → W.heap[D]? = some (.deferred (some [])) → c.wp P Q { a with defers := { target := .collected D, args := #[] } :: a.defers } W) :
    (Code.rangeFunc g ps assign body).wp P Q a w :=
  Rng.wp_range hg eg hit hps I Ix (fun k a₁ W => ∃ b, a₁ = A₁ k b ∧ Bx k b W) hI hIx (fun k _ W W' ⟨b, h1, h2⟩ ht => ⟨b, h1, hBx k b W W' h2 ht⟩) h0 hassign (fun y k _ W hk ⟨b, h1, h2⟩ => h1 ▸ hbody y k b W hk h2) hdone hstop

attribute [local go_sem] Oper.semAt_some
set_option maxHeartbeats 1600000 in
set_option maxRecDepth 100000 in
theorem gone {g h c n : Nat} {L : List Pr} {v : Value} {early : Bool} {w : World} (hr : Is w g h c n L) (hs : Sees [g, h, c] w v L) :
    Calls Try.prog 21 #[.pointer (some ⟨g, 0, none⟩), v, .bool early] w fun e w' => e = .returned (.bool true) ∧ Keeps [] w w' := by
  have hL9 : L.length ≤ 256 := Nat.le_trans hr.len hr.cap
  obtain ⟨a, cp, rfl⟩ := hs.len
  refine (callsIn_wide (n := 9)).1 (callsIn_of_wp_marks Try.func21 rfl trivial ?_ rfl)
  refine wpIn_wide.2 ?_
  simp only [Try.ntmps21, List.size_toArray, List.length_cons, List.length_nil, Nat.reduceAdd, Nat.reduceSub, Array.replicate_succ, Array.replicate_zero, List.push_toArray, List.append_toArray, List.nil_append, List.cons_append]
  go_upto_region 2 with fail
  obtain ⟨b, hb⟩ : ∃ b, b = w.heap.size := ⟨_, rfl⟩
  obtain ⟨w1, hw1⟩ : ∃ w1, w1 = (((w.alloc (.cells #[.slice a L.length cp] 50)).alloc (.cells #[.bool early] 4)).alloc (.cells #[.bool false] 4)).alloc (.cells #[.int .i64 0] 3) := ⟨_, rfl⟩
  rw [← hw1, ← hb]
  have hk1 : Keeps [] w w1 := by rw [hw1]; exact ((((Keeps.refl _ _).alloc _).alloc _).alloc _).alloc _
  have hlt := hr.lts
  have HI0 : Hid (GoB w g h c n b (.slice a L.length cp) L early 0 w1) := by
    obtain ⟨x1, x2, x3, x4⟩ := alloc4 w (.cells #[.slice a L.length cp] 50) (.cells #[.bool early] 4) (.cells #[.bool false] 4) (.cells #[.int .i64 0] 3)
    rw [← hw1, ← hb] at x1 x2 x3 x4
    exact ⟨hr.keeps hk1 (by simp) (by simp) (by simp), hk1, (hs.more (by omega)).keeps hk1 (by simp), x1, x2, x3, x4⟩
  have hgb : g < b ∧ h < b ∧ c < b := by omega
  have hbw : w.heap.size ≤ b := by omega
  clear hw1 hk1 hlt hr hs hb
  go_wp2_with fail
  refine (RPair.all _ _).mono ?_
  rintro e w2 ⟨rfl, rfl⟩
  go_wp2_with fail
  obtain ⟨b8, hb8⟩ : ∃ b8, b8 = w1.heap.size := ⟨_, rfl⟩
  obtain ⟨w4, hw4⟩ : ∃ w4, w4 = w1.alloc (.cells #[.pointer (some ⟨g, 0, none⟩)] 45) := ⟨_, rfl⟩
  rw [← hw4, ← hb8]
  have hk4 : Keeps [] w1 w4 := by rw [hw4]; exact (Keeps.refl _ _).alloc _
  have hx8 : w4.cell? ⟨b8, 0, none⟩ = some (.pointer (some ⟨g, 0, none⟩)) := by rw [hw4, hb8]; exact (cell_at (heap_alloc_new _ _) rfl).1
  have HI : Hid (GoB w g h c n b (.slice a L.length cp) L early 0 w4) := HI0.out.new hk4
  have h7 := lt_of_block HI.out.box7
  clear hk4 hw4 HI0 hb8
  obtain ⟨B, hB⟩ : ∃ B, B = w4.heap.size := ⟨_, rfl⟩
  have HBB := Go.Lib.hid hB
  apply Rng.wp_range2 (gf := 36) (lb := #[.pointer (some ⟨b8, 0, none⟩)]) rfl (enters_of Try.func36 (by kernel_rfl) rfl) (RPair.all_iter hx8 HI.out.ring) (fun _ => rfl)
    (I := fun j W => GoB w g h c n b (.slice a L.length cp) L early j W) (Ix := fun c' W => c' = .exit 0 ∧ early = true ∧ 2 ≤ L.length ∧ GoB w g h c n b (.slice a L.length cp) L early 2 W)
    (Bx := fun j bx W => W.heap[bx]? = some (.cells #[.int .i64 (nth L j).n, .string (nth L j).s] 49 (0, 0)) ∧ GoB w g h c n b (.slice a L.length cp) L early j W)
    (hI := fun j W W' hi ht => hi.turn ht (by omega) (by omega)) (hIx := fun _ _ _ h ht => ⟨h.1, h.2.1, h.2.2.1, h.2.2.2.turn ht (by omega) (by omega)⟩)
    (hBx := fun j bx W W' h ht => ⟨ht.heap h.1, h.2.turn ht (by omega) (by omega)⟩) (h0 := HI.out)
  case hassign =>
    intro y j W hj hi
    simp only [RPair.elem, RPair.encv, RPair.agg]
    gi_wp2
    obtain ⟨bx, hbx⟩ : ∃ bx, bx = W.heap.size := ⟨_, rfl⟩
    have h1 := heap_alloc_new W (.cells #[.int .i64 (nth L j).n, .string (nth L j).s] 49)
    rw [← hbx] at h1 ⊢
    exact ⟨⟨bx, rfl, h1, hi.new ((Keeps.refl _ _).alloc _)⟩, Rng.Hold.of_keeps ((Keeps.refl [] _).alloc _) (by simp)⟩
  case hbody =>
    rintro y j bx W hj ⟨hbx, hi⟩
    have HI := Go.Lib.hid hi
    obtain ⟨x, hx⟩ : ∃ x, L[j]? = some x := ⟨_, List.getElem?_eq_getElem hj⟩
    rw [RPair.nth_at hx] at hbx
    obtain ⟨q0, q1, _⟩ := cells2 hbx
    obtain ⟨c4, _⟩ := cell_at HI.out.box4 (p := 0) rfl
    obtain ⟨c5, _⟩ := cell_at HI.out.box5 (p := 0) rfl
    obtain ⟨c7, f7⟩ := cell_at HI.out.box7 (p := 0) rfl
    obtain ⟨sb, so, rfl, hsb, s0, s1⟩ := HI.out.sees.get hx
    have d1 : decide (L.length ≤ j) = false := decide_eq_false (by omega)
    have d2 : decide ((L.length : Int) ≤ (j : Int)) = false := decide_eq_false (by omega)
    have hsz := HI.out.keeps.size
    have hcnt : ∀ q : Nat, GoB w g h c n b (.slice (some ⟨sb, so, none⟩) L.length cp) L early (j + 1) ((W.drewN q).setCell ⟨b + 1 + 1 + 1, 0, none⟩ (.int .i64 (↑j + 1))) := fun q =>
      (HI.out.new ((Keeps.refl [] W).drewN q)).count hbw hgb (j + 1)
    have hhold : ∀ q : Nat, Rng.Hold w4.heap.size W ((W.drewN q).setCell ⟨b + 1 + 1 + 1, 0, none⟩ (.int .i64 (↑j + 1))) := fun q =>
      Rng.Hold.of_keeps (((Keeps.refl [b + 1 + 1 + 1] W).drewN q).setCell (by simp) _) (by simp; omega)
    have HCNT := Go.Lib.hid hcnt
    have HHOLD := Go.Lib.hid hhold
    clear hcnt hhold hi
    cases early with
    | false =>
      gi_wp2_with fail
      refine QRound.wpIn_region_quiet_r (by kernel_rfl) (by kernel_rfl) (by kernel_rfl) ?_
      repeat (gi_big_quiet_step (fail))
      refine wpQuietIn_nil ?_
      rintro _ ⟨nq, rfl⟩
      gi_wp2
      exact ⟨HHOLD.out _, HCNT.out _⟩
    | true =>
      by_cases hj1 : j = 1
      · have d5 : ((j : Int) + 1 == 2) = true := by simp; omega
        have d6 : decide ((j : Int) + 1 = 2) = true := decide_eq_true (by omega)
        have HJ1 := Go.Lib.hid hj1
        clear hj1
        gi_wp2_with fail
        refine QRound.wpIn_region_quiet_r (by kernel_rfl) (by kernel_rfl) (by kernel_rfl) ?_
        repeat (gi_big_quiet_step (fail))
        refine wpQuietIn_nil ?_
        rintro _ ⟨nq, rfl⟩
        gi_wp2
        refine ⟨HHOLD.out _, rfl, (by have := HJ1.out; omega), ?_⟩
        have := HCNT.out nq
        rw [HJ1.out] at this ⊢
        exact this
      · have d5 : ((j : Int) + 1 == 2) = false := by simp; omega
        have d6 : decide ((j : Int) + 1 = 2) = false := decide_eq_false (by omega)
        gi_wp2_with fail
        refine QRound.wpIn_region_quiet_r (by kernel_rfl) (by kernel_rfl) (by kernel_rfl) ?_
        repeat (gi_big_quiet_step (fail))
        refine wpQuietIn_nil ?_
        rintro _ ⟨nq, rfl⟩
        gi_wp2
        exact ⟨HHOLD.out _, HCNT.out _⟩
  case hdone =>
    intro D W hD hi hK
    have HI := Go.Lib.hid hi
    have HK := Go.Lib.hid hK
    clear hi hK
    obtain ⟨c4, _⟩ := cell_at HI.out.box4 (p := 0) rfl
    obtain ⟨c5, _⟩ := cell_at HI.out.box5 (p := 0) rfl
    obtain ⟨c6, f6⟩ := cell_at HI.out.box6 (p := 0) rfl
    obtain ⟨c7, f7⟩ := cell_at HI.out.box7 (p := 0) rfl
    go_wp2
    have hDm : (W.setCell ⟨b + 1 + 1, 0, none⟩ (.bool true)).heap[D]? = some (.deferred (some [])) := by
      rw [Below.heap_setCell _ _ _ _ (by simp; omega)]; exact HK.out
    refine ⟨by simp, .inl ⟨_, _, rfl, run_takeDeferred hDm, ?_⟩⟩
    have hc2 : ((W.setCell ⟨b + 1 + 1, 0, none⟩ (.bool true)).putObj D (.deferred none)).cell? ⟨b + 1 + 1, 0, none⟩ = some (.bool true) :=
      Rng.cell_putObj (cell_at (heap_setCell_self (cs := #[.bool false]) (t := 4) (fr := (0, 0)) HI.out.box6) rfl).1 (by simp; omega) _
    refine ⟨.bool true, ?_, rfl, Rng.putNew (HI.out.keeps.setNew (by simp; omega) _) (by omega) _⟩
    simp [results, Try.f21, go_sem, hc2]
  case hstop =>
    rintro D c' W hD ⟨rfl, rfl, h2, hi⟩ hK
    have HI := Go.Lib.hid hi
    have HK := Go.Lib.hid hK
    clear hi hK
    obtain ⟨c4, _⟩ := cell_at HI.out.box4 (p := 0) rfl
    obtain ⟨c5, _⟩ := cell_at HI.out.box5 (p := 0) rfl
    obtain ⟨c6, f6⟩ := cell_at HI.out.box6 (p := 0) rfl
    obtain ⟨c7, f7⟩ := cell_at HI.out.box7 (p := 0) rfl
    go_wp2
    all_goals
      have hDm : (W.setCell ⟨b + 1 + 1, 0, none⟩ (.bool true)).heap[D]? = some (.deferred (some [])) := by
        rw [Below.heap_setCell _ _ _ _ (by simp; omega)]; exact HK.out
      refine ⟨by simp, .inl ⟨_, _, rfl, run_takeDeferred hDm, ?_⟩⟩
      have hc2 : ((W.setCell ⟨b + 1 + 1, 0, none⟩ (.bool true)).putObj D (.deferred none)).cell? ⟨b + 1 + 1, 0, none⟩ = some (.bool true) :=
        Rng.cell_putObj (cell_at (heap_setCell_self (cs := #[.bool false]) (t := 4) (fr := (0, 0)) HI.out.box6) rfl).1 (by simp; omega) _
      refine ⟨.bool true, ?_, rfl, Rng.putNew (HI.out.keeps.setNew (by simp; omega) _) (by omega) _⟩
      simp [results, Try.f21, go_sem, hc2]
end Go.Proofs.Ytoncobhjdplamaa
