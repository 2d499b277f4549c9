/- A range over a function, as a law of the lone walk: the iterator by a contract that hands over a known row of elements, the loop's body by one walk of a round. No condition. -/
import Derived.RangeFuncNested
import Derived.RangeFuncCalls
import Derived.RangeFuncLeaves
import Derived.WalkKit
import Derived.OwnWalkIn
import Derived.TacticsInMore
import Derived.LoopNIn
import Derived.LoopIn
import Derived.Shelf.Abstract
import Derived.Test.YtldnnkceeeinlaaRingData
namespace Go.Proofs.Ytldnnkceeeinlaa
namespace Rng
open Go Go.RowKit

/-- What an iterator and the loop's own book-keeping may do: new blocks; a turn of a block that is no cells and lies at or beyond B. -/
structure Turn (B : Nat) (W W' : World) : Prop where
  os : W'.os = W.os
  tape : W'.tape = W.tape
  output : W'.output = W.output
  size : W.heap.size ≤ W'.heap.size
  keep : ∀ (k : Nat) (o : Obj), W.heap[k]? = some o → (k < B ∨ o.isCells = true) → W'.heap[k]? = some o

/-- Blocks of events: a round may write them, wherever they lie. -/
def soft : Obj → Bool
  | .cells _ t _ => t == 31
  | _ => false
/-- What a round may do beyond B: new blocks, and events. -/
structure Hold (B : Nat) (W W' : World) : Prop where
  size : W.heap.size ≤ W'.heap.size
  keep : ∀ (k : Nat) (o : Obj), B ≤ k → soft o = false → W.heap[k]? = some o → W'.heap[k]? = some o

/-- Blocks of cells from B on lie as they lay. -/
def KeepsCells (B : Nat) (W W' : World) : Prop := ∀ k cs t fr, B ≤ k → (t == 31) = false → W.heap[k]? = some (.cells cs t fr) → W'.heap[k]? = some (.cells cs t fr)

theorem Turn.refl (B : Nat) (W : World) : Turn B W W := ⟨rfl, rfl, rfl, Nat.le_refl _, fun _ _ h _ => h⟩
theorem Turn.trans {B : Nat} {a b c : World} (h : Turn B a b) (k : Turn B b c) : Turn B a c :=
  ⟨k.os.trans h.os, k.tape.trans h.tape, k.output.trans h.output, Nat.le_trans h.size k.size, fun i o ho hc => k.keep i o (h.keep i o ho hc) hc⟩
theorem Turn.grown {B : Nat} {W W' : World} (h : W.grownBy W' none) : Turn B W W' :=
  ⟨h.os, h.tape, h.output, h.size, fun k o ho _ => (h.block k (lt_of_block ho) (by simp)).trans ho⟩
theorem Turn.alloc {B : Nat} (W : World) (o : Obj) : Turn B W (W.alloc o) := Turn.grown (World.grownBy_alloc W o none)
theorem Turn.putObj {B : Nat} {W : World} {l : Nat} {o : Obj} (o' : Obj) (hB : B ≤ l) (hl : W.heap[l]? = some o) (ho : o.isCells = false) : Turn B W (W.putObj l o') :=
  ⟨rfl, rfl, rfl, by simp [World.putObj], fun k q hk hc => by
    have : k ≠ l := by
      rintro rfl
      rw [hl] at hk
      obtain rfl : o = q := by simpa using hk
      rcases hc with hc | hc
      · omega
      · rw [ho] at hc; cases hc
    rw [World.putObj_heap_other this]; exact hk⟩
theorem Turn.below {B n : Nat} {W W' : World} (h : Turn B W W') (hn : n ≤ B) (hs : n ≤ W.heap.size) : Below n W W' :=
  ⟨h.os, h.tape, h.output, h.size, fun k hk => by
    obtain ⟨o, ho⟩ : ∃ o, W.heap[k]? = some o := ⟨_, Array.getElem?_eq_getElem (by omega)⟩
    rw [h.keep k o ho (.inl (by omega)), ho]⟩
theorem Turn.cell {B : Nat} {W W' : World} (h : Turn B W W') {p : Addr} {v : Value} (hc : W.cell? p = some v) : W'.cell? p = some v := by
  unfold World.cell? at hc ⊢
  cases ho : W.heap[p.block]? with
  | none => rw [ho] at hc; cases hc
  | some o =>
    rw [ho] at hc
    cases o with
    | cells cs t fr => rw [h.keep _ _ ho (.inr rfl)]; exact hc
    | _ => cases hc
theorem Turn.heap {B : Nat} {W W' : World} (h : Turn B W W') {k : Nat} {cs : Array Value} {t : TypeId} {fr : Nat × Nat} (hc : W.heap[k]? = some (.cells cs t fr)) : W'.heap[k]? = some (.cells cs t fr) := h.keep _ _ hc (.inr rfl)

theorem Hold.refl (B : Nat) (W : World) : Hold B W W := ⟨Nat.le_refl _, fun _ _ _ _ h => h⟩
theorem Hold.trans {B : Nat} {a b c : World} (h : Hold B a b) (k : Hold B b c) : Hold B a c := ⟨Nat.le_trans h.size k.size, fun i o hi hs ho => k.keep i o hi hs (h.keep i o hi hs ho)⟩
theorem Hold.of_keeps {B : Nat} {S : List Nat} {W W' : World} (h : Keeps S W W') (hS : ∀ x ∈ S, x < B) : Hold B W W' :=
  ⟨h.size, fun k _ hk _ ho => h.heap ho (fun hm => by have := hS k hm; omega)⟩

theorem KeepsCells.of_hold {B : Nat} {W W' : World} (h : Hold B W W') : KeepsCells B W W' := fun k _ _ _ hk hs hc => h.keep k _ hk hs hc
theorem KeepsCells.of_turn {B : Nat} {W W' : World} (h : Turn B W W') : KeepsCells B W W' := fun k _ _ _ _ _ hc => h.keep k _ hc (.inr rfl)
theorem KeepsCells.trans {B : Nat} {a b c : World} (h : KeepsCells B a b) (k : KeepsCells B b c) : KeepsCells B a c := fun q cs t fr hq hs hc => k q cs t fr hq hs (h q cs t fr hq hs hc)

/-- Called with yield, the function hands over the elements 0, 1, .., N - 1, one by one, or stops behind the first 'no'; where the world below B is w's. -/
def Iter (P : Program) (gf : Nat) (lb : Array Value) (N : Nat) (elem : Nat → Array Value) (B : Nat) (w : World) : Prop :=
  ∀ (y : Nat) (J : Nat → World → Prop) (Jx : World → Prop) (W : World), Below B w W → B ≤ W.heap.size →
    (∀ k W W', J k W → W.grownBy W' none → J k W') →
    (∀ k W, k < N → J k W → YieldAt Fence.wide 0 P y (elem k) W fun e W' => (e = .returned (.bool true) ∧ J (k + 1) W' ∧ KeepsCells B W W') ∨ (e = .returned (.bool false) ∧ Jx W')) →
    J 0 W → Calls P gf (#[.func (.yield y) #[] #[]] ++ lb) W fun e W' => (∃ v, e = .returned v) ∧ (J N W' ∨ Jx W')

theorem yield_any {m m' : Nat} {P : Program} {l : Nat} {args : Array Value} {W : World} {R : Ending → World → Prop} (h : YieldAt Fence.wide m P l args W R) : YieldAt Fence.wide m' P l args W R := by
  obtain ⟨fn, tmps, assign, body, hy, hR⟩ := h
  exact ⟨fn, tmps, assign, body, hy, hR.1, fun c cs _ => hR.2 c cs (room_wide _)⟩

/-- How a round's body may be left. -/
def RoundOut (B : Nat) (I : World → Prop) (Ix : Code → World → Prop) (W : World) : Exit → Act → World → Prop
  | .normal, _, W' => Hold B W W' ∧ I W'
  | .ret, _, W' => Hold B W W' ∧ Ix .ret W'
  | .exit id, _, W' => Hold B W W' ∧ Ix (.exit id) W'
  | .goto t, _, W' => Hold B W W' ∧ Ix (.goto t) W'
  | .panic _, _, _ => False
  | .outgrown, _, _ => False

theorem isCells_loop (r : Loop) : (Obj.loop r).isCells = false := rfl
theorem isCells_deferred (d : Option (List Deferred)) : (Obj.deferred d).isCells = false := rfl

theorem wp_range {P : Program} {g : Operand} {ps : Array Tmp} {assign body : Code} {Q : Exit → Act → World → Prop} {a : Act} {w : World} {gf : Nat} {lb : Array Value}
    (hg : a.eval g = .func (.func gf) #[] lb) (eg : ∀ args w, (callFunc gf args).run P w = .ok (.enter gf args) w) {N : Nat} {elem : Nat → Array Value} (hit : Iter P gf lb N elem w.heap.size w) (hps : ∀ k, (elem k).size = ps.size)
    (I : Nat → World → Prop) (Ix : Code → World → Prop) (I' : Nat → Act → World → Prop)
    (hI : ∀ k W W', I k W → Turn w.heap.size W W' → I k W') (hIx : ∀ c W W', Ix c W → Turn w.heap.size W W' → Ix c W') (hI' : ∀ k a₁ W W', I' k a₁ W → Turn w.heap.size W W' → I' k a₁ W')
    (h0 : I 0 w)
    (hassign : ∀ y k W, k < N → I k W → assign.wpIn (Fence.wide.inRound y) 0 P (Exit.then (fun a₁ W₁ => I' k a₁ W₁ ∧ Hold w.heap.size W W₁) (fun _ _ _ => False)) { tmps := (ps.zip (elem k)).foldl (fun t (p, v) => t.setIfInBounds p v) a.tmps, defers := [] } W)
    (hbody : ∀ y k a₁ W, k < N → I' k a₁ W → body.wpIn (Fence.wide.inRound y) 0 P (RoundOut w.heap.size (I (k + 1)) Ix W) a₁ W)
    (hdone : ∀ D W, w.heap.size ≤ D → I N W → W.heap[D]? = some (.deferred (some [])) → Q .normal { a with defers := { target := .collected D, args := #[] } :: a.defers } W)
    (hstop : ∀ D c W, w.heap.size ≤ D → Ix c W → W.heap[D]? = some (.deferred (some [])) → c.wp P Q { a with defers := { target := .collected D, args := #[] } :: a.defers } W) :
    (Code.rangeFunc g ps assign body).wp P Q a w := by
  refine (wpIn_wide (n := 1)).1 (wpIn_rangeFunc ?_)
  intro fn _
  obtain ⟨B, hB⟩ : ∃ B, B = w.heap.size := ⟨_, rfl⟩
  rw [← hB] at hit hI hIx hI' hassign hbody hdone hstop
  obtain ⟨rc, hrc⟩ : ∃ rc : LoopState → Option Code → Loop, rc = fun st pe => { state := st, pending := pe, fn, tmps := a.tmps, params := ps, assign, body, defers := w.heap.size } := ⟨_, rfl⟩
  obtain ⟨W1, hW1⟩ : ∃ W1, W1 = (w.alloc (.deferred (some []))).alloc (.loop (rc .ready none)) := ⟨_, rfl⟩
  have hl1 : W1.heap[B + 1]? = some (.loop (rc .ready none)) := by
    rw [hW1, hB]
    have := World.alloc_heap_new (w.alloc (.deferred (some []))) (.loop (rc .ready none))
    rwa [World.size_alloc] at this
  have hd1 : W1.heap[B]? = some (.deferred (some [])) := by
    rw [hW1, hB, Below.heap_alloc _ _ _ (by simp)]
    exact World.alloc_heap_new w _
  have ht1 : Turn B w W1 := by rw [hW1]; exact (Turn.alloc _ _).trans (Turn.alloc _ _)
  refine ⟨B + 1, [{ target := .collected B, args := #[] }], W1, { target := .fn (.func gf) lb, args := #[.func (.yield (B + 1)) #[] #[]] }, W1, gf, #[.func (.yield (B + 1)) #[] #[]] ++ lb, W1, ?_, ?_, fun _ _ => trivial, ?_, fun h => by simp [Fence.wide] at h, ?_⟩
  · rw [hW1, hrc, hB]
    exact run_enterLoop_outer _ _ _ _ _
  · simp only [resolve, hg]
    simp [go_sem]
  · simp [invoke, go_sem, eg]
  refine callsIn_wide.2 ((hit (B + 1)
    (fun k W => I k W ∧ W.heap[B + 1]? = some (.loop (rc .ready none)) ∧ W.heap[B]? = some (.deferred (some [])))
    (fun W => ∃ c, Ix c W ∧ W.heap[B + 1]? = some (.loop (rc .done (some c))) ∧ W.heap[B]? = some (.deferred (some [])))
    W1 (ht1.below (Nat.le_refl _) (by omega)) (by rw [hB]; exact ht1.size) ?_ ?_ ⟨hI 0 _ _ h0 ht1, hl1, hd1⟩).mono ?_)
  · rintro k W W' ⟨hi, hl, hd⟩ hgr
    exact ⟨hI k _ _ hi (Turn.grown hgr), (hgr.block _ (lt_of_block hl) (by simp)).trans hl, (hgr.block _ (lt_of_block hd) (by simp)).trans hd⟩
  · rintro k W hk ⟨hi, hl, hd⟩
    have hy := run_yield (P := P) (args := elem k) hl (by rw [hrc]; exact hps k)
    rw [hrc] at hy
    refine ⟨fn, _, assign, body, hy, roundIn_of_wpIn trivial (wpIn_mono (hassign (B + 1) k W hk hi) ?_)⟩
    intro e a₁ Wa hp
    cases e with
    | normal =>
      obtain ⟨hi', hh⟩ := hp
      have hla := hh.keep (B + 1) _ (by omega) rfl hl
      have hda := hh.keep B _ (Nat.le_refl _) rfl hd
      refine ⟨_, run_beginRound hla (by rw [hrc]), ?_⟩
      obtain ⟨Wb, hWb⟩ : ∃ Wb, Wb = Wa.putObj (B + 1) (.loop { rc .ready none with state := .busy }) := ⟨_, rfl⟩
      rw [← hWb]
      have htb : Turn B Wa Wb := by rw [hWb]; exact Turn.putObj _ (by omega) hla rfl
      have hlb : Wb.heap[B + 1]? = some (.loop { rc .ready none with state := .busy }) := by rw [hWb]; exact World.putObj_heap_same (lt_of_block hla)
      have hdb : Wb.heap[B]? = some (.deferred (some [])) := by rw [hWb, World.putObj_heap_other (by omega)]; exact hda
      refine wpIn_mono (hbody (B + 1) k a₁ Wb hk (hI' k a₁ _ _ hi' htb)) ?_
      have fin : ∀ (j : Option Code) (Wc : World), Hold B Wb Wc → ∃ Wd, (Instr.endRound (B + 1) j).run P Wc = .ok (.bool j.isNone) Wd ∧ Turn B Wc Wd ∧
          Wd.heap[B + 1]? = some (.loop (rc (if j.isNone then .ready else .done) j)) ∧ Wd.heap[B]? = some (.deferred (some [])) := by
        intro j Wc hc
        have hlc := hc.keep (B + 1) _ (by omega) rfl hlb
        have hdc := hc.keep B _ (Nat.le_refl _) rfl hdb
        refine ⟨_, run_endRound j hlc, Turn.putObj _ (by omega) hlc rfl, ?_, ?_⟩
        · rw [World.putObj_heap_same (lt_of_block hlc), hrc]
        · rw [World.putObj_heap_other (by omega)]; exact hdc
      have kc : ∀ Wc Wd, Hold B Wb Wc → Turn B Wc Wd → KeepsCells B W Wd := fun Wc Wd h1 h2 =>
        (((KeepsCells.of_hold hh).trans (KeepsCells.of_turn htb)).trans (KeepsCells.of_hold h1)).trans (KeepsCells.of_turn h2)
      intro e a₂ Wc hq
      cases e with
      | normal =>
        obtain ⟨h1, h2⟩ := hq
        obtain ⟨Wd, hr, ht, hld, hdd⟩ := fin none Wc h1
        exact ⟨_, _, hr, .inl ⟨rfl, ⟨hI _ _ _ h2 ht, hld, hdd⟩, kc _ _ h1 ht⟩⟩
      | ret =>
        obtain ⟨h1, h2⟩ := hq
        obtain ⟨Wd, hr, ht, hld, hdd⟩ := fin (some .ret) Wc h1
        exact ⟨_, _, hr, .inr ⟨rfl, _, hIx _ _ _ h2 ht, hld, hdd⟩⟩
      | exit id =>
        obtain ⟨h1, h2⟩ := hq
        obtain ⟨Wd, hr, ht, hld, hdd⟩ := fin (some (.exit id)) Wc h1
        exact ⟨_, _, hr, .inr ⟨rfl, _, hIx _ _ _ h2 ht, hld, hdd⟩⟩
      | goto t =>
        obtain ⟨h1, h2⟩ := hq
        obtain ⟨Wd, hr, ht, hld, hdd⟩ := fin (some (.goto t)) Wc h1
        exact ⟨_, _, hr, .inr ⟨rfl, _, hIx _ _ _ h2 ht, hld, hdd⟩⟩
      | panic ch => exact hq.elim
      | outgrown => exact hq.elim
    | ret => exact hp.elim
    | exit id => exact hp.elim
    | goto t => exact hp.elim
    | panic ch => exact hp.elim
    | outgrown => exact hp.elim
  · rintro e W2 ⟨⟨v, rfl⟩, ⟨hi, hl, hd⟩ | ⟨c, hi, hl, hd⟩⟩
    · refine ⟨_, _, run_endLoop hl (by rw [hrc]; simp), ?_⟩
      rw [hrc]
      refine hdone B _ (Nat.le_refl _) (hI _ _ _ hi (Turn.putObj _ (by omega) hl rfl)) ?_
      rw [World.putObj_heap_other (by omega)]; exact hd
    · refine ⟨_, _, run_endLoop hl (by rw [hrc]; simp), ?_⟩
      rw [hrc]
      refine wpIn_wide.2 (hstop B c _ (Nat.le_refl _) (hIx _ _ _ hi (Turn.putObj _ (by omega) hl rfl)) ?_)
      rw [World.putObj_heap_other (by omega)]; exact hd
/-- .. where the assignment makes no memory: the frame of a round is named. -/
theorem wp_range1 {P : Program} {g : Operand} {ps : Array Tmp} {assign body : Code} {Q : Exit → Act → World → Prop} {a : Act} {w : World} {gf : Nat} {lb : Array Value}
    (hg : a.eval g = .func (.func gf) #[] lb) (eg : ∀ args w, (callFunc gf args).run P w = .ok (.enter gf args) w) {N : Nat} {elem : Nat → Array Value} (hit : Iter P gf lb N elem w.heap.size w) (hps : ∀ k, (elem k).size = ps.size)
    (I : Nat → World → Prop) (Ix : Code → World → Prop) (A₁ : Nat → Act)
    (hI : ∀ k W W', I k W → Turn w.heap.size W W' → I k W') (hIx : ∀ c W W', Ix c W → Turn w.heap.size W W' → Ix c W') (h0 : I 0 w)
    (hassign : ∀ y k W, k < N → I k W → assign.wpIn (Fence.wide.inRound y) 0 P (Exit.then (fun a₁ W₁ => a₁ = A₁ k ∧ W₁ = W) (fun _ _ _ => False)) { tmps := (ps.zip (elem k)).foldl (fun t (p, v) => t.setIfInBounds p v) a.tmps, defers := [] } W)
    (hbody : ∀ y k W, k < N → I k W → body.wpIn (Fence.wide.inRound y) 0 P (RoundOut w.heap.size (I (k + 1)) Ix W) (A₁ k) W)
    (hdone : ∀ D W, w.heap.size ≤ D → I N W → W.heap[D]? = some (.deferred (some [])) → Q .normal { a with defers := { target := .collected D, args := #[] } :: a.defers } W)
    (hstop : ∀ D c W, w.heap.size ≤ D → Ix c W → W.heap[D]? = some (.deferred (some [])) → c.wp P Q { a with defers := { target := .collected D, args := #[] } :: a.defers } W) :
    (Code.rangeFunc g ps assign body).wp P Q a w :=
  wp_range hg eg hit hps I Ix (fun k a₁ W => I k W ∧ a₁ = A₁ k) hI hIx (fun k _ W W' hi ht => ⟨hI k W W' hi.1 ht, hi.2⟩) h0
    (fun y k W hk hi => wpIn_mono (hassign y k W hk hi) (fun e a₁ W₁ hq => by
      cases e with
      | normal =>
        obtain ⟨h1, rfl⟩ := hq
        exact ⟨⟨hi, h1⟩, Hold.refl _ _⟩
      | _ => exact hq))
    (fun y k a₁ W hk hi => by rw [hi.2]; exact hbody y k W hk hi.1) hdone hstop

theorem putNew {S : List Nat} {a b : World} (h : Keeps S a b) {l : Nat} (hl : a.heap.size ≤ l) (o : Obj) : Keeps S a (b.putObj l o) :=
  ⟨h.os, h.tape, h.output, by rw [show (b.putObj l o).heap.size = b.heap.size by simp [World.putObj]]; exact h.size, fun k hk hs => by
    rw [World.putObj_heap_other (by omega)]
    exact h.block k hk hs⟩
/-- A cell of another block behind the mark's turn. -/
theorem cell_putObj {W : World} {p : Addr} {v : Value} (h : W.cell? p = some v) {D : Nat} (hD : p.block ≠ D) (o : Obj) : (W.putObj D o).cell? p = some v := by
  unfold World.cell? at h ⊢
  rw [World.putObj_heap_other hD]
  exact h
theorem turn_keeps {B : Nat} {S : List Nat} {w W W' : World} (h : Keeps S w W) (ht : Turn B W W') (hB : w.heap.size ≤ B) : Keeps S w W' :=
  ⟨ht.os.trans h.os, ht.tape.trans h.tape, ht.output.trans h.output, Nat.le_trans h.size ht.size, fun k hk hs => by
    obtain ⟨o, ho⟩ : ∃ o, W.heap[k]? = some o := ⟨_, Array.getElem?_eq_getElem (Nat.lt_of_lt_of_le hk h.size)⟩
    rw [ht.keep k o ho (.inl (by omega)), ← ho]
    exact h.block k hk hs⟩
theorem turn_ring {α : Type} {t E sz : Nat} {enc : α → List Value} {B : Nat} {W W' : World} {g h c n : Nat} {l : List α} (hr : RingIs t E sz enc W g h c n l) (ht : Turn B W W') (hc : c < B) : RingIs t E sz enc W' g h c n l := by
  obtain ⟨⟨f, arr, buf, s, r, h1, h2, h3, h4⟩, h5, h6⟩ := hr
  exact ⟨⟨f, arr, buf, s, r, ht.heap h1, ht.heap h2, ht.keep _ _ h3 (.inl hc), h4⟩, h5, h6⟩
end Rng
end Go.Proofs.Ytldnnkceeeinlaa
