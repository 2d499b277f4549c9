/- What a queue of events holds: the ring of pointers to items, the items, the losses. Plain facts about the memory; no program's step. -/
import Derived.Test.YtldnnkceeeinlaaRPtrNew
namespace Go.Proofs.Ytldnnkceeeinlaa
open Go.RowKit

/-- An event: whence, when, what. -/
structure Ev where
  s : Int
  t : Int
  v0 : Int
  v1 : Int
  v2 : Int
  v3 : Int
def evs (e : Ev) : List Value := [.int .i64 e.s, .int .i64 e.t, .int .i64 e.v0, .int .i64 e.v1, .int .i64 e.v2, .int .i64 e.v3]
def evA (e : Ev) : Value := .agg #[.int .i64 e.s, .int .i64 e.t, .int .i64 e.v0, .int .i64 e.v1, .int .i64 e.v2, .int .i64 e.v3]
/-- An item: an event, and until when each client waits for it. -/
structure It where
  e : Ev
  u : List Int
def ints (l : List Int) : List Value := l.map (.int .i64)
def itA (x : It) : Array Value := (evs x.e ++ ints x.u).toArray
def qA (g : Nat) (lost : List Int) : Array Value := (Value.pointer (some ⟨g, 0, none⟩) :: ints lost).toArray

theorem ints_get {l : List Int} {c : Nat} {x : Int} (h : l[c]? = some x) : (ints l)[c]? = some (.int .i64 x) := by simp [ints, h]
theorem itA_get {x : It} {c : Nat} {y : Int} (h : x.u[c]? = some y) : (itA x)[6 + c]? = some (.int .i64 y) := by
  simp only [itA, List.getElem?_toArray]
  rw [List.getElem?_append_right (by simp [evs])]
  simpa [evs] using ints_get h
theorem itA_set (x : It) (c : Nat) (y : Int) : (itA x).setIfInBounds (6 + c) (.int .i64 y) = itA ⟨x.e, x.u.set c y⟩ := by
  simp only [itA, List.setIfInBounds_toArray]
  congr 1
  rw [List.set_append_right _ _ (by simp [evs])]
  simp [evs, ints, List.map_set]
theorem qA_get {g : Nat} {lost : List Int} {c : Nat} {y : Int} (h : lost[c]? = some y) : (qA g lost)[1 + c]? = some (.int .i64 y) := by
  simp only [qA, List.getElem?_toArray]
  rw [Nat.add_comm 1 c, List.getElem?_cons_succ]
  exact ints_get h
theorem qA_zero (g : Nat) (lost : List Int) : (qA g lost)[0]? = some (.pointer (some ⟨g, 0, none⟩)) := rfl
theorem qA_set (g : Nat) (lost : List Int) (c : Nat) (y : Int) : (qA g lost).setIfInBounds (1 + c) (.int .i64 y) = qA g (lost.set c y) := by
  simp only [qA, List.setIfInBounds_toArray]
  congr 1
  rw [Nat.add_comm 1 c, List.set_cons_succ]
  simp [ints, List.map_set]
theorem qA_ring (g g' : Nat) (lost : List Int) : (qA g lost).setIfInBounds 0 (.pointer (some ⟨g', 0, none⟩)) = qA g' lost := by
  simp [qA]

/-- An object that the queue's own calls leave alone, wherever it lies: none of the queue's kinds. -/
def alien : Obj → Bool
  | .cells _ t _ => t != 70 && t != 73 && t != 93 && t != 71
  | .chan .. => false
  | _ => true

/-- What a call of the queue's may do: below B nothing; elsewhere to its own kinds of objects. -/
structure BK (B : Nat) (w w' : World) : Prop where
  os : w'.os = w.os
  tape : w'.tape = w.tape
  output : w'.output = w.output
  size : w.heap.size ≤ w'.heap.size
  keep : ∀ k o, w.heap[k]? = some o → (k < B ∨ alien o = true) → w'.heap[k]? = some o
theorem BK.refl (B : Nat) (w : World) : BK B w w := ⟨rfl, rfl, rfl, Nat.le_refl _, fun _ _ h _ => h⟩
theorem BK.trans {B : Nat} {a b c : World} (h : BK B a b) (k : BK B b c) : BK B a c :=
  ⟨k.os.trans h.os, k.tape.trans h.tape, k.output.trans h.output, Nat.le_trans h.size k.size, fun i o ho hc => k.keep i o (h.keep i o ho hc) hc⟩
theorem BK.of_keeps {B : Nat} {S : List Nat} {a b : World} (h : Keeps S a b) (hS : ∀ x ∈ S, B ≤ x ∧ ∀ o, a.heap[x]? = some o → alien o = false) : BK B a b :=
  ⟨h.os, h.tape, h.output, h.size, fun k o ho hc => by
    refine h.heap ho (fun hm => ?_)
    obtain ⟨h1, h2⟩ := hS k hm
    have h3 := h2 o ho
    rcases hc with hc | hc
    · omega
    · rw [h3] at hc; cases hc⟩
theorem BK.new {B : Nat} {a b : World} (h : Keeps [] a b) : BK B a b := BK.of_keeps h (by simp)
theorem BK.below {B : Nat} {a b : World} (h : BK B a b) (hB : B ≤ a.heap.size) : Below B a b :=
  ⟨h.os, h.tape, h.output, h.size, fun k hk => by
    have hlt : k < a.heap.size := by omega
    rw [h.keep k _ (Array.getElem?_eq_getElem hlt) (.inl hk), Array.getElem?_eq_getElem hlt]⟩
theorem BK.keeps {B : Nat} {S : List Nat} {w a b : World} (h : Keeps S w a) (k : BK B a b) (hB : w.heap.size ≤ B) : Keeps S w b :=
  ⟨k.os.trans h.os, k.tape.trans h.tape, k.output.trans h.output, Nat.le_trans h.size k.size, fun i hi hs => by
    have hlt : i < a.heap.size := Nat.lt_of_lt_of_le hi h.size
    rw [k.keep i _ (Array.getElem?_eq_getElem hlt) (.inl (by omega)), ← Array.getElem?_eq_getElem hlt]
    exact h.block i hi hs⟩

/-- THE QUEUE. -/
structure QAt (B : Nat) (W : World) (q g h c : Nat) (l : List (Nat × It)) (lost : List Int) : Prop where
  own : W.heap[q]? = some (.cells (qA g lost) 70 (0, 0))
  ring : RPtr.Is W g h c 64 (l.map (·.1))
  item : ∀ p ∈ l, W.heap[p.1]? = some (.cells (itA p.2) 73 (0, 0))
  wide : ∀ p ∈ l, p.2.u.length = 8
  nodup : (l.map (·.1)).Nodup
  lost8 : lost.length = 8
  base : B ≤ q ∧ B ≤ g ∧ B ≤ h ∧ B ≤ c ∧ ∀ p ∈ l, B ≤ p.1
def QIs (B : Nat) (W : World) (q : Nat) (l : List (Nat × It)) (lost : List Int) : Prop := ∃ g h c, QAt B W q g h c l lost
end Go.Proofs.Ytldnnkceeeinlaa
