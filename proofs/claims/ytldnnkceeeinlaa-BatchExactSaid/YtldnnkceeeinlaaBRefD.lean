/- The reference's queue of events in memory: a row of items at any place of its block, the losses. Plain facts; no program's step. -/
import Derived.Test.YtldnnkceeeinlaaBAcc
import Derived.ArgAppend
namespace Go.Proofs.Ytldnnkceeeinlaa
open Go.RowKit

def itL (x : It) : List Value := evs x.e ++ ints x.u
theorem itL_len {x : It} (h : x.u.length = 8) : (itL x).length = 14 := by simp [itL, evs, ints, h]
theorem itL_u {x : It} {c : Nat} {y : Int} (h : x.u[c]? = some y) : (itL x)[6 + c]? = some (.int .i64 y) := by
  have := itA_get h
  simpa [itA, itL] using this
theorem itL_set (x : It) (c : Nat) (y : Int) : (itL x).set (6 + c) (.int .i64 y) = itL ⟨x.e, x.u.set c y⟩ := by
  simp only [itL]
  rw [List.set_append_right _ _ (by simp [evs])]
  simp [evs, ints, List.map_set]

/-- A row of items in a block, from o on. -/
structure RowAt (W : World) (g o cap : Nat) (m : List It) : Prop where
  ex : ∃ cur : Array Value, W.heap[g]? = some (.cells cur 85 (0, 0)) ∧ m.length ≤ cap ∧ o + cap * 14 = cur.size ∧ ∀ k x, m[k]? = some x → ∀ j u, (itL x)[j]? = some u → cur[o + k * 14 + j]? = some u
/-- .. or nothing. -/
def RowL (B : Nat) (W : World) (v : Value) (m : List It) : Prop := (m = [] ∧ v = .slice none 0 0) ∨ ∃ g o cap, v = .slice (some ⟨g, o, none⟩) m.length cap ∧ B ≤ g ∧ cap ≤ maxLen ∧ RowAt W g o cap m
theorem RowL.form {B : Nat} {W : World} {v : Value} {m : List It} (h : RowL B W v m) : ∃ ad cp, v = .slice ad m.length cp := by
  rcases h with ⟨rfl, rfl⟩ | ⟨g, o, cap, rfl, _⟩
  · exact ⟨none, 0, rfl⟩
  · exact ⟨_, _, rfl⟩
theorem RowL.at {B : Nat} {W : World} {ad : Option Addr} {cp n : Nat} {m : List It} (h : RowL B W (.slice ad n cp) m) (hm : 0 < m.length) : ∃ g o, ad = some ⟨g, o, none⟩ ∧ B ≤ g ∧ cp ≤ maxLen ∧ RowAt W g o cp m := by
  rcases h with ⟨rfl, _⟩ | ⟨g, o, cap, hv, h1, h2, h3⟩
  · simp at hm
  · simp only [Value.slice.injEq] at hv
    obtain ⟨e1, _, e3⟩ := hv
    subst e3
    exact ⟨g, o, e1, h1, h2, h3⟩
theorem RowAt.cell {W : World} {g o cap : Nat} {m : List It} (h : RowAt W g o cap m) {k : Nat} {x : It} (hx : m[k]? = some x) {j : Nat} {u : Value} (hu : (itL x)[j]? = some u) : W.cell? ⟨g, o + k * 14 + j, none⟩ = some u ∧ W.frozen? ⟨g, o + k * 14 + j, none⟩ = false := by
  obtain ⟨cur, h1, _, _, h4⟩ := h.ex
  exact cell_at h1 (h4 k x hx j u hu)
theorem RowAt.line {W : World} {g o cap : Nat} {m : List It} (h : RowAt W g o cap m) {k : Nat} {x : It} (hx : m[k]? = some x) {c : Nat} {y : Int} (hy : x.u[c]? = some y) : W.cell? ⟨g, o + k * 14 + 6 + c, none⟩ = some (.int .i64 y) ∧ W.frozen? ⟨g, o + k * 14 + 6 + c, none⟩ = false := by
  have := h.cell hx (itL_u hy)
  rwa [← Nat.add_assoc] at this
theorem RowAt.keep {W W' : World} {g o cap : Nat} {m : List It} (h : RowAt W g o cap m) (hk : ∀ cur : Array Value, W.heap[g]? = some (.cells cur 85 (0, 0)) → W'.heap[g]? = some (.cells cur 85 (0, 0))) : RowAt W' g o cap m := by
  obtain ⟨cur, h1, h2⟩ := h.ex
  exact ⟨cur, hk cur h1, h2⟩
theorem RowAt.set {W : World} {g o cap : Nat} {m : List It} (h : RowAt W g o cap m) (h8 : ∀ x ∈ m, x.u.length = 8) {k : Nat} {x : It} (hx : m[k]? = some x) {c : Nat} (hc : c < 8) (y : Int) (n : Nat) :
    RowAt ((W.drewN n).setCell ⟨g, o + k * 14 + 6 + c, none⟩ (.int .i64 y)) g o cap (m.set k ⟨x.e, x.u.set c y⟩) := by
  obtain ⟨cur, h1, h2, h3, h4⟩ := h.ex
  have hk : k < m.length := (List.getElem?_eq_some_iff.1 hx).1
  refine ⟨cur.setIfInBounds (o + k * 14 + 6 + c) (.int .i64 y), heap_setCell_self (w := W.drewN n) h1, by rw [List.length_set]; exact h2, by simpa using h3, fun i z hz j u hu => ?_⟩
  by_cases e : i = k
  · subst e
    rw [List.getElem?_set_self hk] at hz
    obtain rfl := Option.some.inj hz
    rw [← itL_set] at hu
    have hxl := itL_len (h8 x (List.mem_of_getElem? hx))
    have hj : j < 14 := by
      have := (List.getElem?_eq_some_iff.1 hu).1
      rwa [List.length_set, hxl] at this
    by_cases e2 : 6 + c = j
    · subst e2
      rw [List.getElem?_set_self (by omega)] at hu
      obtain rfl := Option.some.inj hu
      have hlt : o + i * 14 + (6 + c) < cur.size := by
        have : i * 14 + 14 ≤ cap * 14 := by have : i + 1 ≤ cap := by omega
                                            omega
        omega
      rw [← Nat.add_assoc (o + i * 14) 6 c] at hlt ⊢
      simp [hlt]
    · rw [List.getElem?_set_ne e2] at hu
      rw [Array.getElem?_setIfInBounds_ne (by omega)]
      exact h4 i x hx j u hu
  · rw [List.getElem?_set_ne (Ne.symm e)] at hz
    have hj : j < 14 := by
      have := (List.getElem?_eq_some_iff.1 hu).1
      rwa [itL_len (h8 z (List.mem_of_getElem? hz))] at this
    have hne : i * 14 + j ≠ k * 14 + (6 + c) := cell_apart hj (by omega) e
    rw [Array.getElem?_setIfInBounds_ne (by omega)]
    exact h4 i z hz j u hu
theorem RowAt.tail {W : World} {g o cap : Nat} {x : It} {m : List It} (h : RowAt W g o cap (x :: m)) : RowAt W g (o + 14) (cap - 1) m := by
  obtain ⟨cur, h1, h2, h3, h4⟩ := h.ex
  simp only [List.length_cons] at h2
  refine ⟨cur, h1, by omega, by omega, fun k z hz j u hu => ?_⟩
  have := h4 (k + 1) z (by simpa using hz) j u hu
  rwa [show o + (k + 1) * 14 + j = o + 14 + k * 14 + j by omega] at this

def rA (v : Value) (lost : List Int) : Array Value := (v :: ints lost).toArray
theorem rA_get {v : Value} {lost : List Int} {c : Nat} {y : Int} (h : lost[c]? = some y) : (rA v lost)[1 + c]? = some (.int .i64 y) := by
  simp only [rA, List.getElem?_toArray]
  rw [Nat.add_comm 1 c, List.getElem?_cons_succ]
  exact ints_get h
theorem rA_set (v : Value) (lost : List Int) (c : Nat) (y : Int) : (rA v lost).setIfInBounds (1 + c) (.int .i64 y) = rA v (lost.set c y) := by
  simp only [rA, List.setIfInBounds_toArray]
  congr 1
  rw [Nat.add_comm 1 c, List.set_cons_succ]
  simp [ints, List.map_set]
theorem rA_row (v v' : Value) (lost : List Int) : (rA v lost).setIfInBounds 0 v' = rA v' lost := by simp [rA]

/-- THE REFERENCE'S QUEUE. -/
structure RQ (B : Nat) (W : World) (r : Nat) (v : Value) (m : List It) (lost : List Int) : Prop where
  own : W.heap[r]? = some (.cells (rA v lost) 55 (0, 0))
  row : RowL B W v m
  wide : ∀ x ∈ m, x.u.length = 8
  lost8 : lost.length = 8
  few : m.length ≤ 64
  base : B ≤ r
def RL (B : Nat) (W : World) (r : Nat) (m : List It) (lost : List Int) : Prop := ∃ v, RQ B W r v m lost

/-- An object that the reference's calls leave alone. -/
def far : Obj → Bool
  | .cells _ t _ => t != 55 && t != 85
  | _ => true
/-- What a call of the reference's may do. -/
structure RK (B : Nat) (w w' : World) : Prop where
  os : w'.os = w.os
  tape : w'.tape = w.tape
  output : w'.output = w.output
  size : w.heap.size ≤ w'.heap.size
  keep : ∀ (k : Nat) (o : Obj), w.heap[k]? = some o → (k < B ∨ far o = true) → w'.heap[k]? = some o
theorem RK.refl (B : Nat) (w : World) : RK B w w := ⟨rfl, rfl, rfl, Nat.le_refl _, fun _ _ h _ => h⟩
theorem RK.trans {B : Nat} {a b c : World} (h : RK B a b) (k : RK B b c) : RK B a c :=
  ⟨k.os.trans h.os, k.tape.trans h.tape, k.output.trans h.output, Nat.le_trans h.size k.size, fun i o ho hc => k.keep i o (h.keep i o ho hc) hc⟩
theorem RK.of_keeps {B : Nat} {S : List Nat} {a b : World} (h : Keeps S a b) (hS : ∀ x ∈ S, B ≤ x ∧ ∀ o, a.heap[x]? = some o → far o = false) : RK B a b :=
  ⟨h.os, h.tape, h.output, h.size, fun k o ho hc => by
    refine h.heap ho (fun hm => ?_)
    obtain ⟨h1, h2⟩ := hS k hm
    have h3 := h2 o ho
    rcases hc with hc | hc
    · omega
    · rw [h3] at hc; cases hc⟩
theorem RK.new {B : Nat} {a b : World} (h : Keeps [] a b) : RK B a b := RK.of_keeps h (by simp)
theorem RK.keeps {B : Nat} {w a b : World} (h : Keeps [] w a) (k : RK B a b) (hB : w.heap.size ≤ B) : Keeps [] w b :=
  ⟨k.os.trans h.os, k.tape.trans h.tape, k.output.trans h.output, Nat.le_trans h.size k.size, fun i hi hs => by
    have hlt : i < a.heap.size := Nat.lt_of_lt_of_le hi h.size
    rw [k.keep i _ (Array.getElem?_eq_getElem hlt) (.inl (by omega)), ← Array.getElem?_eq_getElem hlt]
    exact h.block i hi hs⟩
theorem RK.tame {B : Nat} {a b : World} (k : RK B a b) : ∀ (i : Nat) (o : Obj), a.heap[i]? = some o → alien o = false → b.heap[i]? = some o := fun i o ho ha =>
  k.keep i o ho (.inr (by
    cases o with
    | cells cs t fr =>
      simp only [alien, Bool.and_eq_false_iff, bne_eq_false_iff_eq] at ha
      rcases ha with ((rfl | rfl) | rfl) | rfl <;> rfl
    | _ => rfl))
section
variable {B r : Nat} {W W' : World} {v : Value} {m : List It} {lost : List Int}
theorem RowL.keep (h : RowL B W v m) (hk : ∀ (g : Nat) (cur : Array Value), W.heap[g]? = some (.cells cur 85 (0, 0)) → W'.heap[g]? = some (.cells cur 85 (0, 0))) : RowL B W' v m := by
  rcases h with h | ⟨g, o, cap, h1, h2, h3, h4⟩
  · exact .inl h
  · exact .inr ⟨g, o, cap, h1, h2, h3, h4.keep (hk g)⟩
/-- Another's steps. -/
theorem RQ.keep (h : RQ B W r v m lost) (hk : ∀ (i : Nat) (o : Obj), W.heap[i]? = some o → far o = false → W'.heap[i]? = some o) : RQ B W' r v m lost :=
  ⟨hk _ _ h.own rfl, h.row.keep (fun _ _ hg => hk _ _ hg rfl), h.wide, h.lost8, h.few, h.base⟩
theorem RL.keep (h : RL B W r m lost) (hk : ∀ (i : Nat) (o : Obj), W.heap[i]? = some o → far o = false → W'.heap[i]? = some o) : RL B W' r m lost := by
  obtain ⟨v, h⟩ := h
  exact ⟨v, h.keep hk⟩
theorem RL.new (h : RL B W r m lost) (hk : Keeps [] W W') : RL B W' r m lost := h.keep fun _ _ ho _ => hk.heap ho (by simp)
theorem RL.bk {B' : Nat} (h : RL B W r m lost) (hb : BK B' W W') : RL B W' r m lost := h.keep fun i o ho hf => hb.keep i o ho (.inr (by
  cases o with
  | cells cs t fr =>
    simp only [far, Bool.and_eq_false_iff, bne_eq_false_iff_eq] at hf
    rcases hf with rfl | rfl <;> rfl
  | _ => simp [far] at hf))
theorem RQ.lose (h : RQ B W r v m lost) (n c : Nat) (y : Int) : RQ B ((W.drewN n).setCell ⟨r, 1 + c, none⟩ (.int .i64 y)) r v m (lost.set c y) := by
  refine ⟨?_, h.row.keep (fun g cur hg => ?_), h.wide, by rw [List.length_set]; exact h.lost8, h.few, h.base⟩
  · rw [heap_setCell_self (w := W.drewN n) h.own, rA_set]
  · rw [Below.heap_setCell _ _ _ _ (block_ne hg h.own (by simp))]; exact hg
theorem RQ.loseRK (h : RQ B W r v m lost) (n c : Nat) (y : Value) : RK B W ((W.drewN n).setCell ⟨r, c, none⟩ y) :=
  RK.of_keeps (S := [r]) (((Keeps.refl _ _).drewN n).setCell (by simp) _) (fun x hx => by
    obtain rfl : x = r := by simpa using hx
    exact ⟨h.base, fun o ho => by rw [h.own] at ho; obtain rfl := Option.some.inj ho; rfl⟩)
theorem QL.rk {B' q : Nat} (h : QL B W q m lost) (hk : RK B' W W') : QL B W' q m lost := QL.tame h hk.tame
/-- Another row. -/
theorem RQ.swap (h : RQ B W r v m lost) {v' : Value} {m' : List It} (hr : RowL B W v' m') (h8 : ∀ x ∈ m', x.u.length = 8) (h64 : m'.length ≤ 64) : RQ B (W.setCell ⟨r, 0, none⟩ v') r v' m' lost := by
  refine ⟨?_, hr.keep (fun g cur hg => ?_), h8, h.lost8, h64, h.base⟩
  · rw [heap_setCell_self h.own, rA_row]
  · rw [Below.heap_setCell _ _ _ _ (block_ne hg h.own (by simp))]; exact hg
end
end Go.Proofs.Ytldnnkceeeinlaa
