/- More facts about the queue's memory: what a push, a loss and a new block make of it. No program's step. -/
import Derived.Test.YtldnnkceeeinlaaBRise
namespace Go.Proofs.Ytldnnkceeeinlaa
open Go.RowKit

theorem eight {l : List Int} (h : l.length = 8) : ∃ a0 a1 a2 a3 a4 a5 a6 a7, l = [a0, a1, a2, a3, a4, a5, a6, a7] := by
  rcases l with _ | ⟨a0, _ | ⟨a1, _ | ⟨a2, _ | ⟨a3, _ | ⟨a4, _ | ⟨a5, _ | ⟨a6, _ | ⟨a7, _ | ⟨a8, l⟩⟩⟩⟩⟩⟩⟩⟩⟩ <;> simp at h
  exact ⟨a0, a1, a2, a3, a4, a5, a6, a7, rfl⟩

section
variable {B q g h c : Nat} {w w' : World} {l : List (Nat × It)} {lost : List Int}
theorem QAt.lts (hq : QAt B w q g h c l lost) : q < w.heap.size ∧ g < w.heap.size ∧ h < w.heap.size ∧ c < w.heap.size ∧ ∀ p ∈ l, p.1 < w.heap.size :=
  ⟨lt_of_block hq.own, hq.ring.lts.1, hq.ring.lts.2.1, hq.ring.lts.2.2, fun p hp => lt_of_block (hq.item p hp)⟩
theorem QAt.kin (hq : QAt B w q g h c l lost) : ∀ x ∈ [g, h, c], B ≤ x ∧ ∀ o, w.heap[x]? = some o → alien o = false := by
  obtain ⟨⟨f, arr, buf, s, r, h1, h2, h3, h4⟩, h5, h6⟩ := hq.ring
  obtain ⟨b0, b1, b2, b3, b4⟩ := hq.base
  intro x hx
  simp only [List.mem_cons, List.not_mem_nil, or_false] at hx
  rcases hx with rfl | rfl | rfl
  · exact ⟨b1, fun o ho => by rw [h1] at ho; obtain rfl := Option.some.inj ho; rfl⟩
  · exact ⟨b2, fun o ho => by rw [h2] at ho; obtain rfl := Option.some.inj ho; rfl⟩
  · exact ⟨b3, fun o ho => by rw [h3] at ho; obtain rfl := Option.some.inj ho; rfl⟩
theorem ring_apart {n : Nat} {r : List Nat} (hr : RPtr.Is w g h c n r) {x : Nat} {cs : Array Value} {t : TypeId} {fr : Nat × Nat} (hx : w.heap[x]? = some (.cells cs t fr)) (h1 : t ≠ 93) (h2 : t ≠ 71) : x ∉ [g, h, c] := by
  obtain ⟨⟨f, arr, buf, s, r, k1, k2, k3, k4⟩, k5, k6⟩ := hr
  simp only [List.mem_cons, List.not_mem_nil, or_false, not_or]
  exact ⟨block_ne hx k1 (by simp [h1]), block_ne hx k2 (by simp [h2]), block_ne hx k3 (by simp)⟩
theorem QAt.item_ne (hq : QAt B w q g h c l lost) {p : Nat × It} (hp : p ∈ l) : p.1 ≠ q := block_ne (hq.item p hp) hq.own (by simp)
theorem QAt.new (hq : QAt B w q g h c l lost) (hk : Keeps [] w w') : QAt B w' q g h c l lost :=
  ⟨hk.heap hq.own (by simp), hq.ring.keeps hk (by simp) (by simp) (by simp), fun p hp => hk.heap (hq.item p hp) (by simp), hq.wide, hq.nodup, hq.lost8, hq.base⟩
theorem QIs.new (hq : QIs B w q l lost) (hk : Keeps [] w w') : QIs B w' q l lost := by
  obtain ⟨g, h, c, hq⟩ := hq
  exact ⟨g, h, c, hq.new hk⟩
/-- The ring holds other things of the same queue, or one more. -/
theorem QAt.turn (hq : QAt B w q g h c l lost) {l' : List (Nat × It)} (hr : RPtr.Is w' g h c 64 (l'.map (·.1))) (hk : Keeps [g, h, c] w w') (hn : (l'.map (·.1)).Nodup)
    (hsub : ∀ p ∈ l', p ∈ l ∨ B ≤ p.1 ∧ w.heap[p.1]? = some (.cells (itA p.2) 73 (0, 0)) ∧ p.2.u.length = 8) : QAt B w' q g h c l' lost := by
  have hx : ∀ p ∈ l', B ≤ p.1 ∧ w.heap[p.1]? = some (.cells (itA p.2) 73 (0, 0)) ∧ p.2.u.length = 8 := fun p hp => by
    rcases hsub p hp with h | h
    · exact ⟨hq.base.2.2.2.2 p h, hq.item p h, hq.wide p h⟩
    · exact h
  exact ⟨hk.heap hq.own (ring_apart hq.ring hq.own (by decide) (by decide)), hr, fun p hp => hk.heap (hx p hp).2.1 (ring_apart hq.ring (hx p hp).2.1 (by decide) (by decide)), fun p hp => (hx p hp).2.2, hn, hq.lost8,
    hq.base.1, hq.base.2.1, hq.base.2.2.1, hq.base.2.2.2.1, fun p hp => (hx p hp).1⟩
theorem QAt.drewN (hq : QAt B w q g h c l lost) (n : Nat) : QAt B (w.drewN n) q g h c l lost :=
  hq.new ((Keeps.refl _ _).drewN n)
theorem QAt.lose (hq : QAt B w q g h c l lost) (k : Nat) (y : Int) : QAt B (w.setCell ⟨q, 1 + k, none⟩ (.int .i64 y)) q g h c l (lost.set k y) := by
  have hk : Keeps [q] w (w.setCell ⟨q, 1 + k, none⟩ (.int .i64 y)) := (Keeps.refl _ _).setCell (by simp) _
  obtain ⟨f, arr, buf, s, r, k1, k2, k3, k4⟩ := hq.ring.ex
  refine ⟨?_, ?_, fun p hp => hk.heap (hq.item p hp) (by simp [hq.item_ne hp]), hq.wide, hq.nodup, by rw [List.length_set]; exact hq.lost8, hq.base⟩
  · rw [heap_setCell_self hq.own, qA_set]
  · exact hq.ring.keeps hk (by simp; exact block_ne k1 hq.own (by simp)) (by simp; exact block_ne k2 hq.own (by simp)) (by simp; exact block_ne k3 hq.own (by simp))
theorem QAt.loseBK (hq : QAt B w q g h c l lost) (n k : Nat) (y : Value) : BK B w ((w.drewN n).setCell ⟨q, 1 + k, none⟩ y) :=
  BK.of_keeps (S := [q]) (((Keeps.refl _ _).drewN n).setCell (by simp) _) (fun x hx => by
    obtain rfl : x = q := by simpa using hx
    exact ⟨hq.base.1, fun o ho => by rw [hq.own] at ho; obtain rfl := Option.some.inj ho; rfl⟩)
end

/-- The losses behind k clients of a dropped item. -/
def bumpTo (u lost : List Int) : Nat → List Int
  | 0 => lost
  | k + 1 => if 0 ≤ u.getD k (-1) then (bumpTo u lost k).set k (lost.getD k 0 + 1) else bumpTo u lost k
def bump (u lost : List Int) : List Int := bumpTo u lost 8
theorem bumpTo_len (u lost : List Int) (k : Nat) : (bumpTo u lost k).length = lost.length := by
  induction k with
  | zero => rfl
  | succ k ih => rw [bumpTo]; split <;> simp [ih]
theorem bumpTo_get (u lost : List Int) (k j : Nat) : (bumpTo u lost k)[j]? = if j < k ∧ 0 ≤ u.getD j (-1) then (lost[j]?).map (· + 1) else lost[j]? := by
  induction k with
  | zero => simp [bumpTo]
  | succ k ih =>
    rw [bumpTo]
    split
    · rename_i h
      rw [List.getElem?_set]
      split
      · rename_i hj
        subst hj
        rw [bumpTo_len, if_pos (c := k < k + 1 ∧ 0 ≤ u.getD k (-1)) ⟨by omega, h⟩]
        by_cases hk : k < lost.length
        · simp [hk]
        · simp [hk]
      · rename_i hj
        rw [ih]
        have : (j < k + 1 ∧ 0 ≤ u.getD j (-1)) ↔ (j < k ∧ 0 ≤ u.getD j (-1)) := by omega
        simp only [this]
    · rename_i h
      rw [ih]
      by_cases hj : j = k
      · subst hj
        rw [if_neg (by omega), if_neg (by omega)]
      · have : (j < k + 1 ∧ 0 ≤ u.getD j (-1)) ↔ (j < k ∧ 0 ≤ u.getD j (-1)) := by omega
        simp only [this]
end Go.Proofs.Ytldnnkceeeinlaa
