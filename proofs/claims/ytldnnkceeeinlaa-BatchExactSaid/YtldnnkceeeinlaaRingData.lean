/- What a ring's three blocks hold, as a list; what a push and a pop make of it. Plain lemmas on arrays, and on worlds whose blocks are known. No condition. -/
import Derived.WalkKit
import Derived.OneCell
import Derived.Conc.LoneSelectN
import Derived.Conc.LoneCalls
import Derived.Deep.Draws
import Derived.Laws.Rows
namespace Go.Proofs.Ytldnnkceeeinlaa
open Go.RowKit

/-! ### the array behind a ring -/
/-- The i-th thing stands sz cells from ((f + i) % n) * sz on. -/
structure Holds {α : Type} (sz : Nat) (enc : α → List Value) (n f : Nat) (arr : Array Value) (l : List α) : Prop where
  size : arr.size = n * sz
  from_lt : f < n
  len_le : l.length ≤ n
  cell : ∀ i x, l[i]? = some x → ∀ j u, (enc x)[j]? = some u → arr[((f + i) % n) * sz + j]? = some u

theorem mod_cases {n f i : Nat} (hf : f < n) (hi : i ≤ n) : (f + i) % n = if f + i < n then f + i else f + i - n := by
  split
  · rename_i h
    exact Nat.mod_eq_of_lt h
  · rename_i h
    rw [Nat.mod_eq_sub_mod (by omega), Nat.mod_eq_of_lt (by omega)]

theorem mod_ne {n f i : Nat} (hf : f < n) (hi : i + 1 < n) : ((f + 1) % n + i) % n ≠ f := by
  rw [Nat.mod_add_mod, Nat.add_assoc, mod_cases hf (by omega)]
  split <;> omega

theorem mod_inj {n f i j : Nat} (hf : f < n) (hi : i < n) (hj : j < n) (h : (f + i) % n = (f + j) % n) : i = j := by
  rw [mod_cases hf (by omega), mod_cases hf (by omega)] at h
  split at h <;> split at h <;> omega

theorem cell_apart {sz p q j k : Nat} (hj : j < sz) (hk : k < sz) (h : p ≠ q) : p * sz + j ≠ q * sz + k := by
  intro e
  rcases Nat.lt_or_gt_of_ne h with h | h
  · have : (p + 1) * sz ≤ q * sz := Nat.mul_le_mul_right _ h
    rw [Nat.succ_mul] at this
    omega
  · have : (q + 1) * sz ≤ p * sz := Nat.mul_le_mul_right _ h
    rw [Nat.succ_mul] at this
    omega

section
variable {α : Type} {sz : Nat} {enc : α → List Value} {n f : Nat} {arr arr' : Array Value} {l : List α}

theorem lt_of_get {x : List Value} {j : Nat} {u : Value} (h : x[j]? = some u) : j < x.length := (List.getElem?_eq_some_iff.1 h).1

theorem Holds.pop {x : α} (henc : ∀ x, (enc x).length = sz) (h : Holds sz enc n f arr (x :: l)) (hs : arr'.size = arr.size) (ho : ∀ p j, j < sz → p ≠ f → arr'[p * sz + j]? = arr[p * sz + j]?) : Holds sz enc n ((f + 1) % n) arr' l := by
  have hf := h.from_lt
  have hl := h.len_le
  simp only [List.length_cons] at hl
  refine ⟨by rw [hs, h.size], Nat.mod_lt _ (by omega), by omega, fun i y hy j u hu => ?_⟩
  have hi : i < l.length := (List.getElem?_eq_some_iff.1 hy).1
  have hj : j < sz := by rw [← henc y]; exact lt_of_get hu
  rw [ho _ _ hj (mod_ne hf (by omega))]
  have := h.cell (i + 1) y (by simpa using hy) j u hu
  rwa [show ((f + 1) % n + i) % n = (f + (i + 1)) % n by rw [Nat.mod_add_mod]; congr 1; omega]

theorem Holds.push {x : α} (henc : ∀ x, (enc x).length = sz) (h : Holds sz enc n f arr l) (hroom : l.length < n) (hs : arr'.size = arr.size) (ho : ∀ p j, j < sz → p ≠ (f + l.length) % n → arr'[p * sz + j]? = arr[p * sz + j]?)
    (hx : ∀ j u, (enc x)[j]? = some u → arr'[((f + l.length) % n) * sz + j]? = some u) : Holds sz enc n f arr' (l ++ [x]) := by
  have hf := h.from_lt
  refine ⟨by rw [hs, h.size], hf, by simp; omega, fun i y hy j u hu => ?_⟩
  have hj : j < sz := by rw [← henc y]; exact lt_of_get hu
  by_cases hi : i < l.length
  · rw [List.getElem?_append_left hi] at hy
    rw [ho _ _ hj (fun e => by have := mod_inj hf (by omega) hroom e; omega)]
    exact h.cell i y hy j u hu
  · rw [List.getElem?_append_right (by omega)] at hy
    have hi' : i - l.length = 0 := by
      have := (List.getElem?_eq_some_iff.1 hy).1
      simpa using this
    rw [hi'] at hy
    have e : i = l.length := by omega
    subst e
    obtain rfl : x = y := by simpa using hy
    exact hx j u hu

theorem Holds.turn {x y : α} (henc : ∀ x, (enc x).length = sz) (h : Holds sz enc n f arr (y :: l)) (hfull : l.length + 1 = n) (hs : arr'.size = arr.size) (ho : ∀ p j, j < sz → p ≠ f → arr'[p * sz + j]? = arr[p * sz + j]?)
    (hx : ∀ j u, (enc x)[j]? = some u → arr'[f * sz + j]? = some u) : Holds sz enc n ((f + 1) % n) arr' (l ++ [x]) := by
  have hf := h.from_lt
  have h1 := h.pop henc hs ho
  have e : ((f + 1) % n + l.length) % n = f := by
    rw [Nat.mod_add_mod, show f + 1 + l.length = f + n by omega, Nat.add_mod_right, Nat.mod_eq_of_lt hf]
  refine h1.push henc (by omega) rfl (fun _ _ _ _ => rfl) ?_
  rw [e]
  exact hx

theorem Holds.nil (hs : arr.size = n * sz) (hf : f < n) : Holds sz enc n f arr [] := ⟨hs, hf, Nat.zero_le _, fun i x h => by simp at h⟩

/-- Cells of one place written one by one. -/
theorem set1_self {p : Nat} {v : Value} (h : p < arr.size) : (arr.setIfInBounds p v)[p]? = some v := by simp [h]
end

/-! ### worlds -/
/-- All but these blocks is as it was; nothing has gone; the streams are as they were. -/
structure Keeps (S : List Nat) (w w' : World) : Prop where
  os : w'.os = w.os
  tape : w'.tape = w.tape
  output : w'.output = w.output
  size : w.heap.size ≤ w'.heap.size
  block : ∀ k, k < w.heap.size → k ∉ S → w'.heap[k]? = w.heap[k]?

theorem Keeps.refl (S : List Nat) (w : World) : Keeps S w w := ⟨rfl, rfl, rfl, Nat.le_refl _, fun _ _ _ => rfl⟩
theorem Keeps.trans {S : List Nat} {a b c : World} (h : Keeps S a b) (k : Keeps S b c) : Keeps S a c :=
  ⟨k.os.trans h.os, k.tape.trans h.tape, k.output.trans h.output, Nat.le_trans h.size k.size, fun i hi hs => (k.block i (Nat.lt_of_lt_of_le hi h.size) hs).trans (h.block i hi hs)⟩
theorem Keeps.mono {S S' : List Nat} {a b : World} (h : Keeps S a b) (hs : ∀ k ∈ S, k ∈ S') : Keeps S' a b :=
  ⟨h.os, h.tape, h.output, h.size, fun i hi hn => h.block i hi (fun hm => hn (hs i hm))⟩
theorem Keeps.step {S T : List Nat} {a b c : World} (h : Keeps S a b) (k : Keeps T b c) (hT : ∀ x ∈ T, x ∈ S ∨ a.heap.size ≤ x) : Keeps S a c :=
  ⟨k.os.trans h.os, k.tape.trans h.tape, k.output.trans h.output, Nat.le_trans h.size k.size, fun i hi hs => (k.block i (Nat.lt_of_lt_of_le hi h.size) (fun hm => by
    rcases hT i hm with h1 | h1
    · exact hs h1
    · omega)).trans (h.block i hi hs)⟩
theorem Keeps.drew {S : List Nat} {a b : World} (h : Keeps S a b) : Keeps S a b.drew := ⟨h.os, h.tape, h.output, h.size, h.block⟩
theorem Keeps.drewN {S : List Nat} {a b : World} (h : Keeps S a b) (n : Nat) : Keeps S a (b.drewN n) := ⟨h.os, h.tape, h.output, h.size, h.block⟩
theorem Keeps.setCell {S : List Nat} {a b : World} (h : Keeps S a b) {p : Addr} (hp : p.block ∈ S) (u : Value) : Keeps S a (b.setCell p u) :=
  ⟨h.os, h.tape, h.output, by rw [show (b.setCell p u).heap.size = b.heap.size by simp [World.setCell]]; exact h.size, fun k hk hs => (Below.heap_setCell _ _ _ _ (fun e => hs (by rw [e]; exact hp))).trans (h.block k hk hs)⟩
theorem Keeps.alloc {S : List Nat} {a b : World} (h : Keeps S a b) (o : Obj) : Keeps S a (b.alloc o) :=
  ⟨h.os, h.tape, h.output, by rw [World.size_alloc]; exact Nat.le_succ_of_le h.size, fun k hk hs => (Below.heap_alloc _ _ _ (Nat.lt_of_lt_of_le hk h.size)).trans (h.block k hk hs)⟩
theorem Keeps.setNew {S : List Nat} {a b : World} (h : Keeps S a b) {p : Addr} (hp : a.heap.size ≤ p.block) (u : Value) : Keeps S a (b.setCell p u) :=
  ⟨h.os, h.tape, h.output, by rw [show (b.setCell p u).heap.size = b.heap.size by simp [World.setCell]]; exact h.size, fun k hk hs => (Below.heap_setCell _ _ _ _ (fun e => by omega)).trans (h.block k hk hs)⟩

theorem heap_setChan_ne (w : World) (c cap : Nat) (buf : Array Value) (cl : Bool) (s r : Nat) (tm : Bool) (k : Nat) (h : k ≠ c) : (w.setChan c cap buf cl s r tm).heap[k]? = w.heap[k]? := by
  simp [World.setChan, Array.getElem?_setIfInBounds_ne (Ne.symm h)]
theorem Keeps.setChan {S : List Nat} {a b : World} (h : Keeps S a b) {c : Nat} (hc : c ∈ S) (cap : Nat) (buf : Array Value) (cl : Bool) (s r : Nat) (tm : Bool) : Keeps S a (b.setChan c cap buf cl s r tm) :=
  ⟨h.os, h.tape, h.output, by rw [Go.Conc.size_setChan]; exact h.size, fun k hk hs => (heap_setChan_ne _ _ _ _ _ _ _ _ _ (fun e => hs (by rw [e]; exact hc))).trans (h.block k hk hs)⟩
theorem Keeps.below {S : List Nat} {a b : World} (h : Keeps S a b) {B : Nat} (hB : B ≤ a.heap.size) (hS : ∀ k ∈ S, B ≤ k) : Below B a b :=
  ⟨h.os, h.tape, h.output, h.size, fun k hk => h.block k (by omega) (fun hm => by have := hS k hm; omega)⟩
theorem Keeps.of_below {B : Nat} {a b : World} (h : Below B a b) (hB : B = a.heap.size) : Keeps [] a b := ⟨h.os, h.tape, h.output, h.size, fun k hk _ => h.block k (by omega)⟩
theorem Keeps.heap {S : List Nat} {a b : World} (h : Keeps S a b) {k : Nat} {o : Obj} (ho : a.heap[k]? = some o) (hk : k ∉ S) : b.heap[k]? = some o := by
  rw [h.block k (lt_of_block ho) hk]; exact ho
theorem Keeps.cell {S : List Nat} {a b : World} (h : Keeps S a b) {p : Addr} {v : Value} (hc : a.cell? p = some v) (hk : p.block ∉ S) : b.cell? p = some v :=
  (World.cell?_of_block (h.block p.block (World.block_lt_of_cell? a p hc) hk)).trans hc

theorem block_ne {w : World} {g c : Nat} {o o' : Obj} (hg : w.heap[g]? = some o) (hc : w.heap[c]? = some o') (h : o ≠ o') : g ≠ c := by
  rintro rfl
  rw [hg] at hc
  exact h (by simpa using hc)

theorem heap_setCell_self {w : World} {b off : Nat} {cs : Array Value} {t : TypeId} {fr : Nat × Nat} {v : Value} (h : w.heap[b]? = some (.cells cs t fr)) : (w.setCell ⟨b, off, none⟩ v).heap[b]? = some (.cells (cs.setIfInBounds off v) t fr) := by
  have hlt := lt_of_block h
  have h' : w.heap[b] = .cells cs t fr := by simpa [Array.getElem?_eq_getElem hlt] using h
  show (w.heap.modify b _)[b]? = _
  rw [Array.getElem?_eq_getElem (by simpa using hlt), Array.getElem_modify_self, h']
  rfl

section
variable {w : World} {g : Nat} {c0 c1 c2 : Value} {t : TypeId}
theorem cells3 (h : w.heap[g]? = some (.cells #[c0, c1, c2] t (0, 0))) : w.cell? ⟨g, 0, none⟩ = some c0 ∧ w.cell? ⟨g, 1, none⟩ = some c1 ∧ w.cell? ⟨g, 2, none⟩ = some c2 ∧ w.frozen? ⟨g, 0, none⟩ = false ∧ w.frozen? ⟨g, 1, none⟩ = false ∧ w.frozen? ⟨g, 2, none⟩ = false := by
  simp [World.cell?, World.frozen?, h]
theorem cell_at {arr : Array Value} {p : Nat} {v : Value} (h : w.heap[g]? = some (.cells arr t (0, 0))) (hv : arr[p]? = some v) : w.cell? ⟨g, p, none⟩ = some v ∧ w.frozen? ⟨g, p, none⟩ = false := by
  simp [World.cell?, World.frozen?, h, hv]
end

theorem alloc3 (w : World) (o1 o2 o3 : Obj) : (((w.alloc o1).alloc o2).alloc o3).heap[w.heap.size]? = some o1 ∧ (((w.alloc o1).alloc o2).alloc o3).heap[w.heap.size + 1]? = some o2 ∧ (((w.alloc o1).alloc o2).alloc o3).heap[w.heap.size + 1 + 1]? = some o3 := by
  refine ⟨?_, ?_, ?_⟩
  · rw [Below.heap_alloc _ _ _ (by simp; omega), Below.heap_alloc _ _ _ (by simp)]
    exact heap_alloc_new w o1
  · rw [Below.heap_alloc _ _ _ (by simp)]
    have := heap_alloc_new (w.alloc o1) o2
    simpa using this
  · have := heap_alloc_new ((w.alloc o1).alloc o2) o3
    simpa using this

/-! ### a ring -/
/-- The ring at block g, of capacity n: its things, in order. t: the struct's type; E: the elements' (sz cells each). -/
structure RingIs {α : Type} (t E sz : Nat) (enc : α → List Value) (w : World) (g h c n : Nat) (l : List α) : Prop where
  ex : ∃ (f : Nat) (arr buf : Array Value) (s r : Nat), w.heap[g]? = some (.cells #[.slice (some ⟨h, 0, none⟩) n n, .int .i64 f, .chan (some c)] t (0, 0)) ∧ w.heap[h]? = some (.cells arr E (0, 0)) ∧
    w.heap[c]? = some (.chan n buf false s r false) ∧ buf.size = l.length ∧ Holds sz enc n f arr l
  gh : g ≠ h
  cap : n ≤ 256

section
variable {α : Type} {t E sz : Nat} {enc : α → List Value} {w w' : World} {g h c n : Nat} {l : List α}
theorem RingIs.keeps {S : List Nat} (hr : RingIs t E sz enc w g h c n l) (hk : Keeps S w w') (hg : g ∉ S) (hh : h ∉ S) (hc : c ∉ S) : RingIs t E sz enc w' g h c n l := by
  obtain ⟨⟨f, arr, buf, s, r, h1, h2, h3, h4⟩, h5, h6⟩ := hr
  exact ⟨⟨f, arr, buf, s, r, hk.heap h1 hg, hk.heap h2 hh, hk.heap h3 hc, h4⟩, h5, h6⟩
theorem RingIs.lts (hr : RingIs t E sz enc w g h c n l) : g < w.heap.size ∧ h < w.heap.size ∧ c < w.heap.size := by
  obtain ⟨⟨f, arr, buf, s, r, h1, h2, h3, h4⟩, h5, h6⟩ := hr
  exact ⟨lt_of_block h1, lt_of_block h2, lt_of_block h3⟩
theorem RingIs.len (hr : RingIs t E sz enc w g h c n l) : l.length ≤ n := by
  obtain ⟨⟨f, arr, buf, s, r, h1, h2, h3, h4, hd⟩, h5, h6⟩ := hr
  exact hd.len_le
theorem RingIs.pos (hr : RingIs t E sz enc w g h c n l) : 0 < n := by
  obtain ⟨⟨f, arr, buf, s, r, h1, h2, h3, h4, hd⟩, h5, h6⟩ := hr
  have := hd.from_lt
  omega
end
end Go.Proofs.Ytldnnkceeeinlaa
