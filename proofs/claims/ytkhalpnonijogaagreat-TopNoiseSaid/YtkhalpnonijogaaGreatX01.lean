/- What a ring's three blocks hold, as a list; what a push and a pop make of it. Plain lemmas on arrays, and on worlds whose blocks are known. No condition. | Words on memory: a whole block stored anew, bytes wherever they lie, what a call may do. Plain facts; no program's step. No condition. | What a hub's calls may do to memory: what is not its own, and all bytes, stay. Plain facts. No condition. | CRC-16 by a table of bytes is CRC-16 bit by bit. Plain facts about words of 16 bits; no program's step. No condition. | Frames' bytes, noise ahead of each, cut anywhere: scanned they are the frames. Plain facts about lists; no program's step. No condition. | The table of crc. No condition. | A map whose keys are ints, as a list: put, look up. Plain facts on the model's operations; no condition but the list's. -/
import Derived.WalkKit
import Derived.OneCell
import Derived.Conc.LoneSelectN
import Derived.Conc.LoneCalls
import Derived.Deep.Draws
import Derived.Laws.Rows
import Derived.Laws.AppendOwn
import Derived.Laws.OwnMore
import Derived.Deep.MidRow
import Derived.KernelRfl
import Derived.Test.YtkhalpnonijogaaGreatProg
import Derived.Lib.Hide
import Derived.Outline
import Derived.Deep.CutBlock
import Derived.Deep.CutRange
import Derived.Deep.QuietTactic
import Derived.BigQuiet
import Derived.LoopTactic
import Derived.Maps.OwnOps
namespace Go.Proofs.YtkhalpnonijogaaGreat
open Go.RowKit

/-! ### the array behind a ring -/
/-- The i-th thing stands sz cells from ((f + i) % n) * sz on. -/
structure Holds {α : Type} (sz : Nat) (enc : α → List Value) (n f : Nat) (arr : Array Value) (l : List α) : Prop where
  size : arr.size = n * sz
  from_lt : f < n
  len_le : l.length ≤ n
  cell : ∀ i x, l[i]? = some x → ∀ j u, (enc x)[j]? = some u → arr[((f + i) % n) * sz + j]? = some u

theorem mod_cases {n f i : Nat} (hf : f < n) (hi : i ≤ n) : (f + i) % n = if f + i < n then f + i else f + i - n := by
  split
  · rename_i h
    exact Nat.mod_eq_of_lt h
  · rename_i h
    rw [Nat.mod_eq_sub_mod (by omega), Nat.mod_eq_of_lt (by omega)]

theorem mod_ne {n f i : Nat} (hf : f < n) (hi : i + 1 < n) : ((f + 1) % n + i) % n ≠ f := by
  rw [Nat.mod_add_mod, Nat.add_assoc, mod_cases hf (by omega)]
  split <;> omega

theorem mod_inj {n f i j : Nat} (hf : f < n) (hi : i < n) (hj : j < n) (h : (f + i) % n = (f + j) % n) : i = j := by
  rw [mod_cases hf (by omega), mod_cases hf (by omega)] at h
  split at h <;> split at h <;> omega

theorem cell_apart {sz p q j k : Nat} (hj : j < sz) (hk : k < sz) (h : p ≠ q) : p * sz + j ≠ q * sz + k := by
  intro e
  rcases Nat.lt_or_gt_of_ne h with h | h
  · have : (p + 1) * sz ≤ q * sz := Nat.mul_le_mul_right _ h
    rw [Nat.succ_mul] at this
    omega
  · have : (q + 1) * sz ≤ p * sz := Nat.mul_le_mul_right _ h
    rw [Nat.succ_mul] at this
    omega

section
variable {α : Type} {sz : Nat} {enc : α → List Value} {n f : Nat} {arr arr' : Array Value} {l : List α}

theorem lt_of_get {x : List Value} {j : Nat} {u : Value} (h : x[j]? = some u) : j < x.length := (List.getElem?_eq_some_iff.1 h).1

theorem Holds.pop {x : α} (henc : ∀ x, (enc x).length = sz) (h : Holds sz enc n f arr (x :: l)) (hs : arr'.size = arr.size) (ho : ∀ p j, j < sz → p ≠ f → arr'[p * sz + j]? = arr[p * sz + j]?) : Holds sz enc n ((f + 1) % n) arr' l := by
  have hf := h.from_lt
  have hl := h.len_le
  simp only [List.length_cons] at hl
  refine ⟨by rw [hs, h.size], Nat.mod_lt _ (by omega), by omega, fun i y hy j u hu => ?_⟩
  have hi : i < l.length := (List.getElem?_eq_some_iff.1 hy).1
  have hj : j < sz := by rw [← henc y]; exact lt_of_get hu
  rw [ho _ _ hj (mod_ne hf (by omega))]
  have := h.cell (i + 1) y (by simpa using hy) j u hu
  rwa [show ((f + 1) % n + i) % n = (f + (i + 1)) % n by rw [Nat.mod_add_mod]; congr 1; omega]

theorem Holds.push {x : α} (henc : ∀ x, (enc x).length = sz) (h : Holds sz enc n f arr l) (hroom : l.length < n) (hs : arr'.size = arr.size) (ho : ∀ p j, j < sz → p ≠ (f + l.length) % n → arr'[p * sz + j]? = arr[p * sz + j]?)
    (hx : ∀ j u, (enc x)[j]? = some u → arr'[((f + l.length) % n) * sz + j]? = some u) : Holds sz enc n f arr' (l ++ [x]) := by
  have hf := h.from_lt
  refine ⟨by rw [hs, h.size], hf, by simp; omega, fun i y hy j u hu => ?_⟩
  have hj : j < sz := by rw [← henc y]; exact lt_of_get hu
  by_cases hi : i < l.length
  · rw [List.getElem?_append_left hi] at hy
    rw [ho _ _ hj (fun e => by have := mod_inj hf (by omega) hroom e; omega)]
    exact h.cell i y hy j u hu
  · rw [List.getElem?_append_right (by omega)] at hy
    have hi' : i - l.length = 0 := by
      have := (List.getElem?_eq_some_iff.1 hy).1
      simpa using this
    rw [hi'] at hy
    have e : i = l.length := by omega
    subst e
    obtain rfl : x = y := by simpa using hy
    exact hx j u hu

theorem Holds.turn {x y : α} (henc : ∀ x, (enc x).length = sz) (h : Holds sz enc n f arr (y :: l)) (hfull : l.length + 1 = n) (hs : arr'.size = arr.size) (ho : ∀ p j, j < sz → p ≠ f → arr'[p * sz + j]? = arr[p * sz + j]?)
    (hx : ∀ j u, (enc x)[j]? = some u → arr'[f * sz + j]? = some u) : Holds sz enc n ((f + 1) % n) arr' (l ++ [x]) := by
  have hf := h.from_lt
  have h1 := h.pop henc hs ho
  have e : ((f + 1) % n + l.length) % n = f := by
    rw [Nat.mod_add_mod, show f + 1 + l.length = f + n by omega, Nat.add_mod_right, Nat.mod_eq_of_lt hf]
  refine h1.push henc (by omega) rfl (fun _ _ _ _ => rfl) ?_
  rw [e]
  exact hx

theorem Holds.nil (hs : arr.size = n * sz) (hf : f < n) : Holds sz enc n f arr [] := ⟨hs, hf, Nat.zero_le _, fun i x h => by simp at h⟩

/-- Cells of one place written one by one. -/
theorem set1_self {p : Nat} {v : Value} (h : p < arr.size) : (arr.setIfInBounds p v)[p]? = some v := by simp [h]
end

/-! ### worlds -/
/-- All but these blocks is as it was; nothing has gone; the streams are as they were. -/
structure Keeps (S : List Nat) (w w' : World) : Prop where
  os : w'.os = w.os
  tape : w'.tape = w.tape
  output : w'.output = w.output
  size : w.heap.size ≤ w'.heap.size
  block : ∀ k, k < w.heap.size → k ∉ S → w'.heap[k]? = w.heap[k]?

theorem Keeps.refl (S : List Nat) (w : World) : Keeps S w w := ⟨rfl, rfl, rfl, Nat.le_refl _, fun _ _ _ => rfl⟩
theorem Keeps.trans {S : List Nat} {a b c : World} (h : Keeps S a b) (k : Keeps S b c) : Keeps S a c :=
  ⟨k.os.trans h.os, k.tape.trans h.tape, k.output.trans h.output, Nat.le_trans h.size k.size, fun i hi hs => (k.block i (Nat.lt_of_lt_of_le hi h.size) hs).trans (h.block i hi hs)⟩
theorem Keeps.mono {S S' : List Nat} {a b : World} (h : Keeps S a b) (hs : ∀ k ∈ S, k ∈ S') : Keeps S' a b :=
  ⟨h.os, h.tape, h.output, h.size, fun i hi hn => h.block i hi (fun hm => hn (hs i hm))⟩
theorem Keeps.step {S T : List Nat} {a b c : World} (h : Keeps S a b) (k : Keeps T b c) (hT : ∀ x ∈ T, x ∈ S ∨ a.heap.size ≤ x) : Keeps S a c :=
  ⟨k.os.trans h.os, k.tape.trans h.tape, k.output.trans h.output, Nat.le_trans h.size k.size, fun i hi hs => (k.block i (Nat.lt_of_lt_of_le hi h.size) (fun hm => by
    rcases hT i hm with h1 | h1
    · exact hs h1
    · omega)).trans (h.block i hi hs)⟩
theorem Keeps.drew {S : List Nat} {a b : World} (h : Keeps S a b) : Keeps S a b.drew := ⟨h.os, h.tape, h.output, h.size, h.block⟩
theorem Keeps.drewN {S : List Nat} {a b : World} (h : Keeps S a b) (n : Nat) : Keeps S a (b.drewN n) := ⟨h.os, h.tape, h.output, h.size, h.block⟩
theorem Keeps.setCell {S : List Nat} {a b : World} (h : Keeps S a b) {p : Addr} (hp : p.block ∈ S) (u : Value) : Keeps S a (b.setCell p u) :=
  ⟨h.os, h.tape, h.output, by rw [show (b.setCell p u).heap.size = b.heap.size by simp [World.setCell]]; exact h.size, fun k hk hs => (Below.heap_setCell _ _ _ _ (fun e => hs (by rw [e]; exact hp))).trans (h.block k hk hs)⟩
theorem Keeps.alloc {S : List Nat} {a b : World} (h : Keeps S a b) (o : Obj) : Keeps S a (b.alloc o) :=
  ⟨h.os, h.tape, h.output, by rw [World.size_alloc]; exact Nat.le_succ_of_le h.size, fun k hk hs => (Below.heap_alloc _ _ _ (Nat.lt_of_lt_of_le hk h.size)).trans (h.block k hk hs)⟩
theorem Keeps.setNew {S : List Nat} {a b : World} (h : Keeps S a b) {p : Addr} (hp : a.heap.size ≤ p.block) (u : Value) : Keeps S a (b.setCell p u) :=
  ⟨h.os, h.tape, h.output, by rw [show (b.setCell p u).heap.size = b.heap.size by simp [World.setCell]]; exact h.size, fun k hk hs => (Below.heap_setCell _ _ _ _ (fun e => by omega)).trans (h.block k hk hs)⟩

theorem heap_setChan_ne (w : World) (c cap : Nat) (buf : Array Value) (cl : Bool) (s r : Nat) (tm : Bool) (k : Nat) (h : k ≠ c) : (w.setChan c cap buf cl s r tm).heap[k]? = w.heap[k]? := by
  simp [World.setChan, Array.getElem?_setIfInBounds_ne (Ne.symm h)]
theorem Keeps.setChan {S : List Nat} {a b : World} (h : Keeps S a b) {c : Nat} (hc : c ∈ S) (cap : Nat) (buf : Array Value) (cl : Bool) (s r : Nat) (tm : Bool) : Keeps S a (b.setChan c cap buf cl s r tm) :=
  ⟨h.os, h.tape, h.output, by rw [Go.Conc.size_setChan]; exact h.size, fun k hk hs => (heap_setChan_ne _ _ _ _ _ _ _ _ _ (fun e => hs (by rw [e]; exact hc))).trans (h.block k hk hs)⟩
theorem Keeps.below {S : List Nat} {a b : World} (h : Keeps S a b) {B : Nat} (hB : B ≤ a.heap.size) (hS : ∀ k ∈ S, B ≤ k) : Below B a b :=
  ⟨h.os, h.tape, h.output, h.size, fun k hk => h.block k (by omega) (fun hm => by have := hS k hm; omega)⟩
theorem Keeps.of_below {B : Nat} {a b : World} (h : Below B a b) (hB : B = a.heap.size) : Keeps [] a b := ⟨h.os, h.tape, h.output, h.size, fun k hk _ => h.block k (by omega)⟩
theorem Keeps.heap {S : List Nat} {a b : World} (h : Keeps S a b) {k : Nat} {o : Obj} (ho : a.heap[k]? = some o) (hk : k ∉ S) : b.heap[k]? = some o := by
  rw [h.block k (lt_of_block ho) hk]; exact ho
theorem Keeps.cell {S : List Nat} {a b : World} (h : Keeps S a b) {p : Addr} {v : Value} (hc : a.cell? p = some v) (hk : p.block ∉ S) : b.cell? p = some v :=
  (World.cell?_of_block (h.block p.block (World.block_lt_of_cell? a p hc) hk)).trans hc

theorem block_ne {w : World} {g c : Nat} {o o' : Obj} (hg : w.heap[g]? = some o) (hc : w.heap[c]? = some o') (h : o ≠ o') : g ≠ c := by
  rintro rfl
  rw [hg] at hc
  exact h (by simpa using hc)

theorem heap_setCell_self {w : World} {b off : Nat} {cs : Array Value} {t : TypeId} {fr : Nat × Nat} {v : Value} (h : w.heap[b]? = some (.cells cs t fr)) : (w.setCell ⟨b, off, none⟩ v).heap[b]? = some (.cells (cs.setIfInBounds off v) t fr) := by
  have hlt := lt_of_block h
  have h' : w.heap[b] = .cells cs t fr := by simpa [Array.getElem?_eq_getElem hlt] using h
  show (w.heap.modify b _)[b]? = _
  rw [Array.getElem?_eq_getElem (by simpa using hlt), Array.getElem_modify_self, h']
  rfl

section
variable {w : World} {g : Nat} {c0 c1 c2 : Value} {t : TypeId}
theorem cells3 (h : w.heap[g]? = some (.cells #[c0, c1, c2] t (0, 0))) : w.cell? ⟨g, 0, none⟩ = some c0 ∧ w.cell? ⟨g, 1, none⟩ = some c1 ∧ w.cell? ⟨g, 2, none⟩ = some c2 ∧ w.frozen? ⟨g, 0, none⟩ = false ∧ w.frozen? ⟨g, 1, none⟩ = false ∧ w.frozen? ⟨g, 2, none⟩ = false := by
  simp [World.cell?, World.frozen?, h]
theorem cell_at {arr : Array Value} {p : Nat} {v : Value} (h : w.heap[g]? = some (.cells arr t (0, 0))) (hv : arr[p]? = some v) : w.cell? ⟨g, p, none⟩ = some v ∧ w.frozen? ⟨g, p, none⟩ = false := by
  simp [World.cell?, World.frozen?, h, hv]
end

theorem alloc3 (w : World) (o1 o2 o3 : Obj) : (((w.alloc o1).alloc o2).alloc o3).heap[w.heap.size]? = some o1 ∧ (((w.alloc o1).alloc o2).alloc o3).heap[w.heap.size + 1]? = some o2 ∧ (((w.alloc o1).alloc o2).alloc o3).heap[w.heap.size + 1 + 1]? = some o3 := by
  refine ⟨?_, ?_, ?_⟩
  · rw [Below.heap_alloc _ _ _ (by simp; omega), Below.heap_alloc _ _ _ (by simp)]
    exact heap_alloc_new w o1
  · rw [Below.heap_alloc _ _ _ (by simp)]
    have := heap_alloc_new (w.alloc o1) o2
    simpa using this
  · have := heap_alloc_new ((w.alloc o1).alloc o2) o3
    simpa using this

/-! ### a ring -/
/-- The ring at block g, of capacity n: its things, in order. t: the struct's type; E: the elements' (sz cells each). -/
structure RingIs {α : Type} (t E sz : Nat) (enc : α → List Value) (w : World) (g h c n : Nat) (l : List α) : Prop where
  ex : ∃ (f : Nat) (arr buf : Array Value) (s r : Nat), w.heap[g]? = some (.cells #[.slice (some ⟨h, 0, none⟩) n n, .int .i64 f, .chan (some c)] t (0, 0)) ∧ w.heap[h]? = some (.cells arr E (0, 0)) ∧
    w.heap[c]? = some (.chan n buf false s r false) ∧ buf.size = l.length ∧ Holds sz enc n f arr l
  gh : g ≠ h
  cap : n ≤ 256

section
variable {α : Type} {t E sz : Nat} {enc : α → List Value} {w w' : World} {g h c n : Nat} {l : List α}
theorem RingIs.keeps {S : List Nat} (hr : RingIs t E sz enc w g h c n l) (hk : Keeps S w w') (hg : g ∉ S) (hh : h ∉ S) (hc : c ∉ S) : RingIs t E sz enc w' g h c n l := by
  obtain ⟨⟨f, arr, buf, s, r, h1, h2, h3, h4⟩, h5, h6⟩ := hr
  exact ⟨⟨f, arr, buf, s, r, hk.heap h1 hg, hk.heap h2 hh, hk.heap h3 hc, h4⟩, h5, h6⟩
theorem RingIs.lts (hr : RingIs t E sz enc w g h c n l) : g < w.heap.size ∧ h < w.heap.size ∧ c < w.heap.size := by
  obtain ⟨⟨f, arr, buf, s, r, h1, h2, h3, h4⟩, h5, h6⟩ := hr
  exact ⟨lt_of_block h1, lt_of_block h2, lt_of_block h3⟩
theorem RingIs.len (hr : RingIs t E sz enc w g h c n l) : l.length ≤ n := by
  obtain ⟨⟨f, arr, buf, s, r, h1, h2, h3, h4, hd⟩, h5, h6⟩ := hr
  exact hd.len_le
theorem RingIs.pos (hr : RingIs t E sz enc w g h c n l) : 0 < n := by
  obtain ⟨⟨f, arr, buf, s, r, h1, h2, h3, h4, hd⟩, h5, h6⟩ := hr
  have := hd.from_lt
  omega
end
end Go.Proofs.YtkhalpnonijogaaGreat
namespace Go.Proofs.YtkhalpnonijogaaGreat
open Go.RowKit

theorem heap_setCells {b : Nat} {t : TypeId} {fr : Nat × Nat} : ∀ (vs : List Value) (o : Nat) (w : World) (cur : Array Value), w.heap[b]? = some (.cells cur t fr) → o + vs.length ≤ cur.size →
    ∃ cur', (w.setCells b o vs).heap[b]? = some (.cells cur' t fr) ∧ cur'.size = cur.size ∧ (∀ j u, vs[j]? = some u → cur'[o + j]? = some u) ∧ ∀ j, (j < o ∨ o + vs.length ≤ j) → cur'[j]? = cur[j]? := by
  intro vs
  induction vs with
  | nil => intro o w cur h _; exact ⟨cur, h, rfl, fun j u hj => by simp at hj, fun j _ => rfl⟩
  | cons v vs ih =>
    intro o w cur h hle
    simp only [List.length_cons] at hle
    obtain ⟨cur', h1, h2, h3, h4⟩ := ih (o + 1) (w.setCell ⟨b, o, none⟩ v) (cur.setIfInBounds o v) (heap_setCell_self h) (by simp; omega)
    refine ⟨cur', h1, by simpa using h2, fun j u hj => ?_, fun j hj => ?_⟩
    · cases j with
      | zero =>
        obtain rfl : v = u := by simpa using hj
        rw [h4 _ (by omega), Nat.add_zero, Array.getElem?_setIfInBounds_self_of_lt (by omega)]
      | succ j =>
        have := h3 j u (by simpa using hj)
        rwa [show o + 1 + j = o + (j + 1) by omega] at this
    · simp only [List.length_cons] at hj
      rw [h4 j (by omega), Array.getElem?_setIfInBounds_ne (by omega)]
theorem heap_setCells_all {b : Nat} {t : TypeId} {fr : Nat × Nat} {w : World} {cur : Array Value} {vs : List Value} (h : w.heap[b]? = some (.cells cur t fr)) (hl : vs.length = cur.size) : (w.setCells b 0 vs).heap[b]? = some (.cells vs.toArray t fr) := by
  obtain ⟨cur', h1, h2, h3, h4⟩ := heap_setCells vs 0 w cur h (by omega)
  rw [h1]
  congr 2
  apply Array.ext
  · simpa [h2] using hl.symm
  · intro i hi1 hi2
    have hi : i < vs.length := by simpa using hi2
    have := h3 i _ (List.getElem?_eq_getElem hi)
    rw [Nat.zero_add, Array.getElem?_eq_getElem hi1] at this
    simpa using Option.some.inj this
theorem keeps_setCells {S : List Nat} {a : World} {b : Nat} (hb : b ∈ S ∨ a.heap.size ≤ b) : ∀ (vs : List Value) (o : Nat) (w : World), Keeps S a w → Keeps S a (w.setCells b o vs) := by
  intro vs
  induction vs with
  | nil => intro o w h; exact h
  | cons v vs ih =>
    intro o w h
    refine ih (o + 1) _ ?_
    rcases hb with hb | hb
    · exact h.setCell hb v
    · exact h.setNew hb v
theorem range_of_block {w : World} {b : Nat} {cs : List Value} {t : TypeId} {fr : Nat × Nat} (hb : w.heap[b]? = some (.cells cs.toArray t fr)) : w.rangeAt b 0 cs := fun j v hv => by
  rw [Nat.zero_add, cell_of_row w b j cs.toArray t fr hb]
  simpa using hv
theorem there_of_block {w : World} {b : Nat} {cs : Array Value} {t : TypeId} (hb : w.heap[b]? = some (.cells cs t (0, 0))) : w.there b 0 cs.size := fun j hj => by
  rw [Nat.zero_add, cell_of_row w b j cs t (0, 0) hb, frozen_of_row w b j cs t hb]
  exact ⟨by rw [Array.getElem?_eq_getElem hj]; rfl, rfl⟩

theorem block_add (a : Addr) (i : Nat) : (a.add i).block = a.block := by unfold Addr.add; split <;> rfl
/-- Bytes. -/
def by8 (l : List (BitVec 8)) : List Value := l.map fun b => .int .u8 b.toNat
def Byts (w : World) (A : Option Addr) (l : List (BitVec 8)) : Prop := ∀ i b, l[i]? = some b → ∃ a, A = some a ∧ w.cell? (a.add i) = some (.int .u8 b.toNat)
theorem Byts.keeps {S : List Nat} {w w' : World} {A : Option Addr} {l : List (BitVec 8)} (h : Byts w A l) (hk : Keeps S w w') (hS : ∀ a, A = some a → a.block ∉ S) : Byts w' A l := by
  intro i x hx
  obtain ⟨a, ha, hc⟩ := h i x hx
  exact ⟨a, ha, hk.cell hc (by rw [block_add]; exact hS a ha)⟩
theorem Byts.keeps0 {w w' : World} {A : Option Addr} {l : List (BitVec 8)} (h : Byts w A l) (hk : Keeps [] w w') : Byts w' A l := h.keeps hk (by simp)
theorem by8_len (l : List (BitVec 8)) : (by8 l).length = l.length := by simp [by8]
theorem by8_get {l : List (BitVec 8)} {i : Nat} {b : BitVec 8} (h : l[i]? = some b) : (by8 l)[i]? = some (.int .u8 b.toNat) := by simp [by8, h]
theorem by8_append (a b : List (BitVec 8)) : by8 (a ++ b) = by8 a ++ by8 b := by simp [by8]
theorem by8_one (l : List (BitVec 8)) : ∀ v ∈ by8 l, v.oneCell' = true := by
  intro v hv
  obtain ⟨b, _, rfl⟩ := List.mem_map.1 hv
  rfl
/-- An own row of bytes: its form, its bytes. -/
theorem own_form {M : Nat} {w : World} {v : Value} {n : Nat} {xs : List Value} {E sz : Nat} (h : w.ownsRow M E sz v n xs) : ∃ A c, v = .slice A n c := by
  rcases h.2 with ⟨rfl, h0⟩ | ⟨g, cap, cur, rfl, _⟩
  · exact ⟨none, 0, by rw [h0]⟩
  · exact ⟨_, _, rfl⟩
theorem own_at {M : Nat} {w : World} {A : Option Addr} {n c : Nat} {xs : List Value} {E sz : Nat} (h : w.ownsRow M E sz (.slice A n c) n xs) (hn : 0 < n) : ∃ g, A = some ⟨g, 0, none⟩ ∧ M ≤ g ∧ n ≤ c ∧ c ≤ maxLen := by
  rcases h.2 with ⟨_, h0⟩ | ⟨g, cap, cur, hv, h1, _, h3, h4, _⟩
  · omega
  · simp only [Value.slice.injEq, true_and] at hv
    obtain ⟨e1, e2⟩ := hv
    subst e2
    exact ⟨g, e1, h1, h3, h4⟩
theorem Byts.of_own {M : Nat} {w : World} {A : Option Addr} {n c : Nat} {l : List (BitVec 8)} (h : w.ownsRow M 5 1 (.slice A n c) n (by8 l)) : Byts w A l := by
  intro i b hb
  have hl : (by8 l).length = n * 1 := h.1
  rw [by8_len, Nat.mul_one] at hl
  have hi : i < l.length := (List.getElem?_eq_some_iff.1 hb).1
  obtain ⟨g, rfl, _⟩ := own_at h (by omega)
  exact ⟨_, rfl, h.cells (g := g) rfl i _ (by8_get hb)⟩
theorem Byts.cut {w : World} {g o : Nat} {l : List (BitVec 8)} (h : Byts w (some ⟨g, o, none⟩) l) (k : Nat) : Byts w (some ⟨g, o + k, none⟩) (l.drop k) := by
  intro i b hb
  rw [List.getElem?_drop] at hb
  obtain ⟨a, ha, hc⟩ := h _ b hb
  obtain rfl := Option.some.inj ha
  refine ⟨_, rfl, ?_⟩
  rw [Addr.add_mid] at hc ⊢
  rwa [show o + k + i = o + (k + i) by omega]
theorem Byts.take {w : World} {A : Option Addr} {l : List (BitVec 8)} (h : Byts w A l) (k : Nat) : Byts w A (l.take k) := by
  intro i b hb
  rw [List.getElem?_take] at hb
  split at hb
  · exact h i b hb
  · cases hb
theorem Byts.nil (w : World) (A : Option Addr) : Byts w A [] := fun i b h => by simp at h
theorem own_kept {B : Nat} {W W' : World} {v : Value} {n : Nat} {xs : List Value} {E sz : Nat} (h : W.ownsRow B E sz v n xs) (hk : ∀ (i : Nat) (cs : Array Value) (fr : Nat × Nat), W.heap[i]? = some (.cells cs E fr) → W'.heap[i]? = some (.cells cs E fr)) : W'.ownsRow B E sz v n xs := by
  refine ⟨h.1, ?_⟩
  rcases h.2 with h6 | ⟨g', cap, cur, e1, e2, e3, e4⟩
  · exact .inl h6
  · exact .inr ⟨g', cap, cur, e1, e2, hk _ _ _ e3, e4⟩
theorem own_new {B : Nat} {W W' : World} {v : Value} {n : Nat} {xs : List Value} {E sz : Nat} (h : W.ownsRow B E sz v n xs) (hk : Keeps [] W W') : W'.ownsRow B E sz v n xs := own_kept h fun _ _ _ h => hk.heap h (by simp)
theorem own_down {B B' : Nat} {W : World} {v : Value} {n : Nat} {xs : List Value} {E sz : Nat} (h : W.ownsRow B E sz v n xs) (hB : B' ≤ B) : W.ownsRow B' E sz v n xs := by
  refine ⟨h.1, ?_⟩
  rcases h.2 with h6 | ⟨g', cap, cur, e1, e2, e4⟩
  · exact .inl h6
  · exact .inr ⟨g', cap, cur, e1, by omega, e4⟩
/-- What an append to an own row leaves of what was there ahead. -/
theorem keeps_grow {w0 W W' : World} {v : Value} {n : Nat} {xs : List Value} {E sz : Nat} (hk : Keeps [] w0 W) (h : W.ownsRow w0.heap.size E sz v n xs) (hg : W.grownBy W' v.ownBlock) : Keeps [] w0 W' :=
  ⟨hg.os.trans hk.os, hg.tape.trans hk.tape, hg.output.trans hk.output, Nat.le_trans hk.size hg.size, fun i hi hs => by
    rw [hg.block i (Nat.lt_of_lt_of_le hi hk.size) (fun e => by have := (h.lt i e.symm).1; omega)]
    exact hk.block i hi hs⟩
end Go.Proofs.YtkhalpnonijogaaGreat
namespace Go.Proofs.YtkhalpnonijogaaGreat
open Go.RowKit

structure Fx (own : Nat → Prop) (w w' : World) : Prop where
  os : w'.os = w.os
  tape : w'.tape = w.tape
  output : w'.output = w.output
  size : w.heap.size ≤ w'.heap.size
  far : ∀ k : Nat, k < w.heap.size → ¬ own k → w'.heap[k]? = w.heap[k]?
  bytes : ∀ (k : Nat) (cs : Array Value) (fr : Nat × Nat), w.heap[k]? = some (Obj.cells cs 5 fr) → w'.heap[k]? = some (Obj.cells cs 5 fr)
section
variable {own : Nat → Prop} {a b c w w' : World}
theorem Fx.refl (own : Nat → Prop) (w : World) : Fx own w w := ⟨rfl, rfl, rfl, Nat.le_refl _, fun _ _ _ => rfl, fun _ _ _ h => h⟩
theorem Fx.trans (h : Fx own a b) (k : Fx own b c) : Fx own a c :=
  ⟨k.os.trans h.os, k.tape.trans h.tape, k.output.trans h.output, Nat.le_trans h.size k.size, fun i hi hs => (k.far i (Nat.lt_of_lt_of_le hi h.size) hs).trans (h.far i hi hs), fun i cs fr hi => k.bytes i cs fr (h.bytes i cs fr hi)⟩
theorem Fx.of_keeps {S : List Nat} (h : Keeps S a b) (hS : ∀ k ∈ S, own k) (hb : ∀ k ∈ S, ∀ cs fr, a.heap[k]? ≠ some (Obj.cells cs 5 fr)) : Fx own a b :=
  ⟨h.os, h.tape, h.output, h.size, fun k hk ho => h.block k hk fun hm => ho (hS k hm), fun k cs fr hk => h.heap hk fun hm => hb k hm cs fr hk⟩
theorem Fx.new (h : Keeps [] a b) : Fx own a b := .of_keeps h (by simp) (by simp)
theorem Fx.alloc (h : Fx own a b) (o : Obj) : Fx own a (b.alloc o) := h.trans (.new ((Keeps.refl _ _).alloc o))
theorem Fx.drew (h : Fx own a b) : Fx own a b.drew := h.trans (.new (Keeps.refl _ _).drew)
theorem Fx.drewN (h : Fx own a b) (n : Nat) : Fx own a (b.drewN n) := h.trans (.new ((Keeps.refl _ _).drewN n))
theorem Fx.heap (h : Fx own a b) {k : Nat} {o : Obj} (ho : a.heap[k]? = some o) (hk : ¬ own k) : b.heap[k]? = some o := by
  rw [h.far k (lt_of_block ho) hk]; exact ho
theorem Fx.mono {own' : Nat → Prop} (h : Fx own a b) (ho : ∀ k, own k → own' k) : Fx own' a b :=
  ⟨h.os, h.tape, h.output, h.size, fun k hk hn => h.far k hk fun hm => hn (ho k hm), h.bytes⟩
theorem Fx.byts {A : Option Addr} {l : List (BitVec 8)} (h : Fx own a b) (hB : Byts a A l) (hA : ∀ g, A = some g → ∃ cs fr, a.heap[g.block]? = some (Obj.cells cs 5 fr)) : Byts b A l := by
  intro i x hx
  obtain ⟨g, rfl, hc⟩ := hB i x hx
  obtain ⟨cs, fr, hg⟩ := hA g rfl
  refine ⟨g, rfl, ?_⟩
  rw [← hc]
  exact World.cell?_of_block (by rw [block_add, h.bytes _ _ _ hg, hg])
theorem Fx.own5 {B : Nat} {v : Value} {n : Nat} {xs : List Value} (h : Fx own a b) (ho : a.ownsRow B 5 1 v n xs) : b.ownsRow B 5 1 v n xs := own_kept ho fun _ _ _ hi => h.bytes _ _ _ hi
end
end Go.Proofs.YtkhalpnonijogaaGreat
namespace Go.Proofs.YtkhalpnonijogaaGreat
namespace Crc
def bit (x : BitVec 16) : BitVec 16 := if x.msb then (x <<< 1) ^^^ 0x1021#16 else x <<< 1
def bits8 (x : BitVec 16) : BitVec 16 := bit (bit (bit (bit (bit (bit (bit (bit x)))))))
def wide (b : BitVec 8) : BitVec 16 := b.setWidth 16
def row (k : BitVec 8) : BitVec 16 := bits8 (wide k <<< 8)
def stepT (s : BitVec 16) (b : BitVec 8) : BitVec 16 := (s <<< 8) ^^^ row ((s >>> 8).setWidth 8 ^^^ b)
def stepB (s : BitVec 16) (b : BitVec 8) : BitVec 16 := bits8 (s ^^^ (wide b <<< 8))

theorem bit_xor (x y : BitVec 16) : bit (x ^^^ y) = bit x ^^^ bit y := by
  have hs : (x ^^^ y) <<< 1 = (x <<< 1) ^^^ (y <<< 1) := BitVec.shiftLeft_xor_distrib x y 1
  have hk : ∀ a b c : BitVec 16, (a ^^^ b) ^^^ c = (a ^^^ c) ^^^ b := fun a b c => by rw [BitVec.xor_assoc, BitVec.xor_comm b c, ← BitVec.xor_assoc]
  unfold bit
  rw [BitVec.msb_xor, hs]
  cases x.msb <;> cases y.msb
  · rfl
  · simp only [Bool.xor_true, Bool.not_false, if_true, Bool.false_eq_true, if_false, BitVec.xor_assoc]
  · simp only [Bool.xor_false, if_true, Bool.false_eq_true, if_false]
    exact hk _ _ _
  · simp only [Bool.xor_true, Bool.not_true, if_true, Bool.false_eq_true, if_false]
    rw [BitVec.xor_assoc, ← BitVec.xor_assoc 4129#16, BitVec.xor_comm 4129#16, BitVec.xor_assoc (y <<< 1), BitVec.xor_self, BitVec.xor_zero]
theorem bits8_xor (x y : BitVec 16) : bits8 (x ^^^ y) = bits8 x ^^^ bits8 y := by
  simp only [bits8, bit_xor]
theorem bits8_low : ∀ v : BitVec 8, bits8 (wide v) = wide v <<< 8 := by decide +kernel
theorem parts (s : BitVec 16) (b : BitVec 8) : s ^^^ (wide b <<< 8) = (wide ((s >>> 8).setWidth 8 ^^^ b) <<< 8) ^^^ wide (s.setWidth 8) := by
  apply BitVec.eq_of_getLsbD_eq
  intro i hi
  simp only [wide, BitVec.getLsbD_xor, BitVec.getLsbD_shiftLeft, BitVec.getLsbD_setWidth, BitVec.getLsbD_ushiftRight]
  by_cases h : i < 8
  · simp [h, hi]
  · have h1 : 8 + (i - 8) = i := by omega
    have h2 : i - 8 < 8 := by omega
    have h3 : i - 8 < 16 := by omega
    simp [h, hi, h1, h2, h3]
theorem low_shift (s : BitVec 16) : wide (s.setWidth 8) <<< 8 = s <<< 8 := by
  apply BitVec.eq_of_getLsbD_eq
  intro i hi
  simp only [wide, BitVec.getLsbD_shiftLeft, BitVec.getLsbD_setWidth]
  by_cases h : i < 8
  · simp [h]
  · have h2 : i - 8 < 8 := by omega
    have h3 : i - 8 < 16 := by omega
    simp [h, hi, h2, h3]
theorem step_eq (s : BitVec 16) (b : BitVec 8) : stepT s b = stepB s b := by
  rw [stepB, parts, bits8_xor, bits8_low, low_shift, stepT, row, BitVec.xor_comm]
def sumB (l : List (BitVec 8)) : BitVec 16 := l.foldl stepB 0xffff#16
def sumT (l : List (BitVec 8)) : BitVec 16 := l.foldl stepT 0xffff#16
theorem sum_eq (l : List (BitVec 8)) : sumT l = sumB l := by
  unfold sumT sumB
  congr 1
  funext s b
  exact step_eq s b
end Crc
end Go.Proofs.YtkhalpnonijogaaGreat
namespace Go.Proofs.YtkhalpnonijogaaGreat
/-- A frame: its number, its kind, its payload. -/
structure Frm where
  seq : BitVec 8
  kind : BitVec 8
  pay : List (BitVec 8)
def hi8 (s : BitVec 16) : BitVec 8 := (s >>> 8).setWidth 8
def lo8 (s : BitVec 16) : BitVec 8 := s.setWidth 8
/-- Which frames there are. -/
structure Frm.Ok (f : Frm) : Prop where
  kind1 : 1 ≤ f.kind.toNat
  kind10 : f.kind.toNat ≤ 10
  pay : f.pay.length ≤ 256
def Frm.len (f : Frm) : BitVec 16 := BitVec.ofNat 16 f.pay.length
def Frm.body (f : Frm) : List (BitVec 8) := hi8 f.len :: lo8 f.len :: f.seq :: f.kind :: f.pay
def Frm.sum (f : Frm) : BitVec 16 := Crc.sumB f.body
def Frm.enc (f : Frm) : List (BitVec 8) := 0x7e#8 :: (f.body ++ [hi8 f.sum, lo8 f.sum])
theorem Frm.enc_len (f : Frm) : f.enc.length = f.pay.length + 7 := by simp [Frm.enc, Frm.body]

/-- How bytes are scanned, where all in them are frames, what is no frame's first byte, and a frame's beginning at the end. -/
inductive Scn : List (BitVec 8) → List Frm → List (BitVec 8) → Prop
  | done (f : Frm) (p t : List (BitVec 8)) (hf : f.Ok) (h : f.enc = p ++ t) (ht : t ≠ []) : Scn p [] p
  | skip {c : BitVec 8} {t : List (BitVec 8)} {F : List Frm} {L : List (BitVec 8)} (hc : c ≠ 0x7e#8) (h : Scn t F L) : Scn (c :: t) F L
  | take {f : Frm} {t : List (BitVec 8)} {F : List Frm} {L : List (BitVec 8)} (hf : f.Ok) (h : Scn t F L) : Scn (f.enc ++ t) (f :: F) L
theorem Frm.enc_ne (f : Frm) : f.enc ≠ [] := by simp [Frm.enc]
theorem Scn.nil : Scn [] [] [] := by
  have hf : (⟨0, 1#8, []⟩ : Frm).Ok := ⟨by decide, by decide, by simp⟩
  exact .done _ [] _ hf rfl (Frm.enc_ne _)
theorem Scn.skips {z t : List (BitVec 8)} {F : List Frm} {L : List (BitVec 8)} (hz : ∀ c ∈ z, c ≠ 0x7e#8) (h : Scn t F L) : Scn (z ++ t) F L := by
  induction z with
  | nil => exact h
  | cons c z ih => exact .skip (hz c (by simp)) (ih fun x hx => hz x (by simp [hx]))

/-- Frames, noise ahead of each. -/
def noisy (l : List (List (BitVec 8) × Frm)) : List (BitVec 8) := l.flatMap fun x => x.1 ++ x.2.enc
def Quiet (l : List (List (BitVec 8) × Frm)) : Prop := ∀ x ∈ l, (∀ c ∈ x.1, c ≠ 0x7e#8) ∧ x.2.Ok
theorem scn_noisy {l : List (List (BitVec 8) × Frm)} (h : Quiet l) : Scn (noisy l) (l.map (·.2)) [] := by
  induction l with
  | nil => exact Scn.nil
  | cons x l ih =>
    obtain ⟨h1, h2⟩ := h x (by simp)
    have := Scn.skips h1 (Scn.take h2 (ih fun y hy => h y (by simp [hy])))
    simpa [noisy, List.append_assoc] using this
/-- Cut anywhere. -/
theorem scn_cut : ∀ {l : List (List (BitVec 8) × Frm)}, Quiet l → ∀ n, ∃ F1 L1 F2, Scn ((noisy l).take n) F1 L1 ∧ Scn (L1 ++ (noisy l).drop n) F2 [] ∧ F1 ++ F2 = l.map (·.2) := by
  intro l
  induction l with
  | nil => intro _ n; exact ⟨[], [], [], by simpa [noisy] using Scn.nil, by simpa [noisy] using Scn.nil, rfl⟩
  | cons x l ih =>
    intro h n
    obtain ⟨h1, h2⟩ := h x (by simp)
    have hl : Quiet l := fun y hy => h y (by simp [hy])
    have e : noisy (x :: l) = x.1 ++ (x.2.enc ++ noisy l) := by simp [noisy]
    rw [e]
    by_cases hn : n ≤ x.1.length
    · refine ⟨[], [], (x :: l).map (·.2), ?_, ?_, rfl⟩
      · rw [List.take_append_of_le_length hn]
        have := Scn.skips (z := x.1.take n) (fun c hc => h1 c (List.mem_of_mem_take hc)) Scn.nil
        simpa using this
      · rw [List.drop_append_of_le_length hn, List.nil_append]
        exact Scn.skips (fun c hc => h1 c (List.mem_of_mem_drop hc)) (Scn.take h2 (scn_noisy hl))
    · obtain ⟨k, rfl⟩ : ∃ k, n = x.1.length + k := ⟨n - x.1.length, by omega⟩
      rw [List.take_append, List.drop_append]
      by_cases hk : k < x.2.enc.length
      · refine ⟨[], x.2.enc.take k, (x :: l).map (·.2), ?_, ?_, rfl⟩
        · rw [List.take_of_length_le (by omega), Nat.add_sub_cancel_left, List.take_append_of_le_length (by omega)]
          refine Scn.skips h1 (.done x.2 _ (x.2.enc.drop k) h2 (List.take_append_drop _ _).symm ?_)
          intro h0
          have := congrArg List.length h0
          rw [List.length_drop] at this
          simp at this
          omega
        · rw [List.drop_of_length_le (by omega), Nat.add_sub_cancel_left, List.nil_append, List.drop_append_of_le_length (by omega), ← List.append_assoc, List.take_append_drop]
          exact Scn.take h2 (scn_noisy hl)
      · obtain ⟨F1, L1, F2, g1, g2, g3⟩ := ih hl (k - x.2.enc.length)
        refine ⟨x.2 :: F1, L1, F2, ?_, ?_, by simp [g3]⟩
        · rw [List.take_of_length_le (by omega), Nat.add_sub_cancel_left, List.take_append, List.take_of_length_le (by omega)]
          exact Scn.skips h1 (Scn.take h2 g1)
        · rw [List.drop_of_length_le (by omega), Nat.add_sub_cancel_left, List.nil_append, List.drop_append, List.drop_of_length_le (by omega), List.nil_append]
          exact g2
end Go.Proofs.YtkhalpnonijogaaGreat
namespace Go.Proofs.YtkhalpnonijogaaGreat
open Go.RowKit

def bitN : Nat → BitVec 16 → BitVec 16
  | 0, x => x
  | j + 1, x => Crc.bit (bitN j x)
def x0 (k : Nat) : BitVec 16 := Crc.wide (BitVec.ofNat 8 k) <<< 8
theorem row_bits (k : Nat) : Crc.row (BitVec.ofNat 8 k) = bitN 8 (x0 k) := rfl
def w16 (x : BitVec 16) : Value := .int .u16 x.toNat
def tab (k : Nat) : Array Value := ((List.range 256).map fun i => if i < k then w16 (Crc.row (BitVec.ofNat 8 i)) else .int .u16 0).toArray

theorem ofInt16 (x : BitVec 16) : BitVec.ofInt IntKind.u16.bits (x.toNat : Int) = x := by
  show BitVec.ofInt 16 _ = x
  rw [BitVec.ofInt_natCast, BitVec.ofNat_toNat, BitVec.setWidth_eq]
theorem wrap16 (n : Nat) (h : n < 65536) : IntKind.u16.wrap n = n := by
  simp [IntKind.wrap, IntKind.bits, IntKind.signed]
  omega
theorem bits_x16 (x y : BitVec 16) : bits .xor .u16 x.toNat y.toNat = ((x ^^^ y).toNat : Int) := by
  unfold bits
  rw [ofInt16, ofInt16]
  exact wrap16 _ (x ^^^ y).isLt
theorem bits_a16 (x : BitVec 16) : bits .and .u16 x.toNat 32768 = if x.msb then 32768 else 0 := by
  have key : ∀ x : BitVec 16, (x &&& 32768#16) = if x.msb then 32768#16 else 0#16 := by
    intro x
    apply BitVec.eq_of_getLsbD_eq
    intro i hi
    rw [BitVec.getLsbD_and]
    have h1 : (32768#16).getLsbD i = decide (i = 15) := by
      rcases (show i = 0 ∨ i = 1 ∨ i = 2 ∨ i = 3 ∨ i = 4 ∨ i = 5 ∨ i = 6 ∨ i = 7 ∨ i = 8 ∨ i = 9 ∨ i = 10 ∨ i = 11 ∨ i = 12 ∨ i = 13 ∨ i = 14 ∨ i = 15 by omega) with rfl | rfl | rfl | rfl | rfl | rfl | rfl | rfl | rfl | rfl | rfl | rfl | rfl | rfl | rfl | rfl <;> rfl
    rw [h1]
    by_cases h : i = 15
    · subst h
      have h2 : x.msb = x.getLsbD 15 := rfl
      rw [h2]
      cases x.getLsbD 15 <;> rfl
    · simp only [h, decide_false, Bool.and_false]
      split
      · rw [h1]; simp [h]
      · simp
  have h2 : bits .and .u16 x.toNat 32768 = ((x &&& 32768#16).toNat : Int) := by
    unfold bits
    rw [ofInt16]
    exact wrap16 _ (x &&& 32768#16).isLt
  rw [h2, key]
  split <;> rfl
theorem wrap_shl16 (x : BitVec 16) : IntKind.u16.wrap ((x.toNat : Int) * 2) = ((x <<< 1).toNat : Int) := by
  simp [IntKind.wrap, IntKind.bits, IntKind.signed, BitVec.toNat_shiftLeft, Nat.shiftLeft_eq]

theorem tab_set (k : Nat) : (tab k).setIfInBounds k (w16 (Crc.row (BitVec.ofNat 8 k))) = tab (k + 1) := by
  unfold tab
  rw [List.setIfInBounds_toArray]
  congr 1
  refine List.ext_getElem (by simp) fun i h1 h2 => ?_
  have hi : i < 256 := by simpa using h2
  rw [List.getElem_set]
  by_cases e : k = i
  · subst e; simp
  · rw [if_neg e]
    simp only [List.getElem_map, List.getElem_range]
    by_cases h : i < k
    · rw [if_pos h, if_pos (by omega)]
    · rw [if_neg h, if_neg (by omega)]
/-- The whole table. -/
def tabL : List Value := (List.range 256).map fun i => w16 (Crc.row (BitVec.ofNat 8 i))
theorem tab_full : tab 256 = tabL.toArray :=
  congrArg List.toArray (List.map_congr_left fun _ hi => if_pos (List.mem_range.1 hi))
theorem tabL_len : tabL.length = 256 := by simp [tabL]
theorem tabL_one : ∀ v ∈ tabL, v.oneCell' = true := by
  intro v hv
  obtain ⟨i, _, rfl⟩ := List.mem_map.1 hv
  rfl
theorem info498 : (Tryz.prog.info? 498).map (·.size) = some 256 := by kernel_rfl

set_option maxHeartbeats 1600000 in
set_option maxRecDepth 100000 in
theorem row_ok (w : World) : Calls Tryz.prog 305 #[] w fun e w' => e = .returned (.agg tabL.toArray) ∧ Keeps [] w w' := by
  go_enter Tryz.func305, Tryz.ntmps305
  go_upto_region 2 with fail
  obtain ⟨b, hb⟩ : ∃ b, b = w.heap.size := ⟨_, rfl⟩
  obtain ⟨w1, hw1⟩ : ∃ w1, w1 = w.alloc (.cells Tryz.zeroCells498 498) := ⟨_, rfl⟩
  rw [← hw1, ← hb]
  have hk1 : Keeps [] w w1 := by rw [hw1]; exact (Keeps.refl _ _).alloc _
  have hx1 : w1.heap[b]? = some (.cells (tab 0) 498 (0, 0)) := by
    rw [show tab 0 = Tryz.zeroCells498 by kernel_rfl, hw1, hb]
    exact heap_alloc_new _ _
  have H1 : Hid (Keeps [] w w1 ∧ w1.heap[b]? = some (.cells (tab 0) 498 (0, 0))) := ⟨hk1, hx1⟩
  have hbw : w.heap.size ≤ b := by omega
  clear hw1 hk1 hx1 hb
  go_loopw [4] (fun si wr => ∃ k : Nat, si = .int .i64 k ∧ k ≤ 256 ∧ Hid (Keeps [] w wr ∧ wr.heap[b]? = some (.cells (tab k) 498 (0, 0)))) (fun si _ => 256 - (intOf si).toNat)
  case atStart => exact ⟨0, rfl, by omega, H1⟩
  case round =>
    clear H1
    obtain ⟨k, rfl, hk, HK⟩ := hrel
    by_cases hlt : k < 256
    · have d1 : decide (k < 256) = true := decide_eq_true hlt
      have d2 : decide ((k : Int) < 256) = true := decide_eq_true (by omega)
      go_upto_region 6 with fail
      go_loopw [2, 10] (fun sx sj wx => ∃ (j n : Nat), sx = .int .u16 n ∧ sj = .int .i64 j ∧ j ≤ 8 ∧ n < 65536 ∧ Hid (n = (bitN j (x0 k)).toNat) ∧ wx = wr) (fun _ sj _ => 8 - (intOf sj).toNat)
      case atStart =>
        refine ⟨0, (x0 k).toNat, ?_, rfl, by omega, (x0 k).isLt, rfl, rfl⟩
        have : (x0 k).toNat = k * 256 := by
          simp [x0, Crc.wide, BitVec.toNat_shiftLeft, Nat.shiftLeft_eq]
          omega
        rw [this]
        simp
      case round =>
        obtain ⟨j, n, rfl, rfl, hj, hn, HN, rfl⟩ := hrel
        by_cases hj8 : j < 8
        · have e1 : decide (j < 8) = true := decide_eq_true hj8
          have e2 : decide ((j : Int) < 8) = true := decide_eq_true (by omega)
          obtain ⟨y, hy⟩ : ∃ y, y = bitN j (x0 k) := ⟨_, rfl⟩
          have hyn : n = y.toNat := by rw [HN.out, hy]
          obtain ⟨p, hp⟩ : ∃ p, p = (y <<< 1).toNat := ⟨_, rfl⟩
          have hpl : p < 65536 := by rw [hp]; exact (y <<< 1).isLt
          have hsh : IntKind.u16.wrap ((n : Int) * 2) = p := by rw [hyn, hp]; exact wrap_shl16 y
          cases hm : y.msb with
          | true =>
            obtain ⟨q, hq⟩ : ∃ q, q = (Crc.bit y).toNat := ⟨_, rfl⟩
            have hql : q < 65536 := by rw [hq]; exact (Crc.bit y).isLt
            have ha : (bits .and .u16 (n : Int) 32768 != 0) = true := by rw [hyn, bits_a16, hm]; rfl
            have hx : bits .xor .u16 (p : Int) 4129 = q := by
              rw [hp, hq, Crc.bit, hm]
              exact bits_x16 (y <<< 1) 4129#16
            have HN2 : Hid (q = (bitN (j + 1) (x0 k)).toNat) := Go.Lib.hid (by rw [hq, bitN, ← hy])
            clear hy hyn hm HN hp hq
            go_wp2_with fail
            exact ⟨⟨j + 1, q, rfl, by go_num, by omega, hql, HN2, trivial⟩, by simp [intOf]; omega⟩
          | false =>
            have ha : (bits .and .u16 (n : Int) 32768 != 0) = false := by rw [hyn, bits_a16, hm]; rfl
            have HN2 : Hid (p = (bitN (j + 1) (x0 k)).toNat) := Go.Lib.hid (by rw [hp, bitN, ← hy, Crc.bit, hm]; rfl)
            clear hy hyn hm HN hp
            go_wp2_with fail
            exact ⟨⟨j + 1, p, rfl, by go_num, by omega, hpl, HN2, trivial⟩, by simp [intOf]; omega⟩
        · obtain rfl : j = 8 := by omega
          rw [← row_bits] at HN
          obtain ⟨c0, c1⟩ := cell_at HK.out.2 (show (tab k)[k]? = some (.int .u16 0) from by simp [tab, hlt])
          have HS : Hid (Keeps [] w (wr.setCell ⟨b, k, none⟩ (.int .u16 n)) ∧ (wr.setCell ⟨b, k, none⟩ (.int .u16 n)).heap[b]? = some (.cells (tab (k + 1)) 498 (0, 0))) := by
            refine ⟨HK.out.1.setNew hbw _, ?_⟩
            rw [heap_setCell_self HK.out.2, HN.out]
            have := tab_set k
            rw [w16] at this
            rw [this]
          clear HN
          go_wp2_with fail
          exact ⟨⟨k + 1, by go_num, by omega, HS⟩, by simp [intOf]; omega⟩
    · obtain rfl : k = 256 := by omega
      go_upto_region 14 with fail
      have hb := HK.out.2
      rw [tab_full] at hb
      have hmid : wr.rangeAt b 0 tabL := range_of_block hb
      have hth : wr.there b 0 tabL.toArray.size := there_of_block hb
      have HB := Go.Lib.hid hb
      have HKK := Go.Lib.hid HK.out.1
      clear hb HK
      obtain ⟨X, hX⟩ : ∃ X : Array Value, X = tabL.toArray := ⟨_, rfl⟩
      have hsz : (Tryz.prog.info? 498).map (·.size) = some X.size := by rw [hX, List.size_toArray, tabL_len]; exact info498
      have hall : X.all (·.oneCell') = true := by rw [hX]; exact all_oneCell_toArray tabL_one
      rw [← hX] at hth
      go_wp2_with (first | (with_reducible refine wpList_load_mid rfl 498 (.tmp 0) rfl b 0 rfl tabL _ hmid Tryz.underlying498 rfl (by rw [tabL_len]; exact info498) ?_; rw [← hX]) | (with_reducible refine wpList_store_mid rfl 498 (.tmp 0) (.tmp 25) rfl b 0 X rfl rfl hth hsz hall ?_))
      have hb2 : (wr.setCells b 0 X.toList).heap[b]? = some (.cells X 498 (0, 0)) := by
        have h0 := HB.out
        rw [← hX] at h0
        simpa using heap_setCells_all h0 (vs := X.toList) (by simp)
      have hk2 : Keeps [] w (wr.setCells b 0 X.toList) := keeps_setCells (.inr hbw) _ _ _ HKK.out
      refine bodyPost_ret (results_cell_row rfl _ _ b 498 X (0, 0) _ rfl hb2 Tryz.underlying498 rfl hsz) rfl ?_
      exact ⟨by rw [hX], hk2⟩
end Go.Proofs.YtkhalpnonijogaaGreat
namespace Go.Proofs.YtkhalpnonijogaaGreat
open Go.RowKit

def MapIs (w : World) (m : Nat) (L : List (Int × Value)) : Prop := ∃ es clk, w.heap[m]? = some (.map es clk) ∧ es.toList.map (fun e => (e.key, e.val)) = L.map fun x => (.int .i64 x.1, x.2)
theorem MapIs.keeps {S : List Nat} {w w' : World} {m : Nat} {L : List (Int × Value)} (h : MapIs w m L) (hk : Keeps S w w') (hm : m ∉ S) : MapIs w' m L := by
  obtain ⟨es, clk, h1, h2⟩ := h
  exact ⟨es, clk, hk.heap h1 hm, h2⟩
theorem MapIs.made (w : World) : MapIs (w.alloc (.map #[] 0)) w.heap.size [] := ⟨#[], 0, heap_alloc_new _ _, rfl⟩
def getL (n : Int) : List (Int × Value) → Option Value
  | [] => none
  | x :: l => if n = x.1 then some x.2 else getL n l
theorem findNow_spec (n : Int) : ∀ (es : List MapEntry) (L : List (Int × Value)) (i : Nat), es.map (fun e => (e.key, e.val)) = L.map (fun x => (.int .i64 x.1, x.2)) →
    ∃ r, Instr.findNow (.int .i64) (.int .i64 n) es i = some r ∧ r.map (·.2) = getL n L
  | [], L, i, h => by
    obtain rfl : L = [] := by simpa using h.symm
    exact ⟨none, rfl, rfl⟩
  | e :: es, L, i, h => by
    cases L with
    | nil => simp at h
    | cons x L =>
      simp only [List.map_cons, List.cons.injEq, Prod.mk.injEq] at h
      obtain ⟨⟨h1, h2⟩, h3⟩ := h
      by_cases hn : n = x.1
      · refine ⟨some (i, e.val), ?_, ?_⟩
        · simp [Instr.findNow, Instr.sameNow, h1, hn]
        · simp [getL, hn, h2]
      · obtain ⟨r, h4, h5⟩ := findNow_spec n es L (i + 1) h3
        refine ⟨r, ?_, ?_⟩
        · have : (n == x.1) = false := by simpa using hn
          simp [Instr.findNow, Instr.sameNow, h1, this, h4]
        · simp [getL, hn, h5]
theorem run_put {P : Program} {w : World} {m : Nat} {L : List (Int × Value)} {t k e : TypeId} (ht : P.underlying t = some (.map k e)) (hk : P.underlying k = some (.int .i64)) (h : MapIs w m L) (n : Int) (v : Value) (hn : getL n L = none) :
    ∃ w', (Instr.mapUpdate t (.map (some m)) (.int .i64 n) v).run P w = .ok () w' ∧ MapIs w' m (L ++ [(n, v)]) ∧ Keeps [m] w w' := by
  obtain ⟨es, clk, h1, h2⟩ := h
  obtain ⟨r, h3, h4⟩ := findNow_spec n es.toList L 0 h2
  rw [hn] at h4
  obtain rfl : r = none := by simpa using h4
  have hlt := lt_of_block h1
  refine ⟨{ w with heap := w.heap.setIfInBounds m (.map (es.push { key := .int .i64 n, val := v, born := clk }) (clk + 1)) }, ?_, ?_, ?_⟩
  · have hg : (getObj m).run P w = .ok (.map es clk) w := by simp [getObj, Sem.run, h1]
    have hs : (setObj m (.map (es.push { key := .int .i64 n, val := v, born := clk }) (clk + 1))).run P w = .ok () { w with heap := w.heap.setIfInBounds m (.map (es.push { key := .int .i64 n, val := v, born := clk }) (clk + 1)) } := by simp [setObj, Sem.run, h1]
    have hc : (Instr.checkKey false 10000 k (.int .i64 n)).run P w = .ok () w := MapKept.run_checkKey hk (by simp [MapKept.IsKey]) _ 9999
    have hf : (Instr.findKey k (.int .i64 n) es.toList).run P w = .ok none w := by simp [Instr.findKey, run_underlying hk, h3]
    simp [Instr.mapUpdate, run_underlying ht, hg, hc, hf, hs]
  · exact ⟨_, _, by simp [hlt]; exact ⟨rfl, rfl⟩, by simp [h2]⟩
  · refine ⟨rfl, rfl, rfl, by simp, fun k hk hs => ?_⟩
    have : m ≠ k := fun e => hs (by simp [e])
    simp [Array.getElem?_setIfInBounds_ne this]
theorem run_get {P : Program} {w : World} {m : Nat} {L : List (Int × Value)} {t k e : TypeId} (ht : P.underlying t = some (.map k e)) (hk : P.underlying k = some (.int .i64)) (h : MapIs w m L) {n : Int} {v : Value} (hn : getL n L = some v) (c : Bool) :
    (Instr.lookup t (.map (some m)) (.int .i64 n) c).run P w = .ok (if c then .tuple #[v, .bool true] else v) w := by
  obtain ⟨es, clk, h1, h2⟩ := h
  obtain ⟨r, h3, h4⟩ := findNow_spec n es.toList L 0 h2
  rw [hn] at h4
  obtain ⟨⟨i, v'⟩, rfl, hv⟩ := Option.map_eq_some_iff.1 h4
  obtain rfl : v' = v := hv
  have hg : (getObj m).run P w = .ok (.map es clk) w := by simp [getObj, Sem.run, h1]
  have hc : (Instr.checkKey es.isEmpty 10000 k (.int .i64 n)).run P w = .ok () w := MapKept.run_checkKey hk (by simp [MapKept.IsKey]) _ 9999
  have hf : (Instr.findKey k (.int .i64 n) es.toList).run P w = .ok (some (i, v')) w := by simp [Instr.findKey, run_underlying hk, h3]
  simp [Instr.lookup, run_underlying ht, hg, hc, hf]
theorem run_get_no {P : Program} {w : World} {m : Nat} {L : List (Int × Value)} {t k e : TypeId} (ht : P.underlying t = some (.map k e)) (hk : P.underlying k = some (.int .i64)) (h : MapIs w m L) {n : Int} {z : Value} (hn : getL n L = none) (hz : ∀ w, (zeroValue e).run P w = .ok z w) (c : Bool) :
    (Instr.lookup t (.map (some m)) (.int .i64 n) c).run P w = .ok (if c then .tuple #[z, .bool false] else z) w := by
  obtain ⟨es, clk, h1, h2⟩ := h
  obtain ⟨r, h3, h4⟩ := findNow_spec n es.toList L 0 h2
  rw [hn] at h4
  obtain rfl : r = none := by simpa using h4
  have hg : (getObj m).run P w = .ok (.map es clk) w := by simp [getObj, Sem.run, h1]
  have hc : (Instr.checkKey es.isEmpty 10000 k (.int .i64 n)).run P w = .ok () w := MapKept.run_checkKey hk (by simp [MapKept.IsKey]) _ 9999
  have hf : (Instr.findKey k (.int .i64 n) es.toList).run P w = .ok none w := by simp [Instr.findKey, run_underlying hk, h3]
  simp [Instr.lookup, run_underlying ht, hg, hc, hf, hz]
/-- An entry of a literal. -/
theorem wpList_insert {P : Program} {w : World} {ops : Array Oper} {rest : List Oper} {o : Oper} {a : Act} {Q : Exit → Act → World → Prop} (hgd : o.guard = none) (m x v : Operand) (t : TypeId) (hop : o.op = Op.insert t m x v)
    {k e : TypeId} (ht : P.underlying t = some (.map k e)) (hk : P.underlying k = some (.int .i64)) {b : Nat} {L : List (Int × Value)} (hm : a.eval m = .map (some b)) (n : Int) (hx : a.eval x = .int .i64 n) {val : Value} (hv : a.eval v = val) (h : MapIs w b L) (hn : getL n L = none)
    (hK : ∀ w', MapIs w' b (L ++ [(n, val)]) → Keeps [b] w w' → wpList P ops Q rest (a.put o.dst undef) w') : wpList P ops Q (o :: rest) a w := by
  refine wpList_plain hgd fun K' hK' => ?_
  obtain ⟨w', hrun, r1, r2⟩ := run_put ht hk h n val hn
  unfold Oper.wp
  simp [execOp, hop, hm, hx, hv, hrun, Result.andThen]
  exact hK' _ _ (hK w' r1 r2)
end Go.Proofs.YtkhalpnonijogaaGreat
