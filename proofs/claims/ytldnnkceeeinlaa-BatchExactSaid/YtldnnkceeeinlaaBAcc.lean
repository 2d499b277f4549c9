/- BatchAccounts: what lies in memory. Plain facts; no program's step. -/
import Derived.Test.YtldnnkceeeinlaaBAccM
import Derived.Test.YtldnnkceeeinlaaBReady
import Derived.Test.YtldnnkceeeinlaaBDrops
import Derived.Maps.AppendAt
namespace Go.Proofs.Ytldnnkceeeinlaa
open Go.RowKit

theorem QAt.tame {B q g h c : Nat} {W W' : World} {l : List (Nat × It)} {lost : List Int} (hq : QAt B W q g h c l lost) (hk : ∀ (i : Nat) (o : Obj), W.heap[i]? = some o → alien o = false → W'.heap[i]? = some o) : QAt B W' q g h c l lost := by
  obtain ⟨⟨f, arr, buf, s, r, h1, h2, h3, h4⟩, h5, h6⟩ := hq.ring
  exact ⟨hk _ _ hq.own rfl, ⟨⟨f, arr, buf, s, r, hk _ _ h1 rfl, hk _ _ h2 rfl, hk _ _ h3 rfl, h4⟩, h5, h6⟩, fun p hp => hk _ _ (hq.item p hp) rfl, hq.wide, hq.nodup, hq.lost8, hq.base⟩
theorem QL.tame {B q : Nat} {W W' : World} {m : List It} {lost : List Int} (hq : QL B W q m lost) (hk : ∀ (i : Nat) (o : Obj), W.heap[i]? = some o → alien o = false → W'.heap[i]? = some o) : QL B W' q m lost := by
  obtain ⟨l, ⟨g, h, c, h1⟩, h2⟩ := hq
  exact ⟨l, ⟨g, h, c, h1.tame hk⟩, h2⟩

/-- An array of eight numbers. -/
abbrev Arr (W : World) (b : Nat) (l : List Int) : Prop := W.heap[b]? = some (.cells (ints l).toArray 45 (0, 0))
theorem Arr.set {W : World} {b : Nat} {l : List Int} (h : Arr W b l) (n c : Nat) (y : Int) : Arr ((W.drewN n).setCell ⟨b, c, none⟩ (.int .i64 y)) b (l.set c y) := by
  show ((W.drewN n).setCell _ _).heap[b]? = _
  rw [heap_setCell_self (w := W.drewN n) (cs := (ints l).toArray) (t := 45) (fr := (0, 0)) h]
  simp [ints, List.map_set]
theorem Arr.get {W : World} {b : Nat} {l : List Int} (h : Arr W b l) {c : Nat} (hc : c < l.length) : W.cell? ⟨b, c, none⟩ = some (.int .i64 (l.getD c 0)) ∧ W.frozen? ⟨b, c, none⟩ = false := by
  refine cell_at h ?_
  rw [List.getElem?_toArray]
  refine ints_get ?_
  rw [List.getD_eq_getElem?_getD, List.getElem?_eq_getElem hc]
  rfl

/-- The queue, the four accounts. -/
structure Acc (w0 : World) (q b : Nat) (m : List It) (L P G O T : List Int) (W : World) : Prop where
  own : QL w0.heap.size W q m L
  keeps : Keeps [] w0 W
  ap : Arr W b P
  ag : Arr W (b + 1) G
  ao : Arr W (b + 1 + 1) O
  al : Arr W (b + 1 + 1 + 1) T
  bb : w0.heap.size ≤ b
section
variable {w0 W W' : World} {q b : Nat} {m m' : List It} {L L' P G O T : List Int}
theorem Acc.new (h : Acc w0 q b m L P G O T W) (hk : Keeps [] W W') : Acc w0 q b m L P G O T W' :=
  ⟨h.own.new hk, h.keeps.trans hk, hk.heap h.ap (by simp), hk.heap h.ag (by simp), hk.heap h.ao (by simp), hk.heap h.al (by simp), h.bb⟩
theorem Acc.bk (h : Acc w0 q b m L P G O T W) (hb : BK w0.heap.size W W') (hq : QL w0.heap.size W' q m' L') : Acc w0 q b m' L' P G O T W' :=
  ⟨hq, hb.keeps h.keeps (Nat.le_refl _), hb.keep _ _ h.ap (.inr rfl), hb.keep _ _ h.ag (.inr rfl), hb.keep _ _ h.ao (.inr rfl), hb.keep _ _ h.al (.inr rfl), h.bb⟩
theorem own_set (h : QL w0.heap.size W q m L) {x : Nat} {l : List Int} (hx : Arr W x l) (n c : Nat) (y : Value) : QL w0.heap.size ((W.drewN n).setCell ⟨x, c, none⟩ y) q m L :=
  QL.tame h fun i o ho ha => by
    rw [Below.heap_setCell _ _ _ _ (fun e => by
      subst e
      rw [hx] at ho
      obtain rfl := Option.some.inj ho
      cases ha)]
    exact ho
theorem keeps_set (h : Keeps [] w0 W) {x : Nat} (hx : w0.heap.size ≤ x) (n c : Nat) (y : Value) : Keeps [] w0 ((W.drewN n).setCell ⟨x, c, none⟩ y) := (h.drewN n).setNew hx y
theorem arr_other {x z : Nat} {l : List Int} (h : Arr W z l) (hne : z ≠ x) (n c : Nat) (y : Value) : Arr ((W.drewN n).setCell ⟨x, c, none⟩ y) z l := by
  show ((W.drewN n).setCell _ _).heap[z]? = _
  rw [Below.heap_setCell _ _ _ _ hne]
  exact h
theorem Acc.setP (h : Acc w0 q b m L P G O T W) (n c : Nat) (y : Int) : Acc w0 q b m L (P.set c y) G O T ((W.drewN n).setCell ⟨b, c, none⟩ (.int .i64 y)) :=
  ⟨own_set h.own h.ap n c _, keeps_set h.keeps h.bb n c _, h.ap.set n c y, arr_other h.ag (by omega) n c _, arr_other h.ao (by omega) n c _, arr_other h.al (by omega) n c _, h.bb⟩
theorem Acc.setG (h : Acc w0 q b m L P G O T W) (n c : Nat) (y : Int) : Acc w0 q b m L P (G.set c y) O T ((W.drewN n).setCell ⟨b + 1, c, none⟩ (.int .i64 y)) :=
  ⟨own_set h.own h.ag n c _, keeps_set h.keeps (by have := h.bb; omega) n c _, arr_other h.ap (by omega) n c _, h.ag.set n c y, arr_other h.ao (by omega) n c _, arr_other h.al (by omega) n c _, h.bb⟩
theorem Acc.setO (h : Acc w0 q b m L P G O T W) (n c : Nat) (y : Int) : Acc w0 q b m L P G (O.set c y) T ((W.drewN n).setCell ⟨b + 1 + 1, c, none⟩ (.int .i64 y)) :=
  ⟨own_set h.own h.ao n c _, keeps_set h.keeps (by have := h.bb; omega) n c _, arr_other h.ap (by omega) n c _, arr_other h.ag (by omega) n c _, h.ao.set n c y, arr_other h.al (by omega) n c _, h.bb⟩
theorem Acc.setT (h : Acc w0 q b m L P G O T W) (n c : Nat) (y : Int) : Acc w0 q b m L P G O (T.set c y) ((W.drewN n).setCell ⟨b + 1 + 1 + 1, c, none⟩ (.int .i64 y)) :=
  ⟨own_set h.own h.al n c _, keeps_set h.keeps (by have := h.bb; omega) n c _, arr_other h.ap (by omega) n c _, arr_other h.ag (by omega) n c _, arr_other h.ao (by omega) n c _, h.al.set n c y, h.bb⟩
/-- A row of numbers grows, beyond. -/
theorem Acc.grow (h : Acc w0 q b m L P G O T W) {x : Option Nat} (hg : W.grownBy W' x) (hx : ∀ i, x = some i → w0.heap.size ≤ i ∧ ∃ cs fr, W.heap[i]? = some (.cells cs 3 fr)) : Acc w0 q b m L P G O T W' := by
  have hk : ∀ (i : Nat) (o : Obj), W.heap[i]? = some o → (∀ (cs : Array Value) (fr : Nat × Nat), o ≠ .cells cs 3 fr) → W'.heap[i]? = some o := fun i o ho hne => by
    rw [hg.block i (lt_of_block ho) (fun e => ?_)]
    · exact ho
    · obtain ⟨_, cs, fr, hc⟩ := hx i e.symm
      rw [hc] at ho
      exact hne cs fr (Option.some.inj ho).symm
  refine ⟨QL.tame h.own fun i o ho ha => hk i o ho (fun cs fr e => by subst e; cases ha), ⟨hg.os.trans h.keeps.os, hg.tape.trans h.keeps.tape, hg.output.trans h.keeps.output, Nat.le_trans h.keeps.size hg.size, fun k hk1 _ => ?_⟩,
    hk _ _ h.ap (by simp), hk _ _ h.ag (by simp), hk _ _ h.ao (by simp), hk _ _ h.al (by simp), h.bb⟩
  rw [hg.block k (Nat.lt_of_lt_of_le hk1 h.keeps.size) (fun e => by have := (hx k e.symm).1; omega)]
  exact h.keeps.block k hk1 (by simp)
end

/-- Two rows of numbers of one's own, apart. -/
structure Two (B : Nat) (S : List Int) (v v' : Value) (W : World) : Prop where
  who : W.ownsRow B 3 1 v S.length (ints S)
  waits : W.ownsRow B 3 1 v' S.length (ints (List.replicate S.length 60000))
  apart : ∀ j, v.ownBlock = some j → v'.ownBlock ≠ some j
theorem own_cells {B : Nat} {W : World} {v : Value} {n : Nat} {xs : List Value} (h : W.ownsRow B 3 1 v n xs) : ∀ i, v.ownBlock = some i → B ≤ i ∧ ∃ cs fr, W.heap[i]? = some (.cells cs 3 fr) := by
  intro i hi
  rcases h.2 with ⟨rfl, _⟩ | ⟨g', cap, cur, rfl, e2, e3, e4⟩
  · simp [Value.ownBlock] at hi
  · obtain rfl : g' = i := by simpa [Value.ownBlock] using hi
    exact ⟨e2, _, _, e3⟩
/-- A row of numbers behind a change of blocks of other kinds. -/
theorem own_kept {B : Nat} {W W' : World} {v : Value} {n : Nat} {xs : List Value} (h : W.ownsRow B 3 1 v n xs) (hk : ∀ (i : Nat) (cs : Array Value) (fr : Nat × Nat), W.heap[i]? = some (.cells cs 3 fr) → W'.heap[i]? = some (.cells cs 3 fr)) : W'.ownsRow B 3 1 v n xs := by
  refine ⟨h.1, ?_⟩
  rcases h.2 with h6 | ⟨g', cap, cur, e1, e2, e3, e4⟩
  · exact .inl h6
  · exact .inr ⟨g', cap, cur, e1, e2, hk _ _ _ e3, e4⟩
theorem Two.kept {B : Nat} {S : List Int} {v v' : Value} {W W' : World} (h : Two B S v v' W) (hk : ∀ (i : Nat) (cs : Array Value) (fr : Nat × Nat), W.heap[i]? = some (.cells cs 3 fr) → W'.heap[i]? = some (.cells cs 3 fr)) : Two B S v v' W' := ⟨own_kept h.who hk, own_kept h.waits hk, h.apart⟩
theorem set_keeps3 {W : World} {x : Nat} {l : List Int} (hx : Arr W x l) (n c : Nat) (y : Value) : ∀ (i : Nat) (cs : Array Value) (fr : Nat × Nat), W.heap[i]? = some (.cells cs 3 fr) → ((W.drewN n).setCell ⟨x, c, none⟩ y).heap[i]? = some (.cells cs 3 fr) := fun i cs fr h => by
  rw [Below.heap_setCell _ _ _ _ (block_ne h hx (by simp))]
  exact h
theorem Nums.of_own {B : Nat} {w : World} {v : Value} {l : List Int} {n : Nat} (h : w.ownsRow B 3 1 v n (ints l)) (hn : n = l.length) : ∃ A c, v = .slice A n c ∧ Nums w A l := by
  subst hn
  rcases h.2 with ⟨rfl, h0⟩ | ⟨g', cap, cur, rfl, e2, e3, e4⟩
  · obtain rfl := List.eq_nil_of_length_eq_zero h0
    exact ⟨none, 0, rfl, fun i x hx => by simp at hx⟩
  · refine ⟨_, _, rfl, fun i x hx => ⟨_, rfl, ?_⟩⟩
    exact h.cells (g := g') rfl i _ (ints_get hx)
theorem set_getD_same (l : List Int) (c : Nat) : l.set c (l.getD c 0) = l := by
  refine List.ext_getElem? fun i => ?_
  rw [List.getElem?_set]
  split
  · rename_i e
    subst e
    split
    · rename_i h; rw [List.getD_eq_getElem?_getD, List.getElem?_eq_getElem h]; rfl
    · rename_i h; rw [List.getElem?_eq_none (by omega)]
  · rfl

/-- Clients, rising. -/
theorem Rising.many {S : List Int} (h0 : S.Pairwise (· < ·)) (h8 : ∀ x ∈ S, 0 ≤ x ∧ x < 8) : Rising S (List.replicate S.length 60000) := by
  refine ⟨by simp, fun i hi => ?_⟩
  obtain ⟨x, hx⟩ : ∃ x, S[i]? = some x := ⟨_, List.getElem?_eq_getElem hi⟩
  obtain ⟨a, b⟩ := h8 x (List.mem_of_getElem? hx)
  refine ⟨x, 60000, hx, by rw [List.getElem?_replicate, if_pos hi], a, b, by omega, by omega, fun y h1 hy => ?_⟩
  have := List.pairwise_iff_getElem.1 h0 (i - 1) i (by omega) hi (by omega)
  rw [(List.getElem?_eq_some_iff.1 hx).2, (List.getElem?_eq_some_iff.1 hy).2] at this
  exact this
end Go.Proofs.Ytldnnkceeeinlaa
