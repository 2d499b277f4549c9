/- A hub in memory, and what its calls may turn. Plain facts. No condition. | hub.out. No condition but the hub's. | hub.settle. No condition but the hub's. -/
import Derived.Test.YtkhalpnonijogaaGreatX26
import Derived.Test.YtkhalpnonijogaaGreatX19
import Derived.Test.YtkhalpnonijogaaGreatX27
import Derived.Test.YtkhalpnonijogaaGreatX25
namespace Go.Proofs.YtkhalpnonijogaaGreat
open Go.RowKit

def Kind (T : List Nat) (a : Option Obj) : Prop := (∃ (cs : Array Value) (t : TypeId) (fr : Nat × Nat), t ∈ T ∧ a = some (Obj.cells cs t fr)) ∨ ∃ n b' cl s r tm, a = some (Obj.chan n b' cl s r tm)
theorem Kind.mono {T T' : List Nat} {a : Option Obj} (h : Kind T a) (hT : ∀ t ∈ T, t ∈ T') : Kind T' a := by
  rcases h with ⟨cs, t, fr, ht, h⟩ | h
  · exact .inl ⟨cs, t, fr, hT t ht, h⟩
  · exact .inr h
/-- Only the hub's own blocks of some types, and its channels, turn. -/
structure Kx (own : Nat → Prop) (T : List Nat) (w w' : World) : Prop where
  os : w'.os = w.os
  tape : w'.tape = w.tape
  output : w'.output = w.output
  size : w.heap.size ≤ w'.heap.size
  blk : ∀ k : Nat, k < w.heap.size → w'.heap[k]? = w.heap[k]? ∨ (own k ∧ Kind T w.heap[k]?)
section
variable {own : Nat → Prop} {T T' : List Nat} {a b c : World}
theorem Kx.refl (own : Nat → Prop) (T : List Nat) (w : World) : Kx own T w w := ⟨rfl, rfl, rfl, Nat.le_refl _, fun _ _ => .inl rfl⟩
theorem Kx.trans (h : Kx own T a b) (k : Kx own T b c) : Kx own T a c :=
  ⟨k.os.trans h.os, k.tape.trans h.tape, k.output.trans h.output, Nat.le_trans h.size k.size, fun i hi => by
    rcases h.blk i hi with h1 | h1
    · rcases k.blk i (Nat.lt_of_lt_of_le hi h.size) with k1 | ⟨k1, k2⟩
      · exact .inl (k1.trans h1)
      · exact .inr ⟨k1, by rw [← h1]; exact k2⟩
    · exact .inr h1⟩
theorem Kx.mono (h : Kx own T a b) (hT : ∀ t ∈ T, t ∈ T') : Kx own T' a b := ⟨h.os, h.tape, h.output, h.size, fun k hk => (h.blk k hk).imp id fun ⟨h1, h2⟩ => ⟨h1, h2.mono hT⟩⟩
theorem Kx.of_keeps {S : List Nat} (h : Keeps S a b) (hS : ∀ x ∈ S, own x ∧ Kind T a.heap[x]?) : Kx own T a b :=
  ⟨h.os, h.tape, h.output, h.size, fun k hk => by
    by_cases hm : k ∈ S
    · exact .inr (hS k hm)
    · exact .inl (h.block k hk hm)⟩
theorem Kx.new (h : Keeps [] a b) : Kx own T a b := .of_keeps h (by simp)
theorem Kx.cells (h : Kx own T a b) {k : Nat} {cs : Array Value} {t : TypeId} {fr : Nat × Nat} (hk : a.heap[k]? = some (Obj.cells cs t fr)) (ht : t ∉ T) : b.heap[k]? = some (Obj.cells cs t fr) := by
  rcases h.blk k (lt_of_block hk) with h1 | ⟨_, ⟨_, u, _, hu, e⟩ | ⟨_, _, _, _, _, _, e⟩⟩
  · rw [h1]; exact hk
  · rw [hk] at e
    simp only [Option.some.injEq, Obj.cells.injEq] at e
    exact absurd (e.2.1 ▸ hu) ht
  · rw [hk] at e
    simp at e
theorem Kx.far (h : Kx own T a b) {k : Nat} {o : Obj} (hk : a.heap[k]? = some o) (ho : ¬ own k) : b.heap[k]? = some o := by
  rcases h.blk k (lt_of_block hk) with h1 | ⟨h1, _⟩
  · rw [h1]; exact hk
  · exact absurd h1 ho
theorem Kx.fx (h : Kx own T a b) (h5 : 5 ∉ T) : Fx own a b :=
  ⟨h.os, h.tape, h.output, h.size, fun k hk ho => (h.blk k hk).elim id fun ⟨h1, _⟩ => absurd h1 ho, fun _ _ _ hk => h.cells hk h5⟩
theorem Kx.own5 {B E n sz : Nat} {v : Value} {xs : List Value} (h : Kx own T a b) (ho : a.ownsRow B E sz v n xs) (hE : E ∉ T) : b.ownsRow B E sz v n xs := own_kept ho fun _ _ _ hi => h.cells hi hE
end

/-- The five drivers, given up. -/
def DrvsIs (arr : Array Value) : Prop := ∀ d : Nat, d < 5 → ∃ (want : Bool) (p : Int), 1 ≤ p ∧ p ≤ 250 ∧ ∀ j : Nat, j < 9 → arr[3 + d * 9 + j]? = (drvA (16 + (d : Int)) (49 + (d : Int)) want p 8 0 false)[j]?
/-- A table of subscriptions, at most n. -/
structure RateIs (own : Nat → Prop) (w : World) (r n : Nat) : Prop where
  ex : ∃ (rows : Value) (m : Nat) (L : List Int), m ≤ n ∧ w.heap[r]? = some (.cells #[rows, .func (.func 79) #[] #[]] 210 (0, 0)) ∧ w.ownsRow 0 323 7 rows m (ints L) ∧ ∀ g, rows.ownBlock = some g → own g
  own : own r
structure HubIs (own : Nat → Prop) (h nx mr : Nat) (L : Lft) (last : Option Nat) (w : World) : Prop where
  ex : ∃ (arr : Array Value) (f r k t : Nat) (ws cnt : Value), w.heap[h]? = some (.cells arr 94 (0, 0)) ∧ arr.size = 54 ∧ arr[1]? = some (.pointer (some ⟨f, 0, none⟩)) ∧ arr[49]? = some (.pointer (some ⟨r, 0, none⟩)) ∧
    arr[51]? = some (.pointer (some ⟨k, 0, none⟩)) ∧ arr[52]? = some (.pointer (some ⟨t, 0, none⟩)) ∧ arr[53]? = some (.int .i64 0) ∧ DrvsIs arr ∧
    w.heap[f]? = some (.cells #[ws, cnt, .int .i64 (-1)] 126 (0, 0)) ∧ RateIs own w r mr ∧ LinkIs own w k nx L last ∧ TasksIs own w t
  own : own h
theorem RateIs.keeps {own : Nat → Prop} {S : List Nat} {w w' : World} {r n : Nat} (h : RateIs own w r n) (hk : Keeps S w w') (hS : ∀ x ∈ S, ∀ cs t fr, w.heap[x]? = some (.cells cs t fr) → t ≠ 210 ∧ t ≠ 323) : RateIs own w' r n := by
  obtain ⟨rows, m, L, h1, h2, h3, h4⟩ := h.ex
  exact ⟨⟨rows, m, L, h1, hk.heap h2 (fun hm => (hS _ hm _ _ _ h2).1 rfl), own_kept h3 (fun i cs fr hi => hk.heap hi (fun hm => (hS _ hm _ _ _ hi).2 rfl)), h4⟩, h.own⟩
theorem RateIs.up {own : Nat → Prop} {w : World} {r n n' : Nat} (h : RateIs own w r n) (hn : n ≤ n') : RateIs own w r n' := by
  obtain ⟨rows, m, L, h1, h2⟩ := h.ex
  exact ⟨⟨rows, m, L, Nat.le_trans h1 hn, h2⟩, h.own⟩
theorem TasksIs.keeps {own : Nat → Prop} {S : List Nat} {w w' : World} {t : Nat} (h : TasksIs own w t) (hk : Keeps S w w') (hS : ∀ x ∈ S, ∃ cs u fr, w.heap[x]? = some (Obj.cells cs u fr) ∧ u ≠ 220 ∧ u ≠ 165) : TasksIs own w' t := by
  obtain ⟨ev, cap, wh, now, arr, h1, h2, h3, h4⟩ := h.ex
  refine ⟨ev, cap, wh, now, arr, hk.heap h1 (fun hm => ?_), h2, hk.heap h3 (fun hm => ?_), fun i hi => ?_⟩
  · obtain ⟨cs, u, fr, e, e1, _⟩ := hS _ hm
    rw [h1] at e
    simp only [Option.some.injEq, Obj.cells.injEq] at e
    exact e1 e.2.1.symm
  · obtain ⟨cs, u, fr, e, _, e2⟩ := hS _ hm
    rw [h3] at e
    simp only [Option.some.injEq, Obj.cells.injEq] at e
    exact e2 e.2.1.symm
  · obtain ⟨c, buf, s, r, g1, g2, g3, g4⟩ := h4 i hi
    refine ⟨c, buf, s, r, g1, hk.heap g2 (fun hm => ?_), g3, g4⟩
    obtain ⟨cs, u, fr, e, _⟩ := hS _ hm
    rw [g2] at e
    simp at e
/-- The hub, where only blocks of other types turned. -/
theorem HubIs.new {own : Nat → Prop} {h nx mr : Nat} {L : Lft} {last : Option Nat} {w w' : World} (H : HubIs own h nx mr L last w) (hk : Keeps [] w w') : HubIs own h nx mr L last w' := by
  obtain ⟨arr, f, r, k, t, ws, cnt, h1, h2, h3, h4, h5, h6, h7, h8, h9, h10, h11, h12⟩ := H.ex
  exact ⟨⟨arr, f, r, k, t, ws, cnt, hk.heap h1 (by simp), h2, h3, h4, h5, h6, h7, h8, hk.heap h9 (by simp), h10.keeps hk (by simp), h11.keeps hk (by simp), h12.keeps hk (by simp)⟩, H.own⟩
end Go.Proofs.YtkhalpnonijogaaGreat
namespace Go.Proofs.YtkhalpnonijogaaGreat
open Go.RowKit

theorem hout_ok {own : Nat → Prop} {h nx mr kd n c : Nat} {L : Lft} {pay : List (BitVec 8)} {last : Option Nat} {A : Option Addr} {w : World} (H : HubIs own h nx mr L last w) (hnx : nx ≤ 200) (hk1 : 1 ≤ kd) (hk10 : kd ≤ 10) (hA : Byts w A pay) (hs : Src A n c) (hn : n = pay.length) (hl : pay.length ≤ 256) :
    Calls Tryz.prog 107 #[.pointer (some ⟨h, 0, none⟩), .int .i64 kd, .slice A n c] w fun e w' => ∃ v, e = .returned v ∧ w'.ownsRow w.heap.size 5 1 v (outF nx kd pay).enc.length (by8 (outF nx kd pay).enc) ∧ HubIs own h (nx + 1) mr L last w' ∧ Kx own [150] w w' := by
  obtain ⟨arr, f, r, k, t, ws, cnt, g1, g2, g3, g4, g5, g6, g7, g8, g9, g10, g11, g12⟩ := H.ex
  obtain ⟨left, bad, lv, l1, l2, l3⟩ := g11.ex
  have r51 := (cell_at g1 g5).1
  have HO := Go.Lib.hid (out_ok l1 (by omega) hk1 hk10 hA hs hn hl)
  have HH := Go.Lib.hid H
  have H1 := Go.Lib.hid (And.intro l1 (And.intro l2 (And.intro l3 g11.own)))
  have HG := Go.Lib.hid (And.intro g1 (And.intro g2 (And.intro g3 (And.intro g4 (And.intro g5 (And.intro g6 (And.intro g7 (And.intro g8 (And.intro g9 (And.intro g10 g12))))))))))
  clear H g1 g2 g3 g4 g5 g6 g7 g8 g9 g10 g11 g12 l1 l2 l3 hA hs hn
  go_enter Tryz.func107, Tryz.ntmps107
  go_wp2_with fail
  refine HO.out.mono ?_
  rintro e w1 ⟨v, rfl, ho, hk, hg⟩
  have ho5 := only_of H1.out.1
  have HE : Hid (HubIs own h (nx + 1) mr L last w1 ∧ Kx own [150] w w1) := Go.Lib.hid (by
    obtain ⟨g1, g2, g3, g4, g5, g6, g7, g8, g9, g10, g12⟩ := HG.out
    obtain ⟨l1, l2, l3, l4⟩ := H1.out
    rw [Nat.mod_eq_of_lt (show nx + 1 < 256 by omega)] at hg
    refine ⟨⟨⟨arr, f, r, k, t, ws, cnt, hk.heap g1 (fun hm => by have := ho5 h hm _ _ _ g1; simp at this), g2, g3, g4, g5, g6, g7, g8, hk.heap g9 (fun hm => by have := ho5 f hm _ _ _ g9; simp at this), g10.keeps hk (fun x hx cs u fr hc => by rw [ho5 x hx cs u fr hc]; decide), ⟨⟨left, bad, lv, hg, ⟨own_kept l2.1 (fun i cs fr hi => hk.heap hi (fun hm => by have := ho5 i hm _ _ _ hi; simp at this)), l2.2⟩, l3.keeps hk (fun x hx cs u fr hc => by rw [ho5 x hx cs u fr hc]; decide)⟩, l4⟩, g12.keeps hk (fun x hx => by rw [List.mem_singleton.1 hx]; exact ⟨_, _, _, l1, by decide, by decide⟩)⟩, HH.out.own⟩, .of_keeps hk (fun x hx => ?_)⟩
    rw [List.mem_singleton.1 hx]
    exact ⟨l4, .inl ⟨_, _, _, by simp, l1⟩⟩)
  have HO1 := Go.Lib.hid ho
  clear ho hk hg ho5
  go_wp2_with fail
  go_ret
  exact ⟨v, rfl, HO1.out, HE.out.1, HE.out.2⟩
end Go.Proofs.YtkhalpnonijogaaGreat
namespace Go.Proofs.YtkhalpnonijogaaGreat
open Go.RowKit

theorem hat_ok {h k : Nat} (hk : k < 5) (w : World) : Calls Tryz.prog 53 #[.pointer (some ⟨h, 3, none⟩), .int .i64 ((k : Int) + 1)] w fun e w' => e = .returned (.pointer (some ⟨h, 3 + k * 9, none⟩)) ∧ w = w' := by
  have h0 : (0 : Int) ≤ k := by omega
  have h1 : (k : Int) < 5 := by omega
  go_enter Tryz.func53, Tryz.ntmps53
  go_wp2_with fail
  go_ret
  exact ⟨rfl, rfl⟩
/-- One driver's cells stored anew. -/
theorem drvs_set {h k : Nat} {arr : Array Value} {w : World} {want : Bool} {p : Int} (hh : w.heap[h]? = some (.cells arr 94 (0, 0))) (hs : arr.size = 54) (hd : DrvsIs arr) (hk : k < 5) (h1 : 1 ≤ p) (h2 : p ≤ 250) :
    ∃ arr' : Array Value, (w.setCells h (3 + k * 9) (drvA (16 + (k : Int)) (49 + (k : Int)) want p 8 0 false).toList).heap[h]? = some (.cells arr' 94 (0, 0)) ∧ arr'.size = 54 ∧ DrvsIs arr' ∧ (∀ j, (j < 3 ∨ 48 ≤ j) → arr'[j]? = arr[j]?) := by
  have hl : (drvA (16 + (k : Int)) (49 + (k : Int)) want p 8 0 false).toList.length = 9 := rfl
  obtain ⟨arr', e1, e2, e3, e4⟩ := heap_setCells (b := h) (t := 94) (fr := (0, 0)) (drvA (16 + (k : Int)) (49 + (k : Int)) want p 8 0 false).toList (3 + k * 9) w arr hh (by rw [hl, hs]; omega)
  rw [hl] at e4
  refine ⟨arr', e1, by rw [e2, hs], fun d hd5 => ?_, fun j hj => e4 j (by omega)⟩
  by_cases hdk : d = k
  · subst hdk
    refine ⟨want, p, h1, h2, fun j hj => ?_⟩
    have hj' : j < (drvA (16 + (d : Int)) (49 + (d : Int)) want p 8 0 false).toList.length := by rw [hl]; exact hj
    rw [e3 j _ (List.getElem?_eq_getElem hj'), ← Array.getElem?_toList, List.getElem?_eq_getElem hj']
  · obtain ⟨want', p', g1, g2, g3⟩ := hd d hd5
    exact ⟨want', p', g1, g2, fun j hj => by rw [e4 _ (by omega)]; exact g3 j hj⟩
theorem drv_cells {h k : Nat} {arr : Array Value} {w : World} (hh : w.heap[h]? = some (.cells arr 94 (0, 0))) (hd : DrvsIs arr) (hk : k < 5) : ∃ (want : Bool) (p : Int), 1 ≤ p ∧ p ≤ 250 ∧
    (w.cell? ⟨h, 3 + k * 9, none⟩ = some (.int .i64 (16 + (k : Int))) ∧ w.cell? ⟨h, 3 + k * 9 + 1, none⟩ = some (.int .i64 (49 + (k : Int))) ∧ w.cell? ⟨h, 3 + k * 9 + 2, none⟩ = some (.bool want) ∧ w.cell? ⟨h, 3 + k * 9 + 3, none⟩ = some (.int .i64 p) ∧ w.cell? ⟨h, 3 + k * 9 + 4, none⟩ = some (.int .i64 8) ∧ w.cell? ⟨h, 3 + k * 9 + 5, none⟩ = some (.int .i64 0) ∧ w.cell? ⟨h, 3 + k * 9 + 6, none⟩ = some (.bool false) ∧ w.cell? ⟨h, 3 + k * 9 + 7, none⟩ = some (.int .i64 0) ∧ w.cell? ⟨h, 3 + k * 9 + 8, none⟩ = some (.int .i64 0)) ∧
    (∀ j, w.frozen? ⟨h, j, none⟩ = false) := by
  obtain ⟨want, p, g1, g2, g3⟩ := hd k hk
  refine ⟨want, p, g1, g2, ⟨?_, ?_, ?_, ?_, ?_, ?_, ?_, ?_, ?_⟩, fun j => frozen_of_row w h j arr 94 hh⟩
  · rw [cell_of_row w h _ arr 94 (0, 0) hh]; exact g3 0 (by omega)
  · rw [cell_of_row w h _ arr 94 (0, 0) hh]; exact g3 1 (by omega)
  · rw [cell_of_row w h _ arr 94 (0, 0) hh]; exact g3 2 (by omega)
  · rw [cell_of_row w h _ arr 94 (0, 0) hh]; exact g3 3 (by omega)
  · rw [cell_of_row w h _ arr 94 (0, 0) hh]; exact g3 4 (by omega)
  · rw [cell_of_row w h _ arr 94 (0, 0) hh]; exact g3 5 (by omega)
  · rw [cell_of_row w h _ arr 94 (0, 0) hh]; exact g3 6 (by omega)
  · rw [cell_of_row w h _ arr 94 (0, 0) hh]; exact g3 7 (by omega)
  · rw [cell_of_row w h _ arr 94 (0, 0) hh]; exact g3 8 (by omega)
/-- The hub with one driver set. -/
theorem HubIs.drv {own : Nat → Prop} {h nx mr : Nat} {L : Lft} {last : Option Nat} {w : World} {k : Nat} {want : Bool} {p : Int} (H : HubIs own h nx mr L last w) (hk : k < 5) (h1 : 1 ≤ p) (h2 : p ≤ 250) :
    HubIs own h nx mr L last (w.setCells h (3 + k * 9) (drvA (16 + (k : Int)) (49 + (k : Int)) want p 8 0 false).toList) ∧ Kx own [94] w (w.setCells h (3 + k * 9) (drvA (16 + (k : Int)) (49 + (k : Int)) want p 8 0 false).toList) := by
  obtain ⟨arr, f, r, k0, t, ws, cnt, g1, g2, g3, g4, g5, g6, g7, g8, g9, g10, g11, g12⟩ := H.ex
  obtain ⟨arr', e1, e2, e3, e4⟩ := drvs_set (want := want) g1 g2 g8 hk h1 h2
  have hkk : Keeps [h] w (w.setCells h (3 + k * 9) (drvA (16 + (k : Int)) (49 + (k : Int)) want p 8 0 false).toList) := keeps_setCells (.inl (by simp)) _ _ _ (Keeps.refl _ _)
  have ho := only_of g1
  refine ⟨⟨⟨arr', f, r, k0, t, ws, cnt, e1, e2, by rw [e4 1 (.inl (by omega))]; exact g3, by rw [e4 49 (.inr (by omega))]; exact g4, by rw [e4 51 (.inr (by omega))]; exact g5, by rw [e4 52 (.inr (by omega))]; exact g6, by rw [e4 53 (.inr (by omega))]; exact g7, e3,
    hkk.heap g9 (fun hm => by have := ho f hm _ _ _ g9; simp at this), g10.keeps hkk (fun x hx cs t fr hc => by rw [ho x hx cs t fr hc]; decide), g11.keeps hkk (fun x hx cs t fr hc => by rw [ho x hx cs t fr hc]; decide), g12.keeps hkk (fun x hx => by rw [List.mem_singleton.1 hx]; exact ⟨_, _, _, g1, by decide, by decide⟩)⟩, H.own⟩, .of_keeps hkk (fun x hx => ?_)⟩
  rw [List.mem_singleton.1 hx]
  exact ⟨H.own, .inl ⟨_, _, _, by simp, g1⟩⟩
theorem HubIs.wake {own : Nat → Prop} {h nx mr t : Nat} {L : Lft} {last : Option Nat} {w w' : World} {arr : Array Value} (H : HubIs own h nx mr L last w) (hh : w.heap[h]? = some (.cells arr 94 (0, 0))) (ht : arr[52]? = some (.pointer (some ⟨t, 0, none⟩))) (hw : WakeF own t w w') :
    HubIs own h nx mr L last w' ∧ Kx own [94] w w' := by
  obtain ⟨arr1, f, r, k0, t1, ws, cnt, g1, g2, g3, g4, g5, g6, g7, g8, g9, g10, g11, g12⟩ := H.ex
  rw [hh] at g1
  simp only [Option.some.injEq, Obj.cells.injEq, and_true] at g1
  subst g1
  rw [ht] at g6
  simp only [Option.some.injEq, Value.pointer.injEq, Addr.mk.injEq, and_true] at g6
  subst g6
  obtain ⟨hT, S, hk, hS⟩ := hw
  have hcell : ∀ (i : Nat) (cs : Array Value) (u : TypeId) (fr : Nat × Nat), w.heap[i]? = some (Obj.cells cs u fr) → i ∉ S := fun i cs u fr hi hm => by
    obtain ⟨_, ⟨_, _, _, _, _, _, e⟩, _⟩ := hS i hm
    rw [hi] at e
    simp at e
  refine ⟨⟨⟨arr, f, r, k0, t, ws, cnt, hk.heap hh (hcell _ _ _ _ hh), g2, g3, g4, g5, ht, g7, g8, hk.heap g9 (hcell _ _ _ _ g9), g10.keeps hk (fun x hx cs u fr hc => absurd hx (hcell _ _ _ _ hc)), g11.keeps hk (fun x hx cs u fr hc => absurd hx (hcell _ _ _ _ hc)), hT⟩, H.own⟩, .of_keeps hk (fun x hx => ?_)⟩
  obtain ⟨h1, h2, _⟩ := hS x hx
  exact ⟨h1, .inr h2⟩
end Go.Proofs.YtkhalpnonijogaaGreat
