/- A list of pairs copied behind an empty one, and one more put behind: what append hands back. No condition but the rows' own. -/
import Derived.Test.YtoncobhjdplamaaGone
import Derived.Deep.AppendLies
namespace Go.Proofs.Ytoncobhjdplamaa
open Go.RowKit RPair

/-- A row of blocks from B on, or the empty row that was made for it. -/
def Fresh (B : Nat) (w : World) (v : Value) (L : List Pr) : Prop := (L = [] ∧ ∃ a, v = .slice (some a) 0 0) ∨ (L ≠ [] ∧ w.ownsRow B 49 2 v L.length (L.flatMap enc))

theorem flat_len (L : List Pr) : (L.flatMap enc).length = L.length * 2 := by
  induction L with
  | nil => rfl
  | cons y L ih => rw [List.flatMap_cons, List.length_append, ih, enc_len, List.length_cons]; omega

theorem flat_back {L : List Pr} {j : Nat} {u : Value} (h : (L.flatMap enc)[j]? = some u) : ∃ i x, L[i]? = some x ∧ ((j = i * 2 ∧ u = .int .i64 x.n) ∨ (j = i * 2 + 1 ∧ u = .string x.s)) := by
  have hj : j < L.length * 2 := by rw [← flat_len]; exact (List.getElem?_eq_some_iff.1 h).1
  obtain ⟨x, hx⟩ : ∃ x, L[j / 2]? = some x := ⟨_, List.getElem?_eq_getElem (by omega)⟩
  obtain ⟨h0, h1⟩ := RPair.flat_get L (j / 2) x hx
  refine ⟨j / 2, x, hx, ?_⟩
  rcases Nat.mod_two_eq_zero_or_one j with hm | hm
  · have e : j / 2 * 2 = j := by omega
    rw [e, h] at h0
    exact .inl ⟨e.symm, by simpa using h0⟩
  · have e : j / 2 * 2 + 1 = j := by omega
    rw [e, h] at h1
    exact .inr ⟨e.symm, by simpa using h1⟩

theorem flat_one (L : List Pr) : ∀ u ∈ L.flatMap enc, u.oneCell' = true := by
  intro u hu
  obtain ⟨x, _, hx⟩ := List.mem_flatMap.1 hu
  simp [enc] at hx
  rcases hx with rfl | rfl <;> rfl

theorem info49 : ∃ i0, Try.prog.info? 49 = some i0 ∧ i0.zero = some zero ∧ i0.size = 2 ∧ i0.bytes = 24 := by
  have hm : (Try.prog.info? 49).map (fun i => (i.zero, i.size, i.bytes)) = some (some zero, 2, 24) := by kernel_rfl
  obtain ⟨i0, h1, h2, h3, h4⟩ := info_parts hm
  exact ⟨i0, h1, h2, h3, h4⟩

theorem run_clone {S : List Nat} {w : World} {vs : Value} {L : List Pr} (hs : Sees S w vs L) (hL : L.length ≤ 300) (a0 : Addr) (ty : TypeId) :
    ∃ v' w', (Builtin.append_ #[50, 50] ty #[.slice (some a0) 0 0, vs]).run Try.prog w = .ok v' w' ∧ Fresh w.heap.size w' v' L ∧ Keeps [] w w' := by
  obtain ⟨i0, hi, hz0, hz1, hz2⟩ := info49
  cases hs with
  | nil a cap =>
    refine ⟨.slice (some a0) 0 0, w, ?_, .inl ⟨rfl, _, rfl⟩, Keeps.refl _ _⟩
    cases a <;> simp [Builtin.append_, run_underlying Try.underlying50, sizeOf, typeInfo, hi, Builtin.lenOf, Builtin.firstCells, loadCells, loadCellsFrom, storeCells]
  | cons b o cap L hc h =>
    cases L with
    | nil =>
      refine ⟨.slice (some a0) 0 0, w, ?_, .inl ⟨rfl, _, rfl⟩, Keeps.refl _ _⟩
      simp [Builtin.append_, run_underlying Try.underlying50, sizeOf, typeInfo, hi, Builtin.lenOf, Builtin.firstCells, loadCells, loadCellsFrom, storeCells]
    | cons y t =>
      have hnews : ∀ j u, ((y :: t).flatMap enc)[j]? = some u → w.cell? ((⟨b, o, none⟩ : Addr).add j) = some u := by
        intro j u hu
        obtain ⟨i, x, hx, hh⟩ := flat_back hu
        obtain ⟨h0, h1⟩ := h.cell i x hx
        rw [Addr.add_lit]
        rcases hh with ⟨rfl, rfl⟩ | ⟨rfl, rfl⟩
        · exact h0
        · rw [← Nat.add_assoc]; exact h1
      have hpos : 0 < (y :: t).length := by simp
      have hr := run_append_grow (P := Try.prog) w 50 ty 49 i0 zero Try.underlying50 hi hz0 a0 0 0 [] (by simp) (by simp) ⟨b, o, none⟩ (y :: t).length cap ((y :: t).flatMap enc) (by rw [flat_len, hz1]) hnews (by simp) (by omega)
        (growslice_fits (by omega) (by rw [hz2]; omega))
      refine ⟨_, _, hr, .inr ⟨by simp, ?_⟩, ((Keeps.refl _ _).drew).alloc _⟩
      have hge := grownCap_ge w (0 + (y :: t).length) 0 49
      have hcm := grownCap_le_maxLen w (0 + (y :: t).length) 0 49 (by unfold maxLen; omega)
      have hzs : zero.cells.size = 2 := rfl
      refine ⟨flat_len _, .inr ⟨w.heap.size, grownCap w (0 + (y :: t).length) 0 49, _, by rw [Nat.zero_add], Nat.le_refl _, heap_alloc_new w.drew _, by omega, hcm, ?_, ?_⟩⟩
      · simp only [Array.size_append, List.size_toArray, size_zeroCells, hzs, flat_len, List.length_nil]
        omega
      · simp only [Array.toList_append, List.nil_append]
        rw [← flat_len]
        exact List.take_left

theorem run_snoc {B : Nat} {w : World} {v : Value} {L : List Pr} (hv : Fresh B w v L) (hL : L.length ≤ 300) (x : Pr) (ad : Addr) (c : Nat) (h0 : w.cell? (ad.add 0) = some (.int .i64 x.n)) (h1 : w.cell? (ad.add 1) = some (.string x.s)) (hB : B ≤ w.heap.size) (ty : TypeId) :
    ∃ v' w', (Builtin.append_ #[50, 50] ty #[v, .slice (some ad) 1 c]).run Try.prog w = .ok v' w' ∧ w'.ownsRow B 49 2 v' (L ++ [x]).length ((L ++ [x]).flatMap enc) ∧ (∀ W, W.heap.size ≤ B → Keeps [] W w → Keeps [] W w') := by
  obtain ⟨i0, hi, hz0, hz1, hz2⟩ := info49
  have hnews : ∀ j u, (enc x)[j]? = some u → w.cell? (ad.add j) = some u := by
    intro j u hu
    match j, hu with
    | 0, hu => obtain rfl : Value.int .i64 x.n = u := by simpa [enc] using hu
               exact h0
    | 1, hu => obtain rfl : Value.string x.s = u := by simpa [enc] using hu
               exact h1
  rcases hv with ⟨rfl, a0, rfl⟩ | ⟨_, hown⟩
  · have hr := run_append_grow (P := Try.prog) w 50 ty 49 i0 zero Try.underlying50 hi hz0 a0 0 0 [] (by simp) (by simp) ad 1 c (enc x) (by rw [hz1]; rfl) hnews (by simp) (by omega)
      (growslice_fits (by omega) (by rw [hz2]; omega))
    refine ⟨_, _, hr, ?_, fun W _ hk => (hk.drew).alloc _⟩
    have hge := grownCap_ge w (0 + 1) 0 49
    have hcm := grownCap_le_maxLen w (0 + 1) 0 49 (by unfold maxLen; omega)
    have hzs : zero.cells.size = 2 := rfl
    refine ⟨flat_len _, .inr ⟨w.heap.size, grownCap w (0 + 1) 0 49, _, rfl, hB, heap_alloc_new w.drew _, by simpa using hge, hcm, ?_, ?_⟩⟩
    · simp only [Array.size_append, List.size_toArray, size_zeroCells, hzs, List.length_nil, enc_len]
      omega
    · simp [enc]
  · obtain ⟨v', w', hr, h2, h3, h4, h5⟩ := run_append_own_at (P := Try.prog) w B 50 ty 49 i0 zero 2 24 Try.underlying50 hi hz0 hz1 hz2 rfl (by omega) v L.length _ hown ad 1 c (enc x) rfl hnews (by simp [enc, Value.oneCell']) (by unfold maxLen; omega) (by omega) hB
    refine ⟨v', w', hr, ?_, fun W hW hk => ?_⟩
    · rw [List.flatMap_append, List.length_append]
      simpa using h2
    · exact ⟨h3.os.trans hk.os, h3.tape.trans hk.tape, h3.output.trans hk.output, Nat.le_trans hk.size h3.size, fun j hj _ => (h3.block j (Nat.lt_of_lt_of_le hj hk.size) (fun e => by have := (hown.lt j e.symm).1; omega)).trans (hk.block j hj (by simp))⟩

theorem Sees.of_own {S : List Nat} {B : Nat} {w : World} {v : Value} {L : List Pr} (h : w.ownsRow B 49 2 v L.length (L.flatMap enc)) (hS : ∀ x ∈ S, x < B) : Sees S w v L := by
  rcases h.2 with ⟨rfl, h0⟩ | ⟨g, cap, cur, rfl, hb, hg, hn, _, _, htk⟩
  · obtain rfl := List.eq_nil_of_length_eq_zero h0
    exact .nil _ _
  · refine .cons g 0 cap L hn ⟨fun hm => by have := hS g hm; omega, fun i x hx => ?_⟩
    have hc := h.cells (g := g) rfl
    obtain ⟨e0, e1⟩ := RPair.flat_get L i x hx
    have k0 := hc _ _ e0
    have k1 := hc _ _ e1
    rw [Addr.add_lit] at k0 k1
    exact ⟨k0, by rw [Nat.add_assoc]; exact k1⟩
theorem Fresh.alloc {B : Nat} {w : World} {v : Value} {L : List Pr} (h : Fresh B w v L) (o : Obj) : Fresh B (w.alloc o) v L := by
  rcases h with h | ⟨h1, h2⟩
  · exact .inl h
  · exact .inr ⟨h1, h2.alloc o⟩
theorem Fresh.mono {B B' : Nat} {w : World} {v : Value} {L : List Pr} (h : Fresh B w v L) (hb : B' ≤ B) : Fresh B' w v L := by
  rcases h with h | ⟨h1, h2⟩
  · exact .inl h
  · refine .inr ⟨h1, h2.1, ?_⟩
    rcases h2.2 with h3 | ⟨g, cap, cur, e1, e2, e3⟩
    · exact .inl h3
    · exact .inr ⟨g, cap, cur, e1, Nat.le_trans hb e2, e3⟩
end Go.Proofs.Ytoncobhjdplamaa
