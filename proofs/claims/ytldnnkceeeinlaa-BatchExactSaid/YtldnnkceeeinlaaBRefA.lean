/- One more item behind a row of items, wherever the row lies. No condition but the row's own. -/
import Derived.Test.YtldnnkceeeinlaaBRefT
import Derived.Test.YtldnnkceeeinlaaWWords
namespace Go.Proofs.Ytldnnkceeeinlaa
open Go.RowKit Go.Proofs.YtldnnkceeeinlaaW.PrintWords

theorem itL_one (x : It) : ∀ u ∈ itL x, u.oneCell' = true := by
  intro u hu
  rcases List.mem_append.1 hu with h | h
  · exact evs_one x.e u h
  · obtain ⟨y, _, rfl⟩ := List.mem_map.1 h
    rfl
theorem r_append {B : Nat} {W : World} {v : Value} {m : List It} (h : RowL B W v m) (h8 : ∀ x ∈ m, x.u.length = 8) (hm : m.length ≤ 64) (hB : B ≤ W.heap.size) {x : It} (hx : x.u.length = 8) (ad : Addr) (hnews : ∀ j u, (itL x)[j]? = some u → W.cell? (ad.add j) = some u) :
    ∃ v' w', (Builtin.append_ #[53, 53] 53 #[v, .slice (some ad) 1 1]).run Try.prog W = .ok v' w' ∧ RowL B w' v' (m ++ [x]) ∧ RK B W w' ∧ (∀ (i : Nat) (o : Obj), W.heap[i]? = some o → (∀ cur, o ≠ .cells cur 85 (0, 0)) → w'.heap[i]? = some o) := by
  obtain ⟨i0, hi0, hz0, hz1, hz2⟩ := info85
  have hl : (itL x).length = 1 * i0.size := by rw [itL_len hx, hz1]
  have h8' : ∀ y ∈ m ++ [x], y.u.length = 8 := fun y hy => by
    rcases List.mem_append.1 hy with h1 | h1
    · exact h8 y h1
    · obtain rfl : y = x := by simpa using h1
      exact hx
  rcases h with ⟨rfl, rfl⟩ | ⟨g, o, cap, rfl, hgB, hcap, hrow⟩
  · obtain ⟨v', w', hr, h2, h3, h4, h5⟩ := run_append_own_at (P := Try.prog) W W.heap.size 53 53 85 i0 it00 14 112 Try.underlying53 hi0 hz0 hz1 hz2 rfl (by omega) (.slice none 0 0) 0 [] (World.ownsRow_nil _ _ _ _) ad 1 1 (itL x) (by rw [itL_len hx]) hnews (itL_one x) (by unfold maxLen; omega) (by omega) (Nat.le_refl _)
    have hg : ∀ i, i < W.heap.size → w'.heap[i]? = W.heap[i]? := fun i hi => h3.block i hi (by simp [Value.ownBlock])
    refine ⟨v', w', hr, ?_, ⟨h3.os, h3.tape, h3.output, h3.size, fun i ob ho _ => by rw [hg i (lt_of_block ho)]; exact ho⟩, fun i ob ho _ => by rw [hg i (lt_of_block ho)]; exact ho⟩
    have hown : w'.ownsRow W.heap.size 85 14 v' ([x]).length (([x]).flatMap itL) := by simpa using h2
    rcases RowL.of_own hown (fun y hy => by obtain rfl : y = x := by simpa using hy
                                            exact hx) with hh | ⟨g', o', c', e1, e2, e3⟩
    · exact .inl hh
    · exact .inr ⟨g', o', c', e1, by omega, e3⟩
  · obtain ⟨cur, hcur, hle, hsz, hcells⟩ := hrow.ex
    have holds : ∀ j u, (m.flatMap itL)[j]? = some u → W.cell? ((⟨g, o, none⟩ : Addr).add j) = some u := by
      intro j u hj
      have hjl : j < m.length * 14 := by
        have h1 := (List.getElem?_eq_some_iff.1 hj).1
        have h2 : (m.flatMap itL).length = m.length * 14 := by
          clear hj hcells hle hcur hsz h1 hm h8' hrow
          induction m with
          | nil => rfl
          | cons y t ih => rw [List.flatMap_cons, List.length_append, ih (fun z hz => h8 z (List.mem_cons_of_mem _ hz)), itL_len (h8 y (by simp)), List.length_cons]; omega
        omega
      obtain ⟨y, hy⟩ : ∃ y, m[j / 14]? = some y := ⟨_, List.getElem?_eq_getElem (by omega)⟩
      have h1 := flat14_get m h8 (j / 14) y (j % 14) hy (Nat.mod_lt _ (by omega))
      rw [show j / 14 * 14 + j % 14 = j by omega, hj] at h1
      rw [Addr.add_lit]
      have h2 := (cell_at hcur (hcells (j / 14) y hy (j % 14) u h1.symm)).1
      rwa [show o + j / 14 * 14 + j % 14 = o + j by omega] at h2
    have hfl : (m.flatMap itL).length = m.length * 14 := by
      clear holds hcells hle hcur hsz hm h8' hrow
      induction m with
      | nil => rfl
      | cons y t ih => rw [List.flatMap_cons, List.length_append, ih (fun z hz => h8 z (List.mem_cons_of_mem _ hz)), itL_len (h8 y (by simp)), List.length_cons]; omega
    by_cases hroom : m.length + 1 ≤ cap
    · have hfit : o + m.length * 14 + 14 ≤ cur.size := by
        have : (m.length + 1) * 14 ≤ cap * 14 := Nat.mul_le_mul_right _ hroom
        omega
      have hin : ∀ j, j < (itL x).length → (W.cell? ⟨g, o + m.length * i0.size + j, none⟩).isSome = true ∧ W.frozen? ⟨g, o + m.length * i0.size + j, none⟩ = false := fun j hj => by
        rw [itL_len hx] at hj
        rw [hz1]
        have h1 := cell_at hcur (Array.getElem?_eq_getElem (show o + m.length * 14 + j < cur.size by omega))
        exact ⟨by rw [h1.1]; rfl, h1.2⟩
      have hr := run_append_room_cells (P := Try.prog) W 53 53 85 i0 Try.underlying53 hi0 g o m.length cap ad 1 1 (itL x) hl hnews (itL_one x) hroom (fun j hj => (hin j hj).1) (fun j hj => (hin j hj).2)
      rw [hz1] at hr
      have hcl : cur.toList.length = cur.size := by simp
      obtain ⟨s1, s2, s3, s4⟩ := setCells_same g (itL x) (o + m.length * 14) W
      obtain ⟨cur', c1, c2, c3⟩ := setCells_row (itL x) (o + m.length * 14) W cur hcur (by rw [itL_len hx]; omega)
      refine ⟨_, _, hr, .inr ⟨g, o, cap, by rw [List.length_append]; rfl, hgB, hcap, cur', c1, by rw [List.length_append]; exact hroom, by omega, fun k y hy j u hu => ?_⟩, ⟨s1, s2, s3, by rw [s4]; exact Nat.le_refl _, fun i ob ho hc => ?_⟩, fun i ob ho hne => ?_⟩
      · have hj : j < 14 := by
          have := (List.getElem?_eq_some_iff.1 hu).1
          rwa [itL_len (h8' y (List.mem_of_getElem? hy))] at this
        rw [← Array.getElem?_toList, c3, List.append_assoc]
        by_cases hk : k < m.length
        · rw [List.getElem?_append_left hk] at hy
          have h1 := hcells k y hy j u hu
          have hkm : k * 14 + 14 ≤ m.length * 14 := by have : k + 1 ≤ m.length := hk
                                                       omega
          rw [List.getElem?_append_left (by rw [List.length_take, hcl]; omega), List.getElem?_take, if_pos (by omega), Array.getElem?_toList]
          exact h1
        · rw [List.getElem?_append_right (by omega)] at hy
          have hk0 : k - m.length = 0 := by
            have := (List.getElem?_eq_some_iff.1 hy).1
            simpa using this
          rw [hk0] at hy
          obtain rfl : x = y := by simpa using hy
          obtain rfl : k = m.length := by omega
          rw [List.getElem?_append_right (by rw [List.length_take, hcl]; omega), List.length_take, hcl, Nat.min_eq_left (by omega), List.getElem?_append_left (by rw [itL_len hx]; omega),
            show o + m.length * 14 + j - (o + m.length * 14) = j by omega]
          exact hu
      · rw [setCells_far _ _ i (fun e => by
          subst e
          rw [hcur] at ho
          obtain rfl := Option.some.inj ho
          rcases hc with hc | hc
          · omega
          · simp [far] at hc)]
        exact ho
      · rw [setCells_far _ _ i (fun e => by
          subst e
          rw [hcur] at ho
          exact hne cur (Option.some.inj ho).symm)]
        exact ho
    · obtain ⟨v', w', hr, h2, h3⟩ := run_append_arg_grows (P := Try.prog) W 53 53 85 i0 it00 14 112 Try.underlying53 hi0 hz0 hz1 hz2 rfl (by omega) ⟨g, o, none⟩ m.length cap (m.flatMap itL) hfl holds ad 1 1 (itL x) (by rw [itL_len hx]) hnews (by omega) (by unfold maxLen; omega) (by omega)
      have hg : ∀ i, i < W.heap.size → w'.heap[i]? = W.heap[i]? := fun i hi => h3.block i hi (by simp)
      refine ⟨v', w', hr, ?_, ⟨h3.os, h3.tape, h3.output, h3.size, fun i ob ho _ => by rw [hg i (lt_of_block ho)]; exact ho⟩, fun i ob ho _ => by rw [hg i (lt_of_block ho)]; exact ho⟩
      have hown : w'.ownsRow W.heap.size 85 14 v' (m ++ [x]).length ((m ++ [x]).flatMap itL) := by
        rw [List.length_append, List.flatMap_append]
        simpa using h2
      rcases RowL.of_own hown h8' with hh | ⟨g', o', c', e1, e2, e3⟩
      · exact .inl hh
      · exact .inr ⟨g', o', c', e1, by omega, e3⟩
end Go.Proofs.Ytldnnkceeeinlaa
