/- slices.Insert of one entry into a row of entries: some row, one longer. No condition but the rows'. -/
import Derived.Test.YtkhalpnonijogaaGreatX23
import Derived.Lib.Overlaps
import Derived.Lib.AppendZeros
import Derived.Laws.IdiomCopy
import Derived.Deep.RegionLaw
import Derived.RegionTactic
import Derived.ChangeAlike
namespace Go.Proofs.YtkhalpnonijogaaGreat
open Go.RowKit

theorem info323 : ∃ i0, Tryz.prog.info? 323 = some i0 ∧ i0.zero = some (.agg #[.int .i64 0, .int .i64 0, .int .i64 0, .int .i64 0, .int .i64 0, .int .i64 0, .int .i64 0]) ∧ i0.size = 7 ∧ i0.bytes = 56 := by
  have hm : (Tryz.prog.info? 323).map (fun i => (i.zero, i.size, i.bytes)) = some (some (.agg #[.int .i64 0, .int .i64 0, .int .i64 0, .int .i64 0, .int .i64 0, .int .i64 0, .int .i64 0]), 7, 56) := by kernel_rfl
  obtain ⟨i0, h1, h2, h3, h4⟩ := info_parts hm
  exact ⟨i0, h1, h2, h3, h4⟩
/-- Ints in a block's cells from its head on: an own row. -/
theorem own_ints {w : World} {G cap n : Nat} {cur : Array Value} (hg : w.heap[G]? = some (.cells cur 323 (0, 0))) (hs : cur.size = cap * 7) (hn : n ≤ cap) (hc : cap ≤ maxLen) (h : ∀ k, k < n * 7 → ∃ e : Int, cur[k]? = some (.int .i64 e)) :
    ∃ L, w.ownsRow 0 323 7 (.slice (some ⟨G, 0, none⟩) n cap) n (ints L) := by
  have hle : n * 7 ≤ cap * 7 := Nat.mul_le_mul_right _ hn
  let f : Nat → Int := fun k => match cur[k]? with | some (.int _ e) => e | _ => 0
  have hf : ∀ k, k < n * 7 → cur[k]? = some (.int .i64 (f k)) := fun k hk => by
    obtain ⟨e, he⟩ := h k hk
    have : f k = e := by simp only [f, he]
    rw [this, he]
  refine ⟨(List.range (n * 7)).map f, by simp [ints], .inr ⟨G, cap, cur, rfl, Nat.zero_le _, hg, hn, hc, hs, ?_⟩⟩
  apply List.ext_getElem?
  intro k
  by_cases hk : k < n * 7
  · rw [List.getElem?_take, if_pos hk, Array.getElem?_toList, hf k hk]
    simp [ints, hk]
  · rw [List.getElem?_take, if_neg hk, eq_comm, List.getElem?_eq_none]
    simp [ints]
    omega
theorem run_copy_sz {P : Program} (w : World) (dT sT ty elem : TypeId) (b o dLen dCap : Nat) (a : Addr) (sLen sCap sz : Nat) (cs : List Value)
    (hu : P.underlying dT = some (.slice elem)) (hs : (P.info? elem).map (·.size) = some sz) (hn : cs.length = Nat.min sLen dLen * sz)
    (hsrc : ∀ j v, cs[j]? = some v → w.cell? (a.add j) = some v) (hc : ∀ j, j < cs.length → (w.cell? ⟨b, o + j, none⟩).isSome = true) (hf : ∀ j, j < cs.length → w.frozen? ⟨b, o + j, none⟩ = false) (h1 : ∀ v ∈ cs, v.oneCell' = true) :
    (Builtin.copy_ #[dT, sT] ty #[.slice (some ⟨b, o, none⟩) dLen dCap, .slice (some a) sLen sCap]).run P w = .ok (goInt (Nat.min sLen dLen)) (w.setCells b o cs) := by
  have hl := run_loadCells_list (P := P) w a cs hsrc
  have hst := run_storeCells_cells (P := P) b o cs 0 w (by simpa using hc) (by simpa using hf) h1
  cases hq : P.info? elem with
  | none => simp [hq] at hs
  | some i =>
    have hi : i.size = sz := by simpa [hq] using hs
    simp [Builtin.copy_, run_underlying hu, Builtin.lenOf, Builtin.firstCells, sizeOf, typeInfo, hq, hi, ← hn, hl, hst]
theorem wpList_copy_run {P : Program} {ops : Array Oper} {rest : List Oper} {a : Go.Act} {w w' : World} {Q : Exit → Go.Act → World → Prop} {d : Option Tmp} {x y : Operand} {T : Array TypeId} {ty : TypeId} {pos : String} {af : Array Edge} {v s v' : Value}
    (h1 : a.eval x = v) (h2 : a.eval y = s) (hr : (Builtin.copy_ T ty #[v, s]).run P w = .ok v' w') (h : wpList P ops Q rest (a.put d v') w') :
    wpList P ops Q ({ dst := d, op := Op.call { callee := Callee.builtin Builtin.copy, args := #[x, y], argTypes := T }, type := ty, pos := pos, after := af, guard := none } :: rest) a w :=
  wpList_plain rfl fun _ hK => by
    unfold Oper.wp execOp
    simp only [resolve, invoke, builtin, Sem.run_bind, Sem.run_pure, Result.andThen_ok, List.map_toArray, List.map_cons, List.map_nil, h1, h2, hr]
    exact hK _ _ h
theorem step_copy_run {P : Program} {ops : Array Oper} {o : Oper} {a : Act} {w : World} {K : Act → World → Prop} {Q : Exit → Act → World → Prop} {E : Prop}
    (hg : o.guard = none) (d x : Operand) (dT sT : TypeId) (hop : o.op = Op.call { callee := Callee.builtin Builtin.copy, args := #[d, x], argTypes := #[dT, sT] })
    (v u : Value) (hd : a.eval d = v) (hx : a.eval x = u) {v' : Value} {w' : World} (hr : (Builtin.copy_ #[dT, sT] o.type #[v, u]).run P w = .ok v' w') (hK : K (a.put o.dst v') w') :
    if Region.wanted o (yielded ops a.tmps) = true then Oper.wp P o a w K Q else E := by
  have hw : Region.wanted o (yielded ops a.tmps) = true := by simp [Region.wanted, hg]
  rw [if_pos hw]
  unfold Oper.wp
  simp [execOp, hop, resolve, invoke, builtin, hd, hx, hr, Result.andThen]
  exact hK
theorem own_cells {g c m : Nat} {L : List Int} {w : World} (ho : w.ownsRow 0 323 7 (.slice (some ⟨g, 0, none⟩) m c) m (ints L)) : ∃ cur : Array Value, w.heap[g]? = some (.cells cur 323 (0, 0)) ∧ cur.size = c * 7 ∧ ∀ k, k < m * 7 → ∃ e : Int, cur[k]? = some (.int .i64 e) := by
  rcases ho.2 with ⟨h, _⟩ | ⟨g', c', cur, h, _, hg, h4, h5, h6, h7⟩
  · simp at h
  · simp only [Value.slice.injEq, Option.some.injEq, Addr.mk.injEq, and_true, true_and] at h
    obtain ⟨rfl, rfl⟩ := h
    refine ⟨cur, hg, h6, fun k hk => ?_⟩
    have hl : L.length = m * 7 := by have := ho.1; simpa [ints] using this
    have := congrArg (·[k]?) h7
    simp only [List.getElem?_take, if_pos hk, Array.getElem?_toList] at this
    exact ⟨L[k]'(by omega), by rw [this]; simp only [ints, List.getElem?_map, List.getElem?_eq_getElem (show k < L.length by omega), Option.map_some]⟩
theorem run_append_grow_zeros {P : Program} (w : World) (t tn ty e : TypeId) (i : TypeInfo) (z : Value) (k kn : IntKind) (ht : P.underlying t = some (.slice e)) (htn : P.underlying tn = some (.int kn)) (hi : P.info? e = some i) (hz : i.zero = some z)
    (base : Option Addr) (sLen sCap : Nat) (olds : List Value) (hold : (Builtin.firstCells i.size sLen (.slice base sLen sCap)).run P w.drew = .ok olds.toArray w.drew)
    (n : Nat) (y : Int) (hy : y = n) (h0 : 0 < n) (hg : sCap < sLen + n) (hs : 0 < i.size) (h63 : ((sLen + n : Nat) : Int) ≤ 9223372036854775807) (h48 : n * i.bytes ≤ 281474976710656) (hfit : Builtin.nextslicecap (sLen + n) sCap * i.bytes ≤ 281474976710656) :
    (Builtin.append_ #[t, tn] ty #[.slice base sLen sCap, .int k y]).run P w =
      .ok (.slice (some ⟨w.heap.size, 0, none⟩) (sLen + n) (grownCap w (sLen + n) sCap e)) (w.drew.alloc (.cells (olds.toArray ++ Builtin.zeroCells z.cells n ++ Builtin.zeroCells z.cells (grownCap w (sLen + n) sCap e - (sLen + n))) e)) := by
  subst hy
  have hn : ¬ (sLen + n ≤ sCap) := by omega
  have hw : IntKind.i64.wrap (n : Int) = n := by rw [IntKind.wrap_i64]; omega
  have h63' : ¬ (9223372036854775807 < ((sLen : Int) + (n : Int))) := by omega
  have h48' : ¬ (281474976710656 < Builtin.nextslicecap (sLen + n) sCap * i.bytes) := by omega
  have h48i : ¬ (281474976710656 < (n : Int) * (i.bytes : Int)) := by
    rw [← Int.natCast_mul]
    omega
  have hneg : ¬ ((n : Int) < 0) := by omega
  have hn0 : n ≠ 0 := by omega
  have hns : ¬ (n * i.size = 0) := Nat.mul_ne_zero hn0 (by omega)
  simp [Builtin.append_, run_underlying ht, run_underlying htn, sizeOf, typeInfo, zeroValue, hi, hz, asInt, asIntOf, hw, hn, hneg, hns, h63', h48', h48i, Question.forced, hold, newRow, grownCap]
/-- A row one longer. -/
def InsF (rows : Value) (m : Nat) (w : World) (e : Ending) (w' : World) : Prop := ∃ (v' : Value) (L' : List Int), e = .returned v' ∧ w'.ownsRow 0 323 7 v' (m + 1) (ints L') ∧ Keeps rows.ownBlock.toList w w' ∧ (v'.ownBlock = rows.ownBlock ∨ ∃ G, v'.ownBlock = some G ∧ w.heap.size ≤ G)

set_option maxHeartbeats 1600000 in
set_option maxRecDepth 100000 in
/-- At the end. -/
theorem ins_end {m x : Nat} {rows : Value} {L : List Int} {a0 a1 a2 a3 a4 a5 a6 : Int} {w : World} (ho : w.ownsRow 0 323 7 rows m (ints L)) (hx : w.heap[x]? = some (.cells #[.int .i64 a0, .int .i64 a1, .int .i64 a2, .int .i64 a3, .int .i64 a4, .int .i64 a5, .int .i64 a6] 323 (0, 0))) (hm : m ≤ 1000) :
    Calls Tryz.prog 213 #[rows, .int .i64 m, .slice (some ⟨x, 0, none⟩) 1 1] w (InsF rows m w) := by
  obtain ⟨i0, hi, hz0, hz1, hz2⟩ := info323
  obtain ⟨v', w', e1, e2, e3, _, e5⟩ := run_append_own_at (P := Tryz.prog) w 0 206 206 323 i0 _ 7 56 Tryz.underlying206 hi hz0 hz1 hz2 rfl (by omega) rows m _ ho ⟨x, 0, none⟩ 1 1 (ints [a0, a1, a2, a3, a4, a5, a6]) rfl
    (fun j y hj => by
      rw [Addr.add_lit, cell_of_row w x _ _ 323 (0, 0) hx]
      simpa [ints] using hj) (fun y hy => by
      obtain ⟨_, _, rfl⟩ := List.mem_map.1 hy
      rfl) (by unfold maxLen; omega) (by omega) (Nat.zero_le _)
  have HE : Hid (InsF rows m w (.returned v') w') := Go.Lib.hid ⟨v', L ++ [a0, a1, a2, a3, a4, a5, a6], rfl, by rw [ints, List.map_append]; exact e2, keeps_of_grown e3, e5.imp id fun h => ⟨_, h, Nat.le_refl _⟩⟩
  have HR := Go.Lib.hid e1
  obtain ⟨A, c, rfl⟩ := own_form ho
  clear e1 e2 e3 e5 ho hx hi hz0 hz1 hz2
  by_cases hc : c = m
  all_goals
    go_enter Tryz.func213, Tryz.ntmps213
    go_wp2_with (at_builtin; refine wpList_append_run (by rfl) (by rfl) HR.out ?_)
    go_ret
    exact HE.out
set_option maxHeartbeats 3200000 in
set_option maxRecDepth 100000 in
/-- In the middle, room. -/
theorem ins_room {m x i g c : Nat} {L : List Int} {a0 a1 a2 a3 a4 a5 a6 : Int} {w : World} (ho : w.ownsRow 0 323 7 (.slice (some ⟨g, 0, none⟩) m c) m (ints L)) (hx : w.heap[x]? = some (.cells #[.int .i64 a0, .int .i64 a1, .int .i64 a2, .int .i64 a3, .int .i64 a4, .int .i64 a5, .int .i64 a6] 323 (0, 0))) (hxg : x ≠ g) (hm : m ≤ 1000) (hi : i < m) (hc : m + 1 ≤ c) :
    Calls Tryz.prog 213 #[.slice (some ⟨g, 0, none⟩) m c, .int .i64 i, .slice (some ⟨x, 0, none⟩) 1 1] w (InsF (.slice (some ⟨g, 0, none⟩) m c) m w) := by
  have hcm : c ≤ maxLen := by
    rcases ho.2 with ⟨h, _⟩ | ⟨g', c', cur, h, _, _, _, h5, _⟩
    · simp at h
    · simp only [Value.slice.injEq] at h
      rw [h.2.2]; exact h5
  unfold maxLen at hcm
  have n1 : ¬ c = i := by omega
  have n2 : ¬ c = i + 1 := by omega
  have n3 : ((i : Int) == m) = false := by simp; omega
  have n4 : decide ((c : Int) < (m : Int) + 1) = false := decide_eq_false (by omega)
  have n5 : decide (c < m + 1) = false := decide_eq_false (by omega)
  have n6 : ¬ (i : Int) = m := by omega
  obtain ⟨cur, hg, hcs, hci⟩ := own_cells ho
  have hsz : (Tryz.prog.info? 323).map (·.size) = some 7 := by kernel_rfl
  have hz7 : ∀ w, (Go.sizeOf 323).run Tryz.prog w = .ok 7 w := fun w => by kernel_rfl
  have hf266 : Tryz.prog.funcs[266]? = some Tryz.f266 := by kernel_rfl
  have hov : ∀ lb cb, (callFunc 266 #[.slice (some ⟨x, 0, none⟩) 1 1, .slice (some ⟨g, (i + 1) * 7, none⟩) lb cb]).run Tryz.prog w = .ok (.value (.bool false)) w := fun lb cb => by
    rw [run_callFunc_extern hf266 (by kernel_rfl) (by kernel_rfl) (by kernel_rfl) (e := Extern.SlicesOverlaps.overlaps #[206, 206] #[4]) (by kernel_rfl),
      Lib.run_overlaps_apart w 206 4 323 Tryz.underlying206 7 hz7 ⟨x, 0, none⟩ ⟨g, (i + 1) * 7, none⟩ 1 1 lb cb hxg 323 323 7 cur.size (by simp [World.shape?, hx]) (by simp [World.shape?, hg]) (by omega) (by simp [World.frozen?, hx]) (by simp [World.frozen?, hx])]
    rfl
  obtain ⟨D, hD⟩ : ∃ D, D = (cur.toList.drop (i * 7)).take ((m - i) * 7) := ⟨_, rfl⟩
  have hDl : D.length = (m - i) * 7 := by
    rw [hD, List.length_take, List.length_drop, Array.length_toList, hcs]
    omega
  have hDg : ∀ j, j < (m - i) * 7 → D[j]? = cur[i * 7 + j]? := fun j hj => by
    rw [hD, List.getElem?_take, if_pos hj, List.getElem?_drop, Array.getElem?_toList]
  have hDi : ∀ v ∈ D, v.oneCell' = true := fun v hv => by
    obtain ⟨j, hj⟩ := List.getElem?_of_mem hv
    have hjl : j < (m - i) * 7 := by rw [← hDl]; exact (List.getElem?_eq_some_iff.1 hj).1
    obtain ⟨e, he⟩ := hci (i * 7 + j) (by omega)
    rw [hDg j hjl, he] at hj
    obtain rfl := Option.some.inj hj
    rfl
  have hmin : Nat.min (m + 1 - i) (m - i) = m - i := by simp only [Nat.min_def]; split <;> omega
  have hcp1 : ∀ ty dc sc, (Builtin.copy_ #[206, 206] ty #[.slice (some ⟨g, (i + 1) * 7, none⟩) (m - i) dc, .slice (some ⟨g, i * 7, none⟩) (m + 1 - i) sc]).run Tryz.prog w.drew = .ok (goInt (Nat.min (m + 1 - i) (m - i))) (w.drew.setCells g ((i + 1) * 7) D) := fun ty dc sc =>
    run_copy_sz w.drew 206 206 ty 323 g ((i + 1) * 7) (m - i) dc ⟨g, i * 7, none⟩ (m + 1 - i) sc 7 D Tryz.underlying206 hsz (by rw [hmin, hDl])
      (fun j v hj => by
        rw [Addr.add_lit]
        have hjl : j < (m - i) * 7 := by rw [← hDl]; exact (List.getElem?_eq_some_iff.1 hj).1
        rw [hDg j hjl] at hj
        exact (cell_of_row w g (i * 7 + j) cur 323 (0, 0) hg).trans hj)
      (fun j hj => by
        rw [hDl] at hj
        have := cell_of_row w g ((i + 1) * 7 + j) cur 323 (0, 0) hg
        show (w.cell? _).isSome = true
        rw [this, Array.getElem?_eq_getElem (by rw [hcs]; omega)]
        rfl)
      (fun j _ => frozen_of_row w g _ cur 323 hg) hDi
  rw [hmin] at hcp1
  obtain ⟨cur1, g1, s1, in1, out1⟩ := heap_setCells (b := g) (t := 323) (fr := (0, 0)) D ((i + 1) * 7) w.drew cur hg (by rw [hDl, hcs]; omega)
  have hk1 : Keeps [g] w (w.drew.setCells g ((i + 1) * 7) D) := keeps_setCells (.inl (by simp)) _ _ _ ((Keeps.refl _ _).drew)
  obtain ⟨W1, hW1⟩ : ∃ W1, W1 = w.drew.setCells g ((i + 1) * 7) D := ⟨_, rfl⟩
  rw [← hW1] at hcp1 g1 hk1
  have hx1 := hk1.heap hx (by simpa using hxg)
  have hcp2 : ∀ ty dc, (Builtin.copy_ #[206, 206] ty #[.slice (some ⟨g, i * 7, none⟩) (m + 1 - i) dc, .slice (some ⟨x, 0, none⟩) 1 1]).run Tryz.prog W1 = .ok (goInt (Nat.min 1 (m + 1 - i))) (W1.setCells g (i * 7) (ints [a0, a1, a2, a3, a4, a5, a6])) := fun ty dc =>
    run_copy_sz W1 206 206 ty 323 g (i * 7) (m + 1 - i) dc ⟨x, 0, none⟩ 1 1 7 (ints [a0, a1, a2, a3, a4, a5, a6]) Tryz.underlying206 hsz (by
      have : Nat.min 1 (m + 1 - i) = 1 := by simp only [Nat.min_def]; split <;> omega
      rw [this]; rfl)
      (fun j v hj => by
        rw [Addr.add_lit, cell_of_row W1 x _ _ 323 (0, 0) hx1]
        simpa [ints] using hj)
      (fun j hj => by
        have hj7 : j < 7 := by simpa [ints] using hj
        rw [cell_of_row W1 g _ cur1 323 (0, 0) g1, Array.getElem?_eq_getElem (by rw [s1, hcs]; omega)]
        rfl)
      (fun j _ => frozen_of_row W1 g _ cur1 323 g1) (fun v hv => by
        obtain ⟨_, _, rfl⟩ := List.mem_map.1 hv
        rfl)
  obtain ⟨cur2, g2, s2, in2, out2⟩ := heap_setCells (b := g) (t := 323) (fr := (0, 0)) (ints [a0, a1, a2, a3, a4, a5, a6]) (i * 7) W1 cur1 g1 (by rw [s1, hcs]; simp [ints]; omega)
  have hk2 : Keeps [g] w (W1.setCells g (i * 7) (ints [a0, a1, a2, a3, a4, a5, a6])) := keeps_setCells (.inl (by simp)) _ _ _ hk1
  obtain ⟨L', hL'⟩ := own_ints (n := m + 1) g2 (by rw [s2, s1, hcs]) hc (by unfold maxLen; omega) (fun k hk => by
    by_cases h1 : k < i * 7
    · obtain ⟨e, he⟩ := hci k (by omega)
      exact ⟨e, by rw [out2 k (.inl h1), out1 k (.inl (by omega)), he]⟩
    · by_cases h2 : k < i * 7 + 7
      · obtain ⟨e, he⟩ : ∃ e : Int, (ints [a0, a1, a2, a3, a4, a5, a6])[k - i * 7]? = some (.int .i64 e) := by
          have : k - i * 7 < [a0, a1, a2, a3, a4, a5, a6].length := by simp; omega
          exact ⟨[a0, a1, a2, a3, a4, a5, a6][k - i * 7], by simp only [ints, List.getElem?_map, List.getElem?_eq_getElem this, Option.map_some]⟩
        have := in2 _ _ he
        rw [show i * 7 + (k - i * 7) = k by omega] at this
        exact ⟨e, this⟩
      · obtain ⟨e, he⟩ := hci (k - 7) (by omega)
        have hj : k - 7 - i * 7 < (m - i) * 7 := by omega
        have hd := hDg _ hj
        rw [show i * 7 + (k - 7 - i * 7) = k - 7 by omega, he] at hd
        have := in1 _ _ hd
        rw [show (i + 1) * 7 + (k - 7 - i * 7) = k by omega] at this
        exact ⟨e, by rw [out2 k (.inr (by simp [ints]; omega)), this]⟩)
  have HE : Hid (InsF (.slice (some ⟨g, 0, none⟩) m c) m w (.returned (.slice (some ⟨g, 0, none⟩) (m + 1) c)) (W1.setCells g (i * 7) (ints [a0, a1, a2, a3, a4, a5, a6]))) := Go.Lib.hid ⟨_, L', rfl, hL', hk2, .inl rfl⟩
  have HC1 := Go.Lib.hid hcp1
  have HC2 := Go.Lib.hid hcp2
  have j0 : (0 : Int) ≤ (i : Int) + 1 := by omega
  have j4 : i ≤ m := by omega
  have j5 : i ≤ m + 1 := by omega
  have j1 : (i : Int) ≤ (m : Int) + 1 := by omega
  have j2 : IntKind.i64.wrap ((i : Int) + 1) = (i : Int) + 1 := by rw [IntKind.wrap_i64]; omega
  have j3 : ((i : Int) + 1).toNat = i + 1 := by omega
  clear ho hx hg hcs hci hD hDl hDg hDi hmin hcp1 g1 s1 in1 out1 hk1 hW1 hx1 hcp2 g2 s2 in2 out2 hk2 hL' hsz hz7 hf266
  go_enter Tryz.func213, Tryz.ntmps213
  go_upto_region 15 with (simp only [hov])
  clear hov
  have hc1 := HC1.out 3 (c - (i + 1)) (c - i)
  go_region
  clear hc1
  have hc2 := HC2.out 3 (c - i)
  go_wp2_with (refine wpList_copy_run (by rfl) (by rfl) hc2 ?_)
  go_ret
  exact HE.out
set_option maxHeartbeats 3200000 in
set_option maxRecDepth 100000 in
/-- In the middle, no room. -/
theorem ins_grow {m x i g c : Nat} {L : List Int} {a0 a1 a2 a3 a4 a5 a6 : Int} {w : World} (ho : w.ownsRow 0 323 7 (.slice (some ⟨g, 0, none⟩) m c) m (ints L)) (hx : w.heap[x]? = some (.cells #[.int .i64 a0, .int .i64 a1, .int .i64 a2, .int .i64 a3, .int .i64 a4, .int .i64 a5, .int .i64 a6] 323 (0, 0))) (hm : m ≤ 1000) (hi : i < m) (hc : c < m + 1) :
    Calls Tryz.prog 213 #[.slice (some ⟨g, 0, none⟩) m c, .int .i64 i, .slice (some ⟨x, 0, none⟩) 1 1] w (InsF (.slice (some ⟨g, 0, none⟩) m c) m w) := by
  obtain rfl : c = m := by
    rcases ho.2 with ⟨h, _⟩ | ⟨g', c', cur, h, _, _, h4, _⟩
    · simp at h
    · simp only [Value.slice.injEq] at h
      omega
  obtain ⟨cur, hg, hcs, hci⟩ := own_cells ho
  have hsz : (Tryz.prog.info? 323).map (·.size) = some 7 := by kernel_rfl
  obtain ⟨i0, hi0, hz0, hz1, hz2⟩ := info323
  obtain ⟨O, hO⟩ : ∃ O, O = cur.toList.take (i * 7) := ⟨_, rfl⟩
  have hOl : O.length = i * 7 := by rw [hO, List.length_take, Array.length_toList, hcs]; omega
  have hOg : ∀ j, j < i * 7 → O[j]? = cur[j]? := fun j hj => by rw [hO, List.getElem?_take, if_pos hj, Array.getElem?_toList]
  have hold : (Builtin.firstCells i0.size i (.slice (some ⟨g, 0, none⟩) i c)).run Tryz.prog w.drew = .ok O.toArray w.drew := by
    rw [hz1]
    exact run_firstCells_some w.drew 7 i ⟨g, 0, none⟩ i c O (by rw [hOl]) (fun j v hj => by
      rw [Addr.add_lit, Nat.zero_add]
      have hjl : j < i * 7 := by rw [← hOl]; exact (List.getElem?_eq_some_iff.1 hj).1
      rw [hOg j hjl] at hj
      exact (cell_of_row w g j cur 323 (0, 0) hg).trans hj)
  have hu3 : Tryz.prog.underlying 3 = some (.int .i64) := by kernel_rfl
  have hap := run_append_grow_zeros (P := Tryz.prog) w 206 3 206 323 i0 _ .i64 .i64 Tryz.underlying206 hu3 hi0 hz0 (some ⟨g, 0, none⟩) i c O hold (c + 1 - i) ((c : Int) + 1 - i) (by omega) (by omega) (by omega) (by rw [hz1]; omega) (by omega) (by rw [hz2]; omega) (by rw [hz2]; exact growslice_fits (by omega) (by omega))
  rw [show i + (c + 1 - i) = c + 1 by omega] at hap
  have hge := grownCap_ge w (c + 1) c 323
  have hle := grownCap_le_maxLen w (c + 1) c 323 (by unfold maxLen; omega)
  obtain ⟨cap, hcap⟩ : ∃ cap, cap = grownCap w (c + 1) c 323 := ⟨_, rfl⟩
  rw [← hcap] at hap hge hle
  obtain ⟨cur1, hcur1⟩ : ∃ cur1, cur1 = O.toArray ++ Builtin.zeroCells (Value.agg #[.int .i64 0, .int .i64 0, .int .i64 0, .int .i64 0, .int .i64 0, .int .i64 0, .int .i64 0]).cells (c + 1 - i) ++ Builtin.zeroCells (Value.agg #[.int .i64 0, .int .i64 0, .int .i64 0, .int .i64 0, .int .i64 0, .int .i64 0, .int .i64 0]).cells (cap - (c + 1)) := ⟨_, rfl⟩
  rw [← hcur1] at hap
  have s1 : cur1.size = cap * 7 := by
    rw [hcur1]
    simp only [Array.size_append, List.size_toArray, size_zeroCells, hOl]
    show i * 7 + (c + 1 - i) * 7 + (cap - (c + 1)) * 7 = cap * 7
    omega
  have o1 : ∀ k, k < i * 7 → cur1[k]? = cur[k]? := fun k hk => by
    rw [hcur1, Array.append_assoc, Array.getElem?_append_left (by simpa [hOl] using hk)]
    simpa using hOg k hk
  obtain ⟨G, hG⟩ : ∃ G, G = w.heap.size := ⟨_, rfl⟩
  obtain ⟨W1, hW1⟩ : ∃ W1, W1 = w.drew.alloc (.cells cur1 323) := ⟨_, rfl⟩
  rw [← hW1, ← hG] at hap
  have g1 : W1.heap[G]? = some (.cells cur1 323 (0, 0)) := by rw [hW1, hG]; exact heap_alloc_new w.drew _
  have hk1 : Keeps [] w W1 := by rw [hW1]; exact ((Keeps.refl _ _).drew).alloc _
  have hx1 := hk1.heap hx (by simp)
  have hg1 := hk1.heap hg (by simp)
  have hgG : g ≠ G := by have := lt_of_block hg; omega
  have hmin1 : Nat.min 1 (c + 1 - i) = 1 := by simp only [Nat.min_def]; split <;> omega
  have hcp1 : ∀ ty dc, (Builtin.copy_ #[206, 206] ty #[.slice (some ⟨G, i * 7, none⟩) (c + 1 - i) dc, .slice (some ⟨x, 0, none⟩) 1 1]).run Tryz.prog W1 = .ok (goInt (Nat.min 1 (c + 1 - i))) (W1.setCells G (i * 7) (ints [a0, a1, a2, a3, a4, a5, a6])) := fun ty dc =>
    run_copy_sz W1 206 206 ty 323 G (i * 7) (c + 1 - i) dc ⟨x, 0, none⟩ 1 1 7 (ints [a0, a1, a2, a3, a4, a5, a6]) Tryz.underlying206 hsz (by rw [hmin1]; rfl)
      (fun j v hj => by
        rw [Addr.add_lit, cell_of_row W1 x _ _ 323 (0, 0) hx1]
        simpa [ints] using hj)
      (fun j hj => by
        have hj7 : j < 7 := by simpa [ints] using hj
        rw [cell_of_row W1 G _ cur1 323 (0, 0) g1, Array.getElem?_eq_getElem (by rw [s1]; omega)]
        rfl)
      (fun j _ => frozen_of_row W1 G _ cur1 323 g1) (fun v hv => by
        obtain ⟨_, _, rfl⟩ := List.mem_map.1 hv
        rfl)
  obtain ⟨cur2, g2, s2, in2, out2⟩ := heap_setCells (b := G) (t := 323) (fr := (0, 0)) (ints [a0, a1, a2, a3, a4, a5, a6]) (i * 7) W1 cur1 g1 (by rw [s1]; simp [ints]; omega)
  have hk2 : Keeps [] w (W1.setCells G (i * 7) (ints [a0, a1, a2, a3, a4, a5, a6])) := keeps_setCells (.inr (by omega)) _ _ _ hk1
  obtain ⟨W2, hW2⟩ : ∃ W2, W2 = W1.setCells G (i * 7) (ints [a0, a1, a2, a3, a4, a5, a6]) := ⟨_, rfl⟩
  rw [← hW2] at hcp1 g2 hk2
  have hg2 := hk2.heap hg (by simp)
  obtain ⟨D, hD⟩ : ∃ D, D = (cur.toList.drop (i * 7)).take ((c - i) * 7) := ⟨_, rfl⟩
  have hDl : D.length = (c - i) * 7 := by
    rw [hD, List.length_take, List.length_drop, Array.length_toList, hcs]
    omega
  have hDg : ∀ j, j < (c - i) * 7 → D[j]? = cur[i * 7 + j]? := fun j hj => by
    rw [hD, List.getElem?_take, if_pos hj, List.getElem?_drop, Array.getElem?_toList]
  have hDi : ∀ v ∈ D, v.oneCell' = true := fun v hv => by
    obtain ⟨j, hj⟩ := List.getElem?_of_mem hv
    have hjl : j < (c - i) * 7 := by rw [← hDl]; exact (List.getElem?_eq_some_iff.1 hj).1
    obtain ⟨e, he⟩ := hci (i * 7 + j) (by omega)
    rw [hDg j hjl, he] at hj
    obtain rfl := Option.some.inj hj
    rfl
  have hmin2 : Nat.min (c - i) (c - i) = c - i := by simp only [Nat.min_def]; split <;> omega
  have hcp2 : ∀ ty dc sc, (Builtin.copy_ #[206, 206] ty #[.slice (some ⟨G, (i + 1) * 7, none⟩) (c - i) dc, .slice (some ⟨g, i * 7, none⟩) (c - i) sc]).run Tryz.prog W2.drew = .ok (goInt (Nat.min (c - i) (c - i))) (W2.drew.setCells G ((i + 1) * 7) D) := fun ty dc sc =>
    run_copy_sz W2.drew 206 206 ty 323 G ((i + 1) * 7) (c - i) dc ⟨g, i * 7, none⟩ (c - i) sc 7 D Tryz.underlying206 hsz (by rw [hmin2, hDl])
      (fun j v hj => by
        rw [Addr.add_lit]
        have hjl : j < (c - i) * 7 := by rw [← hDl]; exact (List.getElem?_eq_some_iff.1 hj).1
        rw [hDg j hjl] at hj
        exact (cell_of_row W2 g (i * 7 + j) cur 323 (0, 0) hg2).trans hj)
      (fun j hj => by
        rw [hDl] at hj
        have := cell_of_row W2 G ((i + 1) * 7 + j) cur2 323 (0, 0) g2
        show (W2.cell? _).isSome = true
        rw [this, Array.getElem?_eq_getElem (by rw [s2, s1]; omega)]
        rfl)
      (fun j _ => frozen_of_row W2 G _ cur2 323 g2) hDi
  obtain ⟨cur3, g3, s3, in3, out3⟩ := heap_setCells (b := G) (t := 323) (fr := (0, 0)) D ((i + 1) * 7) W2.drew cur2 g2 (by rw [hDl, s2, s1]; omega)
  have hk3 : Keeps [] w (W2.drew.setCells G ((i + 1) * 7) D) := keeps_setCells (.inr (by omega)) _ _ _ hk2.drew
  obtain ⟨L', hL'⟩ := own_ints (n := c + 1) g3 (by rw [s3, s2, s1]) hge hle (fun k hk => by
    by_cases h1 : k < i * 7
    · obtain ⟨e, he⟩ := hci k (by omega)
      exact ⟨e, by rw [out3 k (.inl (by omega)), out2 k (.inl h1), o1 k h1, he]⟩
    · by_cases h2 : k < i * 7 + 7
      · obtain ⟨e, he⟩ : ∃ e : Int, (ints [a0, a1, a2, a3, a4, a5, a6])[k - i * 7]? = some (.int .i64 e) := by
          have : k - i * 7 < [a0, a1, a2, a3, a4, a5, a6].length := by simp; omega
          exact ⟨[a0, a1, a2, a3, a4, a5, a6][k - i * 7], by simp only [ints, List.getElem?_map, List.getElem?_eq_getElem this, Option.map_some]⟩
        have := in2 _ _ he
        rw [show i * 7 + (k - i * 7) = k by omega] at this
        exact ⟨e, by rw [out3 k (.inl (by omega)), this]⟩
      · obtain ⟨e, he⟩ := hci (k - 7) (by omega)
        have hj : k - 7 - i * 7 < (c - i) * 7 := by omega
        have hd := hDg _ hj
        rw [show i * 7 + (k - 7 - i * 7) = k - 7 by omega, he] at hd
        have := in3 _ _ hd
        rw [show (i + 1) * 7 + (k - 7 - i * 7) = k by omega] at this
        exact ⟨e, this⟩)
  have HE : Hid (InsF (.slice (some ⟨g, 0, none⟩) c c) c w (.returned (.slice (some ⟨G, 0, none⟩) (c + 1) cap)) (W2.drew.setCells G ((i + 1) * 7) D)) := Go.Lib.hid ⟨_, L', rfl, hL', hk3.mono (by simp), .inr ⟨G, rfl, Nat.le_of_eq hG.symm⟩⟩
  have HA := Go.Lib.hid hap
  have HC1 := Go.Lib.hid hcp1
  have HC2 := Go.Lib.hid hcp2
  have n1 : ¬ c = i := by omega
  have n3 : ((i : Int) == c) = false := by simp; omega
  have n6 : ¬ (i : Int) = c := by omega
  have n7 : ¬ cap = i := by omega
  have n8 : ¬ cap = i + 1 := by omega
  have j0 : (0 : Int) ≤ (i : Int) + 1 := by omega
  have j1 : (i : Int) ≤ (c : Int) + 1 := by omega
  have j4 : i ≤ c := by omega
  have j5 : i ≤ c + 1 := by omega
  have hcapu : cap ≤ 9223372036854775807 := by unfold maxLen at hle; omega
  clear ho hx hg hcs hci hsz hi0 hz0 hz1 hz2 hO hOl hOg hold hu3 hap hle hcap hcur1 s1 o1 hG hW1 g1 hk1 hx1 hg1 hgG hmin1 hcp1 g2 s2 in2 out2 hk2 hW2 hg2 hD hDl hDg hDi hmin2 hcp2 g3 s3 in3 out3 hk3 hL'
  go_enter Tryz.func213, Tryz.ntmps213
  go_upto_region 10 with (at_builtin; refine wpList_append_run (by rfl) (by rfl) HA.out ?_)
  have hc1 := HC1.out 3 (cap - i)
  go_upto_region 11 with (refine wpList_copy_run (by rfl) (by rfl) hc1 ?_)
  clear hc1
  have j2 : IntKind.i64.wrap ((i : Int) + 1) = (i : Int) + 1 := by rw [IntKind.wrap_i64]; omega
  have j3 : ((i : Int) + 1).toNat = i + 1 := by omega
  have hc2 := HC2.out 3 (cap - (i + 1)) (c - i)
  go_region
  go_wp2_with fail
  go_ret
  exact HE.out
theorem insert_ok {m x i : Nat} {rows : Value} {L : List Int} {a0 a1 a2 a3 a4 a5 a6 : Int} {w : World} (ho : w.ownsRow 0 323 7 rows m (ints L)) (hx : w.heap[x]? = some (.cells #[.int .i64 a0, .int .i64 a1, .int .i64 a2, .int .i64 a3, .int .i64 a4, .int .i64 a5, .int .i64 a6] 323 (0, 0))) (hxg : rows.ownBlock ≠ some x) (hm : m ≤ 1000) (hi : i ≤ m) :
    Calls Tryz.prog 213 #[rows, .int .i64 i, .slice (some ⟨x, 0, none⟩) 1 1] w (InsF rows m w) := by
  by_cases him : i = m
  · subst him
    exact ins_end ho hx hm
  · obtain ⟨A, c, rfl⟩ := own_form ho
    obtain ⟨g, rfl, _, hmc, _⟩ := own_at ho (by omega)
    by_cases hc : m + 1 ≤ c
    · exact ins_room ho hx (fun e => hxg (by rw [e]; rfl)) hm (by omega) hc
    · exact ins_grow ho hx hm (by omega) (by omega)
end Go.Proofs.YtkhalpnonijogaaGreat
