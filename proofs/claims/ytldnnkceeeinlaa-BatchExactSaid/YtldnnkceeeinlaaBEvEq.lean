/- An event is itself: no inequality. No condition. -/
import Derived.Test.YtldnnkceeeinlaaBData
import Derived.Laws.StructEq
import Derived.ChangeKeysEq
namespace Go.Proofs.Ytldnnkceeeinlaa
open Go.RowKit
theorem eq2 (d : Nat) (v : Int) (w : World) : (Op.equalIn (d + 1) 2 (.int .i64 v) (.int .i64 v)).run Try.prog w = .ok true w := by
  rw [run_equalIn_int w d 2 .i64 .i64 v v (by kernel_rfl)]; simp
theorem eq3 (d : Nat) (v : Int) (w : World) : (Op.equalIn (d + 1) 3 (.int .i64 v) (.int .i64 v)).run Try.prog w = .ok true w := by
  rw [run_equalIn_int w d 3 .i64 .i64 v v (by kernel_rfl)]; simp
theorem part2 (cs : Array Value) (i : Nat) {v : Value} (h : cs[i]? = some v) (w : World) : (part 2 cs i).run Try.prog w = .ok v w := by
  have ha : (isAgg 2).run Try.prog w = .ok false w := by kernel_rfl
  simp [part, ha, h]
theorem part3 (cs : Array Value) (i : Nat) {v : Value} (h : cs[i]? = some v) (w : World) : (part 3 cs i).run Try.prog w = .ok v w := by
  have ha : (isAgg 3).run Try.prog w = .ok false w := by kernel_rfl
  simp [part, ha, h]
theorem eq29 (d : Nat) (v0 v1 v2 v3 : Int) (w : World) : (Op.equalIn (d + 2) 29 (.agg #[.int .i64 v0, .int .i64 v1, .int .i64 v2, .int .i64 v3]) (.agg #[.int .i64 v0, .int .i64 v1, .int .i64 v2, .int .i64 v3])).run Try.prog w = .ok true w := by
  have hu : Try.prog.underlying 29 = some (.array 4 2) := by kernel_rfl
  have hi : ∃ i, Try.prog.info? 2 = some i := by
    have : (Try.prog.info? 2).isSome = true := by kernel_rfl
    exact Option.isSome_iff_exists.1 this
  obtain ⟨i, hi⟩ := hi
  have hc : Try.prog.cellsOf 2 = 1 := by kernel_rfl
  rw [run_equalIn_array w (d + 1) _ _ hu hi, hc]
  have p0 : ∀ w, (part 2 #[.int .i64 v0, .int .i64 v1, .int .i64 v2, .int .i64 v3] 0).run Try.prog w = .ok (.int .i64 v0) w := fun w => part2 _ 0 rfl w
  have p1 : ∀ w, (part 2 #[.int .i64 v0, .int .i64 v1, .int .i64 v2, .int .i64 v3] 1).run Try.prog w = .ok (.int .i64 v1) w := fun w => part2 _ 1 rfl w
  have p2 : ∀ w, (part 2 #[.int .i64 v0, .int .i64 v1, .int .i64 v2, .int .i64 v3] 2).run Try.prog w = .ok (.int .i64 v2) w := fun w => part2 _ 2 rfl w
  have p3 : ∀ w, (part 2 #[.int .i64 v0, .int .i64 v1, .int .i64 v2, .int .i64 v3] 3).run Try.prog w = .ok (.int .i64 v3) w := fun w => part2 _ 3 rfl w
  simp [Op.eqItems, List.range, List.range.loop, p0, p1, p2, p3, eq2]
theorem evs_same (x : Ev) (w : World) : (Go.binOp .neq 31 (evA x) (evA x)).run Try.prog w = .ok (.bool false) w := by
  unfold evA
  rw [run_neq_struct]
  have hf : Try.prog.underlying 31 = some (.struct (Try.prog.fieldsOf 31)) := by kernel_rfl
  have hp : Try.prog.stoodInHeld 31 = false := by kernel_rfl
  have hfs : ((Try.prog.fieldsOf 31).toList.map fun f => (f.name == "_", f.type, f.offset)) = [(false, 3, 0), (false, 2, 1), (false, 29, 2)] := by kernel_rfl
  rw [run_equalIn_struct w 9999 31 _ _ hf hp]
  obtain ⟨f0, f1, f2, hl, h0, h1, h2⟩ : ∃ f0 f1 f2, (Try.prog.fieldsOf 31).toList = [f0, f1, f2] ∧ (f0.name == "_", f0.type, f0.offset) = (false, 3, 0) ∧ (f1.name == "_", f1.type, f1.offset) = (false, 2, 1) ∧ (f2.name == "_", f2.type, f2.offset) = (false, 29, 2) := by
    generalize (Try.prog.fieldsOf 31).toList = fs at hfs ⊢
    rcases fs with _ | ⟨f0, _ | ⟨f1, _ | ⟨f2, _ | ⟨f3, fs⟩⟩⟩⟩
    · simp at hfs
    · simp at hfs
    · simp at hfs
    · simp only [List.map_cons, List.map_nil, List.cons.injEq, and_true] at hfs
      exact ⟨f0, f1, f2, rfl, hfs.1, hfs.2.1, hfs.2.2⟩
    · simp at hfs
  simp only [Prod.mk.injEq, beq_eq_false_iff_ne] at h0 h1 h2
  obtain ⟨a0, b0, c0⟩ := h0
  obtain ⟨a1, b1, c1⟩ := h1
  obtain ⟨a2, b2, c2⟩ := h2
  have hp29 : ∀ w, (part 29 #[.int .i64 x.s, .int .i64 x.t, .int .i64 x.v0, .int .i64 x.v1, .int .i64 x.v2, .int .i64 x.v3] 2).run Try.prog w = .ok (.agg #[.int .i64 x.v0, .int .i64 x.v1, .int .i64 x.v2, .int .i64 x.v3]) w := fun w => by kernel_rfl
  have hp0 : ∀ w, (part 3 #[.int .i64 x.s, .int .i64 x.t, .int .i64 x.v0, .int .i64 x.v1, .int .i64 x.v2, .int .i64 x.v3] 0).run Try.prog w = .ok (.int .i64 x.s) w := fun w => part3 _ 0 rfl w
  have hp1 : ∀ w, (part 2 #[.int .i64 x.s, .int .i64 x.t, .int .i64 x.v0, .int .i64 x.v1, .int .i64 x.v2, .int .i64 x.v3] 1).run Try.prog w = .ok (.int .i64 x.t) w := fun w => part2 _ 1 rfl w
  rw [hl]
  simp only [Op.eqFields, ne_eq, a0, a1, a2, not_false_eq_true, if_true, b0, b1, b2, c0, c1, c2, Sem.run_bind, hp0, hp1, hp29, Result.andThen_ok, eq3, eq2, eq29, Bool.not_true, Bool.false_eq_true, if_false, Sem.run_pure, Bool.not_true]
theorem evs_eq (x : Ev) (w : World) : (Op.equalIn 10000 31 (evA x) (evA x)).run Try.prog w = .ok true w := by
  have h := evs_same x w
  unfold evA at h ⊢
  rw [run_neq_struct] at h
  cases hr : (Op.equalIn 10000 31 (.agg #[.int .i64 x.s, .int .i64 x.t, .int .i64 x.v0, .int .i64 x.v1, .int .i64 x.v2, .int .i64 x.v3]) (.agg #[.int .i64 x.s, .int .i64 x.t, .int .i64 x.v0, .int .i64 x.v1, .int .i64 x.v2, .int .i64 x.v3])).run Try.prog w with
  | ok b w' =>
    rw [hr] at h
    simp only [Result.andThen_ok, Result.ok.injEq, Value.bool.injEq] at h
    obtain ⟨h1, rfl⟩ := h
    cases b <;> simp at h1 ⊢
  | halt x w' => rw [hr] at h; simp [Result.andThen] at h
theorem evs_guard : Try.prog.eqGuardType Try.prog.depth 31 = false := by kernel_rfl
end Go.Proofs.Ytldnnkceeeinlaa
