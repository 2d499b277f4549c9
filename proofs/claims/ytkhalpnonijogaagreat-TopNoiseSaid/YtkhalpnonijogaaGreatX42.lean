/- drv.table. No condition. -/
import Derived.Test.YtkhalpnonijogaaGreatX41
namespace Go.Proofs.YtkhalpnonijogaaGreat
open Go.RowKit

/-- A write's row of the table. -/
def WrIs (w : World) (b q : Nat) (r n : Int) : Prop := w.heap[b]? = some (.cells #[.int .i64 r] 3 (0, 0)) ∧ w.heap[b + 1]? = some (.cells #[.func (.func 236) #[] #[.pointer (some ⟨q, 0, none⟩)]] 378 (0, 0)) ∧ w.heap[q]? = some (.cells #[.int .i64 n] 3 (0, 0))
theorem WrIs.keeps {S : List Nat} {w w' : World} {b q : Nat} {r n : Int} (h : WrIs w b q r n) (hk : Keeps S w w') (hS : ∀ x ∈ S, ∀ cs t fr, w.heap[x]? ≠ some (.cells cs t fr)) : WrIs w' b q r n :=
  ⟨hk.heap h.1 (fun hm => hS _ hm _ _ _ h.1), hk.heap h.2.1 (fun hm => hS _ hm _ _ _ h.2.1), hk.heap h.2.2 (fun hm => hS _ hm _ _ _ h.2.2)⟩
def clo (f : Nat) (b : Nat) : Value := .func (.func f) #[] #[.pointer (some ⟨b, 0, none⟩), .pointer (some ⟨b + 1, 0, none⟩)]
/-- The table: what a driver does in states 6 and 7; nothing in state 8. -/
def TabF (w : World) (e : Ending) (w' : World) : Prop := ∃ m L b6 q6 b7 q7 g6 g7, e = .returned (.map (some m)) ∧ MapIs w' m L ∧ getL 6 L = some (.agg #[clo 238 b6, g6]) ∧ getL 7 L = some (.agg #[clo 238 b7, g7]) ∧ getL 8 L = none ∧ WrIs w' b6 q6 1 0 ∧ WrIs w' b7 q7 5 182 ∧ Keeps [] w w' ∧ (∃ f A B, g6 = .func f A B) ∧ ∃ f A B, g7 = .func f A B
set_option maxHeartbeats 3200000 in
set_option maxRecDepth 100000 in
theorem table_ok (w : World) : Calls Tryz.prog 138 #[] w (TabF w) := by
  have hmk : ∀ w, (Instr.makeMap 306 none).run Tryz.prog w = .ok (.map (some w.heap.size)) (w.alloc (.map #[] 0)) := fun w => run_makeMap 306 w
  go_enter Tryz.func138, Tryz.ntmps138
  go_wp2_with fail
  refine (always_ok 1 _).mono ?_
  rintro e w1 ⟨q1, rfl, hq1, hs1, hk1⟩
  obtain ⟨m, hm⟩ : ∃ m, m = w1.heap.size := ⟨_, rfl⟩
  obtain ⟨u0, hu0⟩ : ∃ u0, u0 = w1.alloc (.map #[] 0) := ⟨_, rfl⟩
  have H0 : Hid (MapIs u0 m [] ∧ Keeps [] w u0) := Go.Lib.hid ⟨by rw [hu0, hm]; exact MapIs.made w1, by rw [hu0]; exact hk1.alloc _⟩
  have HU := Go.Lib.hid hu0
  have HMM := Go.Lib.hid hm
  have hmw : Hid (w.heap.size ≤ m) := Go.Lib.hid (by rw [hm]; exact hk1.size)
  clear hq1 hs1 hk1 hm hu0
  go_wp2_with fail
  rw [← HU.out, ← HMM.out]
  refine (read_ok 0 (.func 236) #[] #[.pointer (some ⟨q1, 0, none⟩)] _).mono ?_
  rintro e x1 ⟨b1, rfl, _, _, _, hk1⟩
  have G1 : Hid (MapIs x1 m [] ∧ Keeps [] w x1) := Go.Lib.hid ⟨H0.out.1.keeps hk1 (by simp), H0.out.2.trans hk1⟩
  clear hk1 H0
  go_wp2_with (refine wpList_insert rfl (.tmp 3) (.const (.int .i64 1)) (.tmp 6) 306 rfl Tryz.underlying306 Tryz.underlying3 (by rfl) 1 (by rfl) (by rfl) G1.out.1 rfl ?_; intro y1 hm1 hj1)
  have I1 : Hid (MapIs y1 m [(1, .agg #[clo 237 b1, .func (.func 189) #[] #[]])] ∧ Keeps [] w y1) := Go.Lib.hid ⟨hm1, G1.out.2.step hj1 (fun z hz => .inr (by rw [List.mem_singleton.1 hz]; exact hmw.out))⟩
  clear hm1 hj1 G1
  refine (write_ok 2 (.func 191) #[] #[] _).mono ?_
  rintro e x2 ⟨b2, rfl, _, _, _, hk2⟩
  have G2 : Hid (MapIs x2 m [(1, .agg #[clo 237 b1, .func (.func 189) #[] #[]])] ∧ Keeps [] w x2) := Go.Lib.hid ⟨I1.out.1.keeps hk2 (by simp), I1.out.2.trans hk2⟩
  clear hk2 I1
  go_wp2_with (refine wpList_insert rfl (.tmp 3) (.const (.int .i64 2)) (.tmp 8) 306 rfl Tryz.underlying306 Tryz.underlying3 (by rfl) 2 (by rfl) (by rfl) G2.out.1 rfl ?_; intro y2 hm2 hj2)
  have I2 : Hid (MapIs y2 m [(1, .agg #[clo 237 b1, .func (.func 189) #[] #[]]), (2, .agg #[clo 238 b2, .func (.func 189) #[] #[]])] ∧ Keeps [] w y2) := Go.Lib.hid ⟨hm2, G2.out.2.step hj2 (fun z hz => .inr (by rw [List.mem_singleton.1 hz]; exact hmw.out))⟩
  clear hm2 hj2 G2
  refine (write_ok 1 (.func 236) #[] #[.pointer (some ⟨q1, 0, none⟩)] _).mono ?_
  rintro e x3 ⟨b3, rfl, _, _, _, hk3⟩
  have G3 : Hid (MapIs x3 m [(1, .agg #[clo 237 b1, .func (.func 189) #[] #[]]), (2, .agg #[clo 238 b2, .func (.func 189) #[] #[]])] ∧ Keeps [] w x3) := Go.Lib.hid ⟨I2.out.1.keeps hk3 (by simp), I2.out.2.trans hk3⟩
  clear hk3 I2
  go_wp2_with (refine wpList_insert rfl (.tmp 3) (.const (.int .i64 3)) (.tmp 11) 306 rfl Tryz.underlying306 Tryz.underlying3 (by rfl) 3 (by rfl) (by rfl) G3.out.1 rfl ?_; intro y3 hm3 hj3)
  have I3 : Hid (MapIs y3 m [(1, .agg #[clo 237 b1, .func (.func 189) #[] #[]]), (2, .agg #[clo 238 b2, .func (.func 189) #[] #[]]), (3, .agg #[clo 238 b3, .func (.func 189) #[] #[]])] ∧ Keeps [] w y3) := Go.Lib.hid ⟨hm3, G3.out.2.step hj3 (fun z hz => .inr (by rw [List.mem_singleton.1 hz]; exact hmw.out))⟩
  clear hm3 hj3 G3
  refine (read_ok 3 (.func 236) #[] #[.pointer (some ⟨q1, 0, none⟩)] _).mono ?_
  rintro e x4 ⟨b4, rfl, _, _, _, hk4⟩
  have G4 : Hid (MapIs x4 m [(1, .agg #[clo 237 b1, .func (.func 189) #[] #[]]), (2, .agg #[clo 238 b2, .func (.func 189) #[] #[]]), (3, .agg #[clo 238 b3, .func (.func 189) #[] #[]])] ∧ Keeps [] w x4) := Go.Lib.hid ⟨I3.out.1.keeps hk4 (by simp), I3.out.2.trans hk4⟩
  clear hk4 I3
  go_wp2_with (refine wpList_insert rfl (.tmp 3) (.const (.int .i64 4)) (.tmp 14) 306 rfl Tryz.underlying306 Tryz.underlying3 (by rfl) 4 (by rfl) (by rfl) G4.out.1 rfl ?_; intro y4 hm4 hj4)
  have I4 : Hid (MapIs y4 m [(1, .agg #[clo 237 b1, .func (.func 189) #[] #[]]), (2, .agg #[clo 238 b2, .func (.func 189) #[] #[]]), (3, .agg #[clo 238 b3, .func (.func 189) #[] #[]]), (4, .agg #[clo 237 b4, .func (.func 192) #[] #[]])] ∧ Keeps [] w y4) := Go.Lib.hid ⟨hm4, G4.out.2.step hj4 (fun z hz => .inr (by rw [List.mem_singleton.1 hz]; exact hmw.out))⟩
  clear hm4 hj4 G4
  refine (read_ok 4 (.func 193) #[] #[] _).mono ?_
  rintro e x5 ⟨b5, rfl, _, _, _, hk5⟩
  have G5 : Hid (MapIs x5 m [(1, .agg #[clo 237 b1, .func (.func 189) #[] #[]]), (2, .agg #[clo 238 b2, .func (.func 189) #[] #[]]), (3, .agg #[clo 238 b3, .func (.func 189) #[] #[]]), (4, .agg #[clo 237 b4, .func (.func 192) #[] #[]])] ∧ Keeps [] w x5) := Go.Lib.hid ⟨I4.out.1.keeps hk5 (by simp), I4.out.2.trans hk5⟩
  clear hk5 I4
  go_wp2_with (refine wpList_insert rfl (.tmp 3) (.const (.int .i64 5)) (.tmp 16) 306 rfl Tryz.underlying306 Tryz.underlying3 (by rfl) 5 (by rfl) (by rfl) G5.out.1 rfl ?_; intro y5 hm5 hj5)
  have I5 : Hid (MapIs y5 m [(1, .agg #[clo 237 b1, .func (.func 189) #[] #[]]), (2, .agg #[clo 238 b2, .func (.func 189) #[] #[]]), (3, .agg #[clo 238 b3, .func (.func 189) #[] #[]]), (4, .agg #[clo 237 b4, .func (.func 192) #[] #[]]), (5, .agg #[clo 237 b5, .func (.func 194) #[] #[]])] ∧ Keeps [] w y5) := Go.Lib.hid ⟨hm5, G5.out.2.step hj5 (fun z hz => .inr (by rw [List.mem_singleton.1 hz]; exact hmw.out))⟩
  clear hm5 hj5 G5
  refine (always_ok 0 _).mono ?_
  rintro e xa ⟨qa, rfl, hqa, _, hka⟩
  have Ga : Hid (MapIs xa m [(1, .agg #[clo 237 b1, .func (.func 189) #[] #[]]), (2, .agg #[clo 238 b2, .func (.func 189) #[] #[]]), (3, .agg #[clo 238 b3, .func (.func 189) #[] #[]]), (4, .agg #[clo 237 b4, .func (.func 192) #[] #[]]), (5, .agg #[clo 237 b5, .func (.func 194) #[] #[]])] ∧ Keeps [] w xa) := Go.Lib.hid ⟨I5.out.1.keeps hka (by simp), I5.out.2.trans hka⟩
  have Qa := Go.Lib.hid hqa
  clear hka hqa I5
  go_wp2_with fail
  refine (write_ok 1 (.func 236) #[] #[.pointer (some ⟨qa, 0, none⟩)] _).mono ?_
  rintro e xb ⟨bb, rfl, hb0, hb1, _, hkb⟩
  have Gb : Hid (MapIs xb m [(1, .agg #[clo 237 b1, .func (.func 189) #[] #[]]), (2, .agg #[clo 238 b2, .func (.func 189) #[] #[]]), (3, .agg #[clo 238 b3, .func (.func 189) #[] #[]]), (4, .agg #[clo 237 b4, .func (.func 192) #[] #[]]), (5, .agg #[clo 237 b5, .func (.func 194) #[] #[]])] ∧ Keeps [] w xb ∧ WrIs xb bb qa 1 0) := Go.Lib.hid ⟨Ga.out.1.keeps hkb (by simp), Ga.out.2.trans hkb, hb0, hb1, hkb.heap Qa.out (by simp)⟩
  clear hkb hb0 hb1 Ga Qa
  go_wp2_with fail
  refine (becomes_ok 0 false _).mono ?_
  rintro e xc ⟨bc, rfl, _, _, _, hkc⟩
  have Gc : Hid (MapIs xc m [(1, .agg #[clo 237 b1, .func (.func 189) #[] #[]]), (2, .agg #[clo 238 b2, .func (.func 189) #[] #[]]), (3, .agg #[clo 238 b3, .func (.func 189) #[] #[]]), (4, .agg #[clo 237 b4, .func (.func 192) #[] #[]]), (5, .agg #[clo 237 b5, .func (.func 194) #[] #[]])] ∧ Keeps [] w xc ∧ WrIs xc bb qa 1 0) := Go.Lib.hid ⟨Gb.out.1.keeps hkc (by simp), Gb.out.2.1.trans hkc, Gb.out.2.2.keeps hkc (by simp)⟩
  clear hkc Gb
  go_wp2_with (refine wpList_insert rfl (.tmp 3) (.const (.int .i64 6)) (.tmp 20) 306 rfl Tryz.underlying306 Tryz.underlying3 (by rfl) 6 (by rfl) (by rfl) Gc.out.1 rfl ?_; intro y6 hm6 hj6)
  have I6 : Hid (MapIs y6 m [(1, .agg #[clo 237 b1, .func (.func 189) #[] #[]]), (2, .agg #[clo 238 b2, .func (.func 189) #[] #[]]), (3, .agg #[clo 238 b3, .func (.func 189) #[] #[]]), (4, .agg #[clo 237 b4, .func (.func 192) #[] #[]]), (5, .agg #[clo 237 b5, .func (.func 194) #[] #[]]), (6, .agg #[clo 238 bb, clo 241 bc])] ∧ Keeps [] w y6 ∧ WrIs y6 bb qa 1 0) := Go.Lib.hid ⟨hm6, Gc.out.2.1.step hj6 (fun z hz => .inr (by rw [List.mem_singleton.1 hz]; exact hmw.out)), Gc.out.2.2.keeps hj6 (fun x hx cs t fr hc => by obtain ⟨es, clk, e, _⟩ := Gc.out.1; rw [List.mem_singleton.1 hx, e] at hc; simp at hc)⟩
  clear hm6 hj6 Gc
  refine (always_ok 182 _).mono ?_
  rintro e xd ⟨qd, rfl, hqd, _, hkd⟩
  have Gd : Hid (MapIs xd m [(1, .agg #[clo 237 b1, .func (.func 189) #[] #[]]), (2, .agg #[clo 238 b2, .func (.func 189) #[] #[]]), (3, .agg #[clo 238 b3, .func (.func 189) #[] #[]]), (4, .agg #[clo 237 b4, .func (.func 192) #[] #[]]), (5, .agg #[clo 237 b5, .func (.func 194) #[] #[]]), (6, .agg #[clo 238 bb, clo 241 bc])] ∧ Keeps [] w xd ∧ WrIs xd bb qa 1 0) := Go.Lib.hid ⟨I6.out.1.keeps hkd (by simp), I6.out.2.1.trans hkd, I6.out.2.2.keeps hkd (by simp)⟩
  have Qd := Go.Lib.hid hqd
  clear hkd hqd I6
  go_wp2_with fail
  refine (write_ok 5 (.func 236) #[] #[.pointer (some ⟨qd, 0, none⟩)] _).mono ?_
  rintro e xe ⟨be, rfl, he0, he1, _, hke⟩
  have Ge : Hid (MapIs xe m [(1, .agg #[clo 237 b1, .func (.func 189) #[] #[]]), (2, .agg #[clo 238 b2, .func (.func 189) #[] #[]]), (3, .agg #[clo 238 b3, .func (.func 189) #[] #[]]), (4, .agg #[clo 237 b4, .func (.func 192) #[] #[]]), (5, .agg #[clo 237 b5, .func (.func 194) #[] #[]]), (6, .agg #[clo 238 bb, clo 241 bc])] ∧ Keeps [] w xe ∧ WrIs xe bb qa 1 0 ∧ WrIs xe be qd 5 182) := Go.Lib.hid ⟨Gd.out.1.keeps hke (by simp), Gd.out.2.1.trans hke, Gd.out.2.2.keeps hke (by simp), he0, he1, hke.heap Qd.out (by simp)⟩
  clear hke he0 he1 Gd Qd
  go_wp2_with (refine wpList_insert rfl (.tmp 3) (.const (.int .i64 7)) (.tmp 23) 306 rfl Tryz.underlying306 Tryz.underlying3 (by rfl) 7 (by rfl) (by rfl) Ge.out.1 rfl ?_; intro y7 hm7 hj7)
  have I7 : Hid (MapIs y7 m [(1, .agg #[clo 237 b1, .func (.func 189) #[] #[]]), (2, .agg #[clo 238 b2, .func (.func 189) #[] #[]]), (3, .agg #[clo 238 b3, .func (.func 189) #[] #[]]), (4, .agg #[clo 237 b4, .func (.func 192) #[] #[]]), (5, .agg #[clo 237 b5, .func (.func 194) #[] #[]]), (6, .agg #[clo 238 bb, clo 241 bc]), (7, .agg #[clo 238 be, .func (.func 196) #[] #[]])] ∧ Keeps [] w y7 ∧ WrIs y7 bb qa 1 0 ∧ WrIs y7 be qd 5 182) := Go.Lib.hid ⟨hm7, Ge.out.2.1.step hj7 (fun z hz => .inr (by rw [List.mem_singleton.1 hz]; exact hmw.out)), Ge.out.2.2.1.keeps hj7 (fun x hx cs t fr hc => by obtain ⟨es, clk, e, _⟩ := Ge.out.1; rw [List.mem_singleton.1 hx, e] at hc; simp at hc), Ge.out.2.2.2.keeps hj7 (fun x hx cs t fr hc => by obtain ⟨es, clk, e, _⟩ := Ge.out.1; rw [List.mem_singleton.1 hx, e] at hc; simp at hc)⟩
  clear hm7 hj7 Ge
  go_ret
  exact ⟨m, [(1, .agg #[clo 237 b1, .func (.func 189) #[] #[]]), (2, .agg #[clo 238 b2, .func (.func 189) #[] #[]]), (3, .agg #[clo 238 b3, .func (.func 189) #[] #[]]), (4, .agg #[clo 237 b4, .func (.func 192) #[] #[]]), (5, .agg #[clo 237 b5, .func (.func 194) #[] #[]]), (6, .agg #[clo 238 bb, clo 241 bc]), (7, .agg #[clo 238 be, .func (.func 196) #[] #[]])], bb, qa, be, qd, _, _, rfl, I7.out.1, rfl, rfl, rfl, I7.out.2.2.1, I7.out.2.2.2, I7.out.2.1, ⟨_, _, _, rfl⟩, ⟨_, _, _, rfl⟩⟩
end Go.Proofs.YtkhalpnonijogaaGreat
