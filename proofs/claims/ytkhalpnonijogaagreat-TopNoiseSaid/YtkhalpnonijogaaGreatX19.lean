/- cmd.Client, Sensor, Sub, done, good. No condition but the numbers' bounds. | cmp.Compare, cmp.Or, rate.order and the closure of find: some number. No condition but the memory's. | sched.Wake of a task among six. No condition but the table's. -/
import Derived.Test.YtkhalpnonijogaaGreatX17
import Derived.Laws.StructEq
import Derived.ChangeKeysEq
import Derived.Deep.QuietTactic
import Derived.BigQuiet
import Derived.Deep.RegionHeld3
namespace Go.Proofs.YtkhalpnonijogaaGreat
open Go.RowKit

theorem client_yes {n : Nat} (h : n < 8) (w : World) : Calls Tryz.prog 160 #[.int .i64 n] w fun e w' => e = .returned (.bool true) ∧ w = w' := by
  have d1 : decide ((n : Int) < 8) = true := decide_eq_true (by omega)
  have d2 : decide (n < 8) = true := decide_eq_true (by omega)
  go_enter Tryz.func160, Tryz.ntmps160
  go_wp2_with fail
  go_ret
  exact ⟨rfl, rfl⟩
theorem sensor_yes {n : Nat} (h1 : 1 ≤ n) (h : n ≤ 15) (w : World) : Calls Tryz.prog 202 #[.int .i64 n] w fun e w' => e = .returned (.bool true) ∧ w = w' := by
  have d1 : decide ((n : Int) ≤ 15) = true := decide_eq_true (by omega)
  have d2 : decide (n ≤ 15) = true := decide_eq_true (by omega)
  have d3 : decide ((1 : Int) ≤ n) = true := decide_eq_true (by omega)
  have d4 : decide (1 ≤ n) = true := decide_eq_true (by omega)
  go_enter Tryz.func202, Tryz.ntmps202
  go_wp2_with fail
  go_ret
  exact ⟨rfl, rfl⟩
def IsTrue (w : World) (e : Ending) (w' : World) : Prop := e = .returned (.bool true) ∧ Keeps [] w w'
/-- A subscription's cells. -/
def Sb.agg (x : Sb) : Value := .agg #[.int .i64 x.c, .int .i64 x.s, .int .i64 x.p, .int .i64 x.l]
set_option maxHeartbeats 800000 in
theorem csub_yes {x : Sb} (hx : x.Ok) (w : World) : Calls Tryz.prog 155 #[.agg #[.int .i64 x.c, .int .i64 x.s, .int .i64 x.p, .int .i64 x.l]] w (IsTrue w) := by
  have h1 := hx.c
  have h2 := hx.s1
  have h3 := hx.s15
  have h4 := hx.p1
  have h5 := hx.p1000
  have h6 := hx.l
  have d1 : decide ((1 : Int) ≤ x.p) = true := decide_eq_true (by omega)
  have d2 : decide (1 ≤ x.p) = true := decide_eq_true (by omega)
  have d3 : decide ((x.p : Int) ≤ 1000) = true := decide_eq_true (by omega)
  have d4 : decide (x.p ≤ 1000) = true := decide_eq_true (by omega)
  have d5 : decide ((x.l : Int) ≤ 60000) = true := decide_eq_true (by omega)
  have d6 : decide (x.l ≤ 60000) = true := decide_eq_true (by omega)
  have HC := Go.Lib.hid (client_yes h1)
  have HS := Go.Lib.hid (sensor_yes h2 h3)
  go_enter Tryz.func155, Tryz.ntmps155
  go_wp2_with (first
    | (go_at_call 160; refine (HC.out _).mono ?_; rintro e w' ⟨rfl, rfl⟩)
    | (go_at_call 202; refine (HS.out _).mono ?_; rintro e w' ⟨rfl, rfl⟩))
  go_ret
  exact ⟨rfl, (Keeps.refl _ _).alloc _⟩
theorem done_yes {q : Nat} {A : Option Addr} {c : Nat} {w : World} (hq : w.heap[q]? = some (.cells #[.slice A 0 c, .bool true] 332 (0, 0))) : Calls Tryz.prog 153 #[.pointer (some ⟨q, 0, none⟩)] w fun e w' => e = .returned (.bool true) ∧ w = w' := by
  have p0 := (cell_at hq (p := 0) rfl).1
  have p1 := (cell_at hq (p := 1) rfl).1
  clear hq
  go_enter Tryz.func153, Tryz.ntmps153
  go_wp2_with fail
  go_ret
  exact ⟨rfl, rfl⟩

theorem zeq3 (d : Nat) (a b : Int) (w : World) : (Op.equalIn (d + 1) 3 (.int .i64 a) (.int .i64 b)).run Tryz.prog w = .ok (a == b) w := by
  rw [run_equalIn_int w d 3 .i64 .i64 a b (by kernel_rfl)]
theorem zpart3 (cs : Array Value) (i : Nat) {v : Value} (h : cs[i]? = some v) (w : World) : (part 3 cs i).run Tryz.prog w = .ok v w := by
  have ha : (isAgg 3).run Tryz.prog w = .ok false w := by kernel_rfl
  simp [part, ha, h]
/-- A subscription is not the empty one. -/
theorem sub_ne (a b c d : Int) (hb : b ≠ 0) (w : World) : (Go.binOp .eql 30 (.agg #[.int .i64 a, .int .i64 b, .int .i64 c, .int .i64 d]) (.agg #[.int .i64 0, .int .i64 0, .int .i64 0, .int .i64 0])).run Tryz.prog w = .ok (.bool false) w := by
  have hf : Tryz.prog.underlying 30 = some (.struct (Tryz.prog.fieldsOf 30)) := by kernel_rfl
  have hp : Tryz.prog.stoodInHeld 30 = false := by kernel_rfl
  have hfs : ((Tryz.prog.fieldsOf 30).toList.map fun f => (f.name == "_", f.type, f.offset)) = [(false, 3, 0), (false, 3, 1), (false, 3, 2), (false, 3, 3)] := by kernel_rfl
  rw [run_eql_struct]
  rw [run_equalIn_struct w 9999 30 _ _ hf hp]
  obtain ⟨f0, f1, f2, f3, hl, h0, h1, h2, h3⟩ : ∃ f0 f1 f2 f3, (Tryz.prog.fieldsOf 30).toList = [f0, f1, f2, f3] ∧ (f0.name == "_", f0.type, f0.offset) = (false, 3, 0) ∧ (f1.name == "_", f1.type, f1.offset) = (false, 3, 1) ∧ (f2.name == "_", f2.type, f2.offset) = (false, 3, 2) ∧ (f3.name == "_", f3.type, f3.offset) = (false, 3, 3) := by
    generalize (Tryz.prog.fieldsOf 30).toList = fs at hfs ⊢
    rcases fs with _ | ⟨f0, _ | ⟨f1, _ | ⟨f2, _ | ⟨f3, _ | ⟨f4, fs⟩⟩⟩⟩⟩
    · simp at hfs
    · simp at hfs
    · simp at hfs
    · simp at hfs
    · simp only [List.map_cons, List.map_nil, List.cons.injEq, and_true] at hfs
      exact ⟨f0, f1, f2, f3, rfl, hfs.1, hfs.2.1, hfs.2.2.1, hfs.2.2.2⟩
    · simp at hfs
  simp only [Prod.mk.injEq, beq_eq_false_iff_ne] at h0 h1 h2 h3
  obtain ⟨a0, b0, c0⟩ := h0
  obtain ⟨a1, b1, c1⟩ := h1
  obtain ⟨a2, b2, c2⟩ := h2
  obtain ⟨a3, b3, c3⟩ := h3
  have hp0 : ∀ w, (part 3 #[.int .i64 a, .int .i64 b, .int .i64 c, .int .i64 d] 0).run Tryz.prog w = .ok (.int .i64 a) w := fun w => zpart3 _ 0 rfl w
  have hp1 : ∀ w, (part 3 #[.int .i64 a, .int .i64 b, .int .i64 c, .int .i64 d] 1).run Tryz.prog w = .ok (.int .i64 b) w := fun w => zpart3 _ 1 rfl w
  have hq0 : ∀ w, (part 3 #[.int .i64 0, .int .i64 0, .int .i64 0, .int .i64 0] 0).run Tryz.prog w = .ok (.int .i64 0) w := fun w => zpart3 _ 0 rfl w
  have hq1 : ∀ w, (part 3 #[.int .i64 0, .int .i64 0, .int .i64 0, .int .i64 0] 1).run Tryz.prog w = .ok (.int .i64 0) w := fun w => zpart3 _ 1 rfl w
  have hz : ∀ (x y : Int) (w : World), (Op.equalIn 9999 3 (.int .i64 x) (.int .i64 y)).run Tryz.prog w = .ok (x == y) w := fun x y w => zeq3 9998 x y w
  have hb' : (b == 0) = false := by simpa using hb
  rw [hl]
  simp only [Op.eqFields, ne_eq, a0, a1, not_false_eq_true, if_true, b0, b1, c0, c1, Sem.run_bind, hp0, hq0, Result.andThen_ok, hz]
  by_cases ha : a = 0
  · subst ha
    simp [hb', hp1, hq1, hz]
  · have ha' : (a == 0) = false := by simpa using ha
    simp [ha']
end Go.Proofs.YtkhalpnonijogaaGreat
namespace Go.Proofs.YtkhalpnonijogaaGreat
open Go.RowKit

/-- Some number comes back; what was there is as it was. -/
def SomeInt (w : World) (e : Ending) (w' : World) : Prop := ∃ n : Int, e = .returned (.int .i64 n) ∧ Keeps [] w w'
theorem nan_no (a : Int) (w : World) : Calls Tryz.prog 181 #[.int .i64 a] w fun e w' => e = .returned (.bool false) ∧ w = w' := by
  go_enter Tryz.func181, Tryz.ntmps181
  go_wp2_with fail
  go_ret
  exact ⟨by simp, rfl⟩
theorem cmp_any (a b : Int) (w : World) : Calls Tryz.prog 130 #[.int .i64 a, .int .i64 b] w fun e w' => (∃ n : Int, e = .returned (.int .i64 n)) ∧ w = w' := by
  have HN := Go.Lib.hid nan_no
  go_enter Tryz.func130, Tryz.ntmps130
  go_wp2_with (go_at_call 181; refine (HN.out _ _).mono ?_; rintro e w' ⟨rfl, rfl⟩)
  all_goals
    go_ret
    exact ⟨⟨_, rfl⟩, rfl⟩
theorem or_any {g : Nat} {a b : Int} {w : World} (hg : w.heap[g]? = some (.cells #[.int .i64 a, .int .i64 b] 3 (0, 0))) : Calls Tryz.prog 129 #[.slice (some ⟨g, 0, none⟩) 2 2] w fun e w' => (∃ n : Int, e = .returned (.int .i64 n)) ∧ w = w' := by
  have p0 := (cell_at hg (p := 0) rfl).1
  have p1 := (cell_at hg (p := 1) rfl).1
  clear hg
  go_enter Tryz.func129, Tryz.ntmps129
  go_wp2_with fail
  go_loopw [5, 8] (fun _ sj wx => (sj = .int .i64 0 ∨ sj = .int .i64 1 ∨ sj = .int .i64 2) ∧ wx = w) (fun _ sj _ => 2 - (intOf sj).toNat)
  case atStart => exact ⟨.inl rfl, rfl⟩
  case round =>
    obtain ⟨rfl | rfl | rfl, rfl⟩ := hrel
    all_goals go_wp2_with fail
    all_goals first
      | (go_ret; exact ⟨⟨_, rfl⟩, rfl⟩)
      | (go_roundw; (case rel => exact ⟨by simp, trivial⟩); (case measure => simp [intOf]))
theorem order_any (a b c d : Int) (w : World) : Calls Tryz.prog 79 #[.agg #[.int .i64 a, .int .i64 b], .agg #[.int .i64 c, .int .i64 d]] w (SomeInt w) := by
  have HC := Go.Lib.hid cmp_any
  go_enter Tryz.func79, Tryz.ntmps79
  go_upto_region 1 with fail
  obtain ⟨x, hx⟩ : ∃ x, x = w.heap.size := ⟨_, rfl⟩
  obtain ⟨w0, hw0⟩ : ∃ w0, w0 = (w.alloc (.cells #[.int .i64 a, .int .i64 b] 285)).alloc (.cells #[.int .i64 c, .int .i64 d] 285) := ⟨_, rfl⟩
  rw [← hw0, ← hx]
  have hk0 : Keeps [] w w0 := by rw [hw0]; exact ((Keeps.refl _ _).alloc _).alloc _
  have h1 : w0.heap[x]? = some (.cells #[.int .i64 a, .int .i64 b] 285 (0, 0)) := by
    rw [hw0, Below.heap_alloc _ _ _ (by simp [hx]), hx]; exact heap_alloc_new _ _
  have h2 : w0.heap[x + 1]? = some (.cells #[.int .i64 c, .int .i64 d] 285 (0, 0)) := by
    rw [hw0, hx, ← World.size_alloc w (.cells #[.int .i64 a, .int .i64 b] 285)]; exact heap_alloc_new _ _
  have hs0 : w0.cell? ⟨x, 0, none⟩ = some (.int .i64 a) ∧ w0.cell? ⟨x, 1, none⟩ = some (.int .i64 b) ∧ w0.cell? ⟨x + 1, 0, none⟩ = some (.int .i64 c) ∧ w0.cell? ⟨x + 1, 1, none⟩ = some (.int .i64 d) := ⟨(cell_at h1 (p := 0) rfl).1, (cell_at h1 (p := 1) rfl).1, (cell_at h2 (p := 0) rfl).1, (cell_at h2 (p := 1) rfl).1⟩
  have HK0 := Go.Lib.hid hk0
  clear hw0 hx hk0 h1 h2
  go_region_held3 (fun wx => wx.cell? ⟨x, 0, none⟩ = some (.int .i64 a) ∧ wx.cell? ⟨x, 1, none⟩ = some (.int .i64 b) ∧ wx.cell? ⟨x + 1, 0, none⟩ = some (.int .i64 c) ∧ wx.cell? ⟨x + 1, 1, none⟩ = some (.int .i64 d))
    (first | exact hs0 | go_keep)
    (first
      | (go_at_call 130; (refine (HC.out _ _ _).mono ?_; rintro e w1 ⟨⟨n, rfl⟩, rfl⟩))
      | (go_at_call 129; (refine (or_any (by exact heap_alloc_new w0 _)).mono ?_; rintro e w1 ⟨⟨n, rfl⟩, rfl⟩)))
  go_wp2_with fail
  go_ret
  exact ⟨_, rfl, ((HK0.out.alloc _).drew)⟩
end Go.Proofs.YtkhalpnonijogaaGreat
namespace Go.Proofs.YtkhalpnonijogaaGreat
open Go.RowKit

/-- A table of six tasks: its channels are the hub's own. -/
structure TasksIs (own : Nat → Prop) (w : World) (t : Nat) : Prop where
  ex : ∃ (ev cap : Nat) (wh : Value) (now : Value) (arr : Array Value), w.heap[t]? = some (.cells #[.slice (some ⟨ev, 0, none⟩) 6 cap, wh, now] 220 (0, 0)) ∧ 6 ≤ cap ∧ w.heap[ev]? = some (.cells arr 165 (0, 0)) ∧
    ∀ i, i < 6 → ∃ (c : Nat) (buf : Array Value) (s r : Nat), arr[i]? = some (.chan (some c)) ∧ w.heap[c]? = some (.chan 1 buf false s r false) ∧ buf.size ≤ 1 ∧ own c
/-- One channel of the hub's own may have turned. -/
def Chans (own : Nat → Prop) (w w' : World) : Prop := ∃ (S : List Nat), Keeps S w w' ∧ ∀ c ∈ S, own c ∧ (∃ n b cl s r tm, w.heap[c]? = some (.chan n b cl s r tm)) ∧ ∃ n b cl s r tm, w'.heap[c]? = some (.chan n b cl s r tm)
theorem TasksIs.chan {own : Nat → Prop} {w w' : World} {t c s' r' : Nat} {buf' : Array Value} (h : TasksIs own w t) (hk : Keeps [c] w w') (hc : ∃ n b cl s r tm, w.heap[c]? = some (.chan n b cl s r tm)) (hn : w'.heap[c]? = some (.chan 1 buf' false s' r' false)) (hb : buf'.size ≤ 1) : TasksIs own w' t := by
  obtain ⟨ev, cap, wh, now, arr, h1, h2, h3, h4⟩ := h.ex
  obtain ⟨n, b, cl, s, r, tm, hc⟩ := hc
  refine ⟨ev, cap, wh, now, arr, hk.heap h1 (by simp; rintro rfl; simp [h1] at hc), h2, hk.heap h3 (by simp; rintro rfl; simp [h3] at hc), fun i hi => ?_⟩
  obtain ⟨c', buf, s1, r1, e1, e2, e3, e4⟩ := h4 i hi
  by_cases hcc : c' = c
  · subst hcc
    exact ⟨c', buf', s', r', e1, hn, hb, e4⟩
  · exact ⟨c', buf, s1, r1, e1, hk.heap e2 (by simpa using hcc), e3, e4⟩

theorem task_yes {own : Nat → Prop} {w : World} {t i : Nat} {z : Int} (h : TasksIs own w t) (hi : i < 6) (hz : z = (i : Int)) :
    Calls Tryz.prog 166 #[.pointer (some ⟨t, 0, none⟩), .int .i64 z] w fun e w' => e = .returned (.bool true) ∧ w = w' := by
  subst hz
  obtain ⟨ev, cap, wh, now, arr, h1, _⟩ := h.ex
  have p0 := (cell_at h1 (p := 0) rfl).1
  have d1 : decide ((i : Int) < 6) = true := decide_eq_true (by omega)
  have d2 : decide (i < 6) = true := decide_eq_true hi
  clear h h1
  go_enter Tryz.func166, Tryz.ntmps166
  go_wp2_with fail
  go_ret
  exact ⟨rfl, rfl⟩
/-- What waking leaves. -/
def WakeF (own : Nat → Prop) (t : Nat) (w : World) (w' : World) : Prop := TasksIs own w' t ∧ Chans own w w'
set_option maxHeartbeats 800000 in
theorem wake_in {own : Nat → Prop} {w : World} {t i : Nat} {z : Int} (h : TasksIs own w t) (hi : i < 6) (hz : z = (i : Int)) :
    Calls Tryz.prog 115 #[.pointer (some ⟨t, 0, none⟩), .int .i64 z] w fun e w' => (∃ v, e = .returned v) ∧ WakeF own t w w' := by
  have HT := Go.Lib.hid (task_yes h hi hz)
  subst hz
  have H := Go.Lib.hid h
  obtain ⟨ev, cap, wh, now, arr, h1, h2, h3, h4⟩ := h.ex
  obtain ⟨c, buf, s, r, e1, e2, e3, e4⟩ := h4 i hi
  have p0 := (cell_at h1 (p := 0) rfl).1
  have p1 := (cell_at h3 e1).1
  have HC := Go.Lib.hid e2
  have HO := Go.Lib.hid e4
  clear h h1 h3 h4 e1 e2 e4
  go_enter Tryz.func115, Tryz.ntmps115
  go_wp2_with fail
  refine HT.out.mono ?_
  rintro e w' ⟨rfl, rfl⟩
  clear HT
  go_upto_region 3 with fail
  by_cases hb : buf.size < 1
  · have HB := Go.Lib.hid (show (buf.push (.agg #[])).size ≤ 1 by rw [Array.size_push]; omega)
    refine Sel.wp_send_room (c := c) (cap := 1) (buf := buf) (s := s) (r := r) (tm := false) (v := .agg #[]) (z := .agg #[]) rfl rfl (by simp [go_sem, execOp, Go.Conc.scase, Act.eval]) HC.out hb ?_
    go_wp2_with fail
    go_end0
    have hcc := HC.out
    have hkc : Keeps [c] w (w.setChan c 1 (buf.push (.agg #[])) false (s + 1) r false) := (Keeps.refl _ _).setChan (by simp) _ _ _ _ _ _
    refine ⟨⟨_, rfl⟩, H.out.chan hkc ⟨_, _, _, _, _, _, hcc⟩ (Go.Conc.heap_setChan _ _ _ _ _ _ _ _ (lt_of_block hcc)) HB.out, [c], hkc, fun x hx => ?_⟩
    obtain rfl := List.mem_singleton.1 hx
    exact ⟨HO.out, ⟨_, _, _, _, _, _, hcc⟩, _, _, _, _, _, _, Go.Conc.heap_setChan _ _ _ _ _ _ _ _ (lt_of_block hcc)⟩
  · refine Sel.wp_send_full (c := c) (cap := 1) (buf := buf) (s := s) (r := r) (tm := false) (v := .agg #[]) (z := .agg #[]) rfl rfl (by simp [go_sem, execOp, Go.Conc.scase, Act.eval]) HC.out (by omega) ?_
    go_wp2_with fail
    go_end0
    exact ⟨⟨_, rfl⟩, H.out, [], Keeps.refl _ _, by simp⟩
theorem wake_ok {own : Nat → Prop} {w : World} {t i : Nat} {z : Int} (h : TasksIs own w t) (hi : i < 6) (hz : z = (i : Int)) :
    Calls Tryz.prog 112 #[.pointer (some ⟨t, 0, none⟩), .int .i64 z] w fun e w' => (∃ v, e = .returned v) ∧ WakeF own t w w' := by
  have HT := Go.Lib.hid (task_yes h hi hz)
  have HW := Go.Lib.hid (wake_in h hi hz)
  clear h hi hz
  go_enter Tryz.func112, Tryz.ntmps112
  go_wp2_with fail
  refine HT.out.mono ?_
  rintro e w' ⟨rfl, rfl⟩
  clear HT
  go_wp2_with fail
  refine HW.out.mono ?_
  rintro e w1 ⟨⟨v, rfl⟩, hw1⟩
  clear HW
  go_wp2_with fail
  go_ret
  exact ⟨⟨_, rfl⟩, hw1⟩
end Go.Proofs.YtkhalpnonijogaaGreat
