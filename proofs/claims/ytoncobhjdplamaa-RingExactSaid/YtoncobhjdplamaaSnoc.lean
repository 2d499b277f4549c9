/- 'l = append(append([]pair{}, l...), x)': seven operations whose order is drawn: whatever the order, the new row. No condition but the rows' own. -/
import Derived.Test.YtoncobhjdplamaaClone
import Derived.Test.YtoncobhjdplamaaQTail
namespace Go.Proofs.Ytoncobhjdplamaa
open Go.RowKit RPair

/-- A region that draws its order, by an invariant over what has come up. -/
theorem wpAny_inv {P : Program} {ops : Array Oper} {md : Region.Mode} {Q : Exit → Act → World → Prop} (I : Array Bool → Act → World → Prop)
    (hsz : ∀ l a w, I l a w → l.size = ops.size)
    (hstep : ∀ l a w i, I l a w → i ∈ Region.ready md ops l → wpOp P ops Q i (I (l.setIfInBounds i true)) a w)
    (hdone : ∀ l a w, I l a w → Region.ready md ops l = [] → Q .normal a w) :
    ∀ (fuel : Nat) (l : Array Bool) (a : Act) (w : World), I l a w → (l.toList.filter (fun b => !b)).length ≤ fuel → wpAny P md ops Q fuel l a w
  | 0, l, a, w, h, hf => by
    have hn : Region.ready md ops l = [] := by
      refine List.eq_nil_iff_forall_not_mem.2 fun i hi => ?_
      obtain ⟨h0, o, ho, _⟩ := mem_ready.1 hi
      have hlt : i < l.size := by rw [hsz _ _ _ h]; exact (Array.getElem?_eq_some_iff.1 ho).1
      have hmem : false ∈ l.toList.filter (fun b => !b) := by
        refine List.mem_filter.2 ⟨?_, rfl⟩
        have : l[i] = false := by simpa [hlt] using h0
        rw [← this]
        exact Array.getElem_mem_toList hlt
      have := List.length_pos_of_mem hmem
      omega
    exact ⟨hn, hdone _ _ _ h hn⟩
  | fuel + 1, l, a, w, h, hf => by
    refine ⟨hdone _ _ _ h, fun i hi => wpOp_mono (fun a' w' h' => wpAny_inv I hsz hstep hdone fuel _ a' w' h' ?_) (hstep _ _ _ _ h hi)⟩
    obtain ⟨h0, o, ho, _⟩ := mem_ready.1 hi
    have hlt : i < l.size := by rw [hsz _ _ _ h]; exact (Array.getElem?_eq_some_iff.1 ho).1
    have h1 : l.toList[i]'(by simpa using hlt) = false := by simpa [hlt] using h0
    have e : (l.setIfInBounds i true).toList = l.toList.set i true := by simp
    rw [e]
    have e2 := List.set_eq_take_append_cons_drop (l := l.toList) (i := i) (a := true)
    have e3 : l.toList = l.toList.take i ++ l.toList[i]'(by simpa using hlt) :: l.toList.drop (i + 1) := by
      rw [List.getElem_cons_drop, List.take_append_drop]
    rw [e2, if_pos (by simpa using hlt)]
    rw [e3, h1] at hf
    simp only [List.filter_append, List.filter_cons, List.length_append, Bool.not_false, Bool.not_true, if_true, Bool.false_eq_true, if_false, List.length_cons] at hf ⊢
    omega

/-- What has come up of the seven. -/
structure St (a0 : Act) (w0 : World) (v : Value) (L : List Pr) (x : Pr) (l0 l1 l2 l3 l4 l5 l6 : Bool) (a : Act) (w : World) : Prop where
  size : a.tmps.size = a0.tmps.size
  defs : a.defers = a0.defers
  frame : ∀ s, s ∉ [5, 107, 108, 109, 110, 111, 112] → a.tmps[s]? = a0.tmps[s]?
  keeps : Keeps [] w0 w
  v5 : l6 = false → a.eval (.tmp 5) = v
  s0 : l0 = true → ∃ ad, a.eval (.tmp 107) = .slice (some ad) 0 0
  s1 : l1 = true → a.eval (.tmp 108) = v
  s2 : l2 = true → l5 = false → Fresh w0.heap.size w (a.eval (.tmp 109)) L
  s3 : l3 = true → a.eval (.tmp 110) = agg x
  s4 : l4 = true → l5 = false → ∃ bx, a.eval (.tmp 111) = .slice (some ⟨bx, 0, none⟩) 1 1 ∧ w.heap[bx]? = some (.cells #[.int .i64 x.n, .string x.s] 49 (0, 0))
  s5 : l5 = true → w.ownsRow w0.heap.size 49 2 (a.eval (.tmp 112)) (L ++ [x]).length ((L ++ [x]).flatMap enc)
  dep6 : l6 = true → l0 = true ∧ l1 = true ∧ l2 = true ∧ l3 = true ∧ l4 = true ∧ l5 = true
  dep5 : l5 = true → l2 = true ∧ l4 = true
  s6 : l6 = true → w.ownsRow w0.heap.size 49 2 (a.eval (.tmp 5)) (L ++ [x]).length ((L ++ [x]).flatMap enc)

theorem eval_self {a : Act} {d : Nat} {v : Value} (h : d < a.tmps.size) : (a.put (some d) v).eval (.tmp d) = v := by
  simp [Act.put, Act.eval, h]
theorem eval_other {a : Act} {d e : Nat} {v : Value} (h : d ≠ e) : (a.put (some d) v).eval (.tmp e) = a.eval (.tmp e) :=
  Act.eval_put (fun d' h1 h2 => by
    have e1 : d = d' := by simpa using h1
    have e2 : e = d' := by simpa using h2
    omega)
theorem put_frame {a a0 : Act} {d : Nat} {v : Value} {S : List Nat} (hd : d ∈ S) (h : ∀ s, s ∉ S → a.tmps[s]? = a0.tmps[s]?) : ∀ s, s ∉ S → (a.put (some d) v).tmps[s]? = a0.tmps[s]? := fun s hs => by
  rw [← h s hs]
  have : d ≠ s := fun e => hs (e ▸ hd)
  simp [Act.put, Array.getElem?_setIfInBounds_ne this]
theorem put_size {a : Act} {d : Nat} {v : Value} : (a.put (some d) v).tmps.size = a.tmps.size := by simp [Act.put]

def ops18 : List Oper := #[
  { dst := some 107, op := Op.buildSlice 50 0 #[], type := 50, pos := "law.go:88", after := #[], guard := none },
  { dst := some 108, op := Op.move (Operand.tmp 5), type := 50, pos := "law.go:88", after := #[], guard := none },
  { dst := some 109, op := Op.call { callee := Callee.builtin Builtin.append, args := #[Operand.tmp 107, Operand.tmp 108], argTypes := #[50, 50] }, type := 50, pos := "law.go:88",
    after := #[{ on := 0, ground := Ground.data }, { on := 1, ground := Ground.data }], guard := none },
  { dst := some 110, op := Op.load 49 (Operand.tmp 8), type := 49, pos := "law.go:88", after := #[], guard := none },
  { dst := some 111, op := Op.buildSlice 50 1 #[(0, Operand.tmp 110)], type := 50, pos := "law.go:88", after := #[{ on := 3, ground := Ground.data }], guard := none },
  { dst := some 112, op := Op.call { callee := Callee.builtin Builtin.append, args := #[Operand.tmp 109, Operand.tmp 111], argTypes := #[50, 50] }, type := 50, pos := "law.go:88",
    after := #[{ on := 2, ground := Ground.data }, { on := 4, ground := Ground.data }, { on := 2, ground := Ground.chain }], guard := none },
  { dst := some 5, op := Op.assign (Operand.tmp 112), type := 50, pos := "law.go:88",
    after := #[{ on := 5, ground := Ground.data }, { on := 5, ground := Ground.chain }, { on := 0, ground := Ground.phase }, { on := 1, ground := Ground.phase }, { on := 2, ground := Ground.phase },
      { on := 3, ground := Ground.phase }, { on := 4, ground := Ground.phase }, { on := 5, ground := Ground.phase }], guard := none }].toList

theorem wpOp_lit {P : Program} {ops : Array Oper} {Q : Exit → Act → World → Prop} {i : Nat} {o : Oper} {K : Act → World → Prop} {a : Act} {w : World} (ho : ops[i]? = some o) (hg : o.guard = none) (h : o.wp P a w K Q) : wpOp P ops Q i K a w := by
  unfold wpOp
  simp only [ho]
  have hw : Region.wanted o (yielded ops a.tmps) = true := by simp [Region.wanted, hg]
  rw [if_pos hw]
  exact .inl h

theorem step0 {a : Act} {w : World} {K : Act → World → Prop} {Q : Exit → Act → World → Prop} (h : K (a.put (some 107) (.slice (some ⟨w.heap.size, 0, none⟩) 0 0)) (w.alloc (.cells #[] 49))) : Oper.wp Try.prog ops18[0] a w K Q := by
  unfold Oper.wp
  simpa [ops18, go_sem, Act.put] using h
theorem step1 {a : Act} {w : World} {K : Act → World → Prop} {Q : Exit → Act → World → Prop} (h : K (a.put (some 108) (a.eval (.tmp 5))) w) : Oper.wp Try.prog ops18[1] a w K Q := by
  unfold Oper.wp
  simpa [ops18, go_sem, Act.put, Act.eval, execOp] using h
theorem step2 {a : Act} {w : World} {K : Act → World → Prop} {Q : Exit → Act → World → Prop} {v' : Value} {w' : World} (hr : (Builtin.append_ #[50, 50] 50 #[a.eval (.tmp 107), a.eval (.tmp 108)]).run Try.prog w = .ok v' w') (h : K (a.put (some 109) v') w') : Oper.wp Try.prog ops18[2] a w K Q := by
  show Oper.wp Try.prog { dst := some 109, op := Op.call { callee := Callee.builtin Builtin.append, args := #[Operand.tmp 107, Operand.tmp 108], argTypes := #[50, 50] }, type := 50, pos := "law.go:88", after := #[{ on := 0, ground := Ground.data }, { on := 1, ground := Ground.data }], guard := none } a w K Q
  unfold Oper.wp execOp
  simp only [resolve, invoke, builtin, Sem.run_bind, Sem.run_pure, Result.andThen_ok, List.map_toArray, List.map_cons, List.map_nil, hr]
  exact h
theorem step3 {a : Act} {w : World} {K : Act → World → Prop} {Q : Exit → Act → World → Prop} {b : Nat} {x : Pr} (h8 : a.eval (.tmp 8) = .pointer (some ⟨b, 0, none⟩)) (h0 : w.cell? ⟨b, 0, none⟩ = some (.int .i64 x.n)) (h1 : w.cell? ⟨b, 1, none⟩ = some (.string x.s))
    (h : K (a.put (some 110) (agg x)) w) : Oper.wp Try.prog ops18[3] a w K Q := by
  unfold Oper.wp
  simp only [Act.eval] at h8
  simpa [ops18, go_sem, Act.put, Act.eval, execOp, h8, h0, h1, agg] using h
theorem step4 {a : Act} {w : World} {K : Act → World → Prop} {Q : Exit → Act → World → Prop} {x : Pr} (h3 : a.eval (.tmp 110) = agg x)
    (h : K (a.put (some 111) (.slice (some ⟨w.heap.size, 0, none⟩) 1 1)) (w.alloc (.cells #[.int .i64 x.n, .string x.s] 49))) : Oper.wp Try.prog ops18[4] a w K Q := by
  unfold Oper.wp
  have h3 : a.tmps[110]?.getD undef = .agg #[.int .i64 x.n, .string x.s] := by simpa [Act.eval, agg] using h3
  simpa [ops18, go_sem, Act.put, Act.eval, execOp, h3] using h
theorem step5 {a : Act} {w : World} {K : Act → World → Prop} {Q : Exit → Act → World → Prop} {v' : Value} {w' : World} (hr : (Builtin.append_ #[50, 50] 50 #[a.eval (.tmp 109), a.eval (.tmp 111)]).run Try.prog w = .ok v' w') (h : K (a.put (some 112) v') w') : Oper.wp Try.prog ops18[5] a w K Q := by
  show Oper.wp Try.prog { dst := some 112, op := Op.call { callee := Callee.builtin Builtin.append, args := #[Operand.tmp 109, Operand.tmp 111], argTypes := #[50, 50] }, type := 50, pos := "law.go:88", after := #[{ on := 2, ground := Ground.data }, { on := 4, ground := Ground.data }, { on := 2, ground := Ground.chain }], guard := none } a w K Q
  unfold Oper.wp execOp
  simp only [resolve, invoke, builtin, Sem.run_bind, Sem.run_pure, Result.andThen_ok, List.map_toArray, List.map_cons, List.map_nil, hr]
  exact h
theorem step6 {a : Act} {w : World} {K : Act → World → Prop} {Q : Exit → Act → World → Prop} (h : K (a.put (some 5) (a.eval (.tmp 112))) w) : Oper.wp Try.prog ops18[6] a w K Q := by
  unfold Oper.wp
  simpa [ops18, go_sem, Act.put, Act.eval, execOp] using h

theorem ready18 : ∀ l0 l1 l2 l3 l4 l5 l6 : Bool, Region.ready .any ops18.toArray #[l0, l1, l2, l3, l4, l5, l6] = [] → l6 = true := by decide +kernel

theorem region18 {id : Nat} {Q : Exit → Act → World → Prop} {a : Act} {w : World} {v : Value} {L : List Pr} {x : Pr} {S : List Nat} {b8 : Nat} (hs : Sees S w v L) (hL : L.length ≤ 300) (hsz : a.tmps.size = 221) (h5 : a.eval (.tmp 5) = v) (h8 : a.eval (.tmp 8) = .pointer (some ⟨b8, 0, none⟩))
    (hb : w.heap[b8]? = some (.cells #[.int .i64 x.n, .string x.s] 49 (0, 0)))
    (h : ∀ a' w', a'.tmps.size = 221 → a'.defers = a.defers → (∀ s, s ∉ [5, 107, 108, 109, 110, 111, 112] → a'.tmps[s]? = a.tmps[s]?) → Keeps [] w w' → w'.ownsRow w.heap.size 49 2 (a'.eval (.tmp 5)) (L ++ [x]).length ((L ++ [x]).flatMap enc) → Q .normal a' w') :
    (Code.region id ops18.toArray true).wp Try.prog Q a w := by
  refine wp_region_any (by kernel_rfl) ?_
  refine wpAny_inv (fun l a' w' => ∃ l0 l1 l2 l3 l4 l5 l6, l = #[l0, l1, l2, l3, l4, l5, l6] ∧ St a w v L x l0 l1 l2 l3 l4 l5 l6 a' w') ?_ ?_ ?_ _ _ _ _ ⟨false, false, false, false, false, false, false, rfl, rfl, rfl, fun _ _ => rfl, (Keeps.refl [] w).drew, fun _ => h5, by simp, by simp, by simp, by simp, by simp, by simp, by simp, by simp, by simp⟩ (by decide)
  · rintro _ _ _ ⟨l0, l1, l2, l3, l4, l5, l6, rfl, _⟩
    rfl
  · rintro _ a' w' i ⟨l0, l1, l2, l3, l4, l5, l6, rfl, hst⟩ hi
    obtain ⟨h0, o, ho, hall⟩ := mem_ready.1 hi
    have hi7 : i < 7 := (Array.getElem?_eq_some_iff.1 ho).1
    have hz : a'.tmps.size = 221 := hst.size.trans hsz
    have hkeep : w.heap.size ≤ w'.heap.size := hst.keeps.size
    rcases (show i = 0 ∨ i = 1 ∨ i = 2 ∨ i = 3 ∨ i = 4 ∨ i = 5 ∨ i = 6 by omega) with rfl | rfl | rfl | rfl | rfl | rfl | rfl
    · refine wpOp_lit (o := ops18[0]) rfl rfl (step0 ⟨true, l1, l2, l3, l4, l5, l6, rfl, put_size.trans hst.size, hst.defs, put_frame (by simp) hst.frame, hst.keeps.alloc _, ?_, ?_, ?_, ?_, ?_, ?_, ?_, fun e => ⟨rfl, (hst.dep6 e).2⟩, hst.dep5, ?_⟩)
      · intro e; rw [eval_other (by omega)]; exact hst.v5 e
      · intro _; exact ⟨_, eval_self (by omega)⟩
      · intro e; rw [eval_other (by omega)]; exact hst.s1 e
      · intro e e'; rw [eval_other (by omega)]; exact (hst.s2 e e').alloc _
      · intro e; rw [eval_other (by omega)]; exact hst.s3 e
      · intro e e'; obtain ⟨bx, h1, h2⟩ := hst.s4 e e'; exact ⟨bx, by rw [eval_other (by omega)]; exact h1, by rw [Below.heap_alloc _ _ _ (lt_of_block h2)]; exact h2⟩
      · intro e; rw [eval_other (by omega)]; exact (hst.s5 e).alloc _
      · intro e; rw [eval_other (by omega)]; exact (hst.s6 e).alloc _
    · obtain rfl : l1 = false := h0
      have e6 : l6 = false := by
        cases l6 with
        | false => rfl
        | true => exact absurd (hst.dep6 rfl).2.1 (by simp)
      refine wpOp_lit (o := ops18[1]) rfl rfl (step1 ⟨l0, true, l2, l3, l4, l5, l6, rfl, put_size.trans hst.size, hst.defs, put_frame (by simp) hst.frame, hst.keeps, ?_, ?_, ?_, ?_, ?_, ?_, ?_, fun e => ⟨(hst.dep6 e).1, rfl, (hst.dep6 e).2.2⟩, hst.dep5, ?_⟩)
      · intro e; rw [eval_other (by omega)]; exact hst.v5 e
      · intro e; rw [eval_other (by omega)]; exact hst.s0 e
      · intro _; rw [eval_self (by omega)]; exact hst.v5 e6
      · intro e e'; rw [eval_other (by omega)]; exact hst.s2 e e'
      · intro e; rw [eval_other (by omega)]; exact hst.s3 e
      · intro e e'; rw [eval_other (by omega)]; exact hst.s4 e e'
      · intro e; rw [eval_other (by omega)]; exact hst.s5 e
      · intro e; rw [eval_other (by omega)]; exact hst.s6 e
    · obtain rfl : l2 = false := h0
      have e5 : l5 = false := by
        cases l5 with
        | false => rfl
        | true => exact absurd (hst.dep5 rfl).1 (by simp)
      have e6 : l6 = false := by
        cases l6 with
        | false => rfl
        | true => exact absurd (hst.dep6 rfl).2.2.1 (by simp)
      subst e5 e6
      obtain rfl : ops18[2] = o := by simpa [ops18] using ho
      have hd : l0 = true ∧ l1 = true := ⟨hall ⟨0, .data⟩ (by simp [ops18]) rfl, hall ⟨1, .data⟩ (by simp [ops18]) rfl⟩
      obtain ⟨rfl, rfl⟩ := hd
      obtain ⟨ad, had⟩ := hst.s0 rfl
      obtain ⟨v', w2, hr, hf, hk⟩ := run_clone (hs.keeps hst.keeps (by simp)) hL ad 50
      refine wpOp_lit (o := ops18[2]) rfl rfl (step2 (by rw [had, hst.s1 rfl]; exact hr) ⟨true, true, true, l3, l4, false, false, rfl, put_size.trans hst.size, hst.defs, put_frame (by simp) hst.frame, hst.keeps.trans hk, ?_, ?_, ?_, ?_, ?_, ?_, ?_, (by simp), (by simp), ?_⟩)
      · intro e; rw [eval_other (by omega)]; exact hst.v5 e
      · intro e; rw [eval_other (by omega)]; exact hst.s0 e
      · intro e; rw [eval_other (by omega)]; exact hst.s1 e
      · intro _ _; rw [eval_self (by omega)]; exact hf.mono hkeep
      · intro e; rw [eval_other (by omega)]; exact hst.s3 e
      · intro e e'; obtain ⟨bx, h1, h2⟩ := hst.s4 e e'; exact ⟨bx, by rw [eval_other (by omega)]; exact h1, hk.heap h2 (by simp)⟩
      · intro e; cases e
      · intro e; cases e
    · refine wpOp_lit (o := ops18[3]) rfl rfl (step3 (b := b8) (x := x) ?_ ?_ ?_ ⟨l0, l1, l2, true, l4, l5, l6, rfl, put_size.trans hst.size, hst.defs, put_frame (by simp) hst.frame, hst.keeps, ?_, ?_, ?_, ?_, ?_, ?_, ?_, fun e => ⟨(hst.dep6 e).1, (hst.dep6 e).2.1, (hst.dep6 e).2.2.1, rfl, (hst.dep6 e).2.2.2.2⟩, hst.dep5, ?_⟩)
      · rw [← h8]
        have := hst.frame 8 (by simp)
        simp only [Act.eval, Array.getD_eq_getD_getElem?, this]
      · exact (cell_at (hst.keeps.heap hb (by simp)) rfl).1
      · exact (cell_at (hst.keeps.heap hb (by simp)) rfl).1
      · intro e; rw [eval_other (by omega)]; exact hst.v5 e
      · intro e; rw [eval_other (by omega)]; exact hst.s0 e
      · intro e; rw [eval_other (by omega)]; exact hst.s1 e
      · intro e e'; rw [eval_other (by omega)]; exact hst.s2 e e'
      · intro _; exact eval_self (by omega)
      · intro e e'; rw [eval_other (by omega)]; exact hst.s4 e e'
      · intro e; rw [eval_other (by omega)]; exact hst.s5 e
      · intro e; rw [eval_other (by omega)]; exact hst.s6 e
    · obtain rfl : l4 = false := h0
      obtain rfl : ops18[4] = o := by simpa [ops18] using ho
      obtain rfl : l3 = true := hall ⟨3, .data⟩ (by simp [ops18]) rfl
      refine wpOp_lit (o := ops18[4]) rfl rfl (step4 (hst.s3 rfl) ⟨l0, l1, l2, true, true, l5, l6, rfl, put_size.trans hst.size, hst.defs, put_frame (by simp) hst.frame, hst.keeps.alloc _, ?_, ?_, ?_, ?_, ?_, ?_, ?_, fun e => ⟨(hst.dep6 e).1, (hst.dep6 e).2.1, (hst.dep6 e).2.2.1, rfl, rfl, (hst.dep6 e).2.2.2.2.2⟩, fun e => ⟨(hst.dep5 e).1, rfl⟩, ?_⟩)
      · intro e; rw [eval_other (by omega)]; exact hst.v5 e
      · intro e; rw [eval_other (by omega)]; exact hst.s0 e
      · intro e; rw [eval_other (by omega)]; exact hst.s1 e
      · intro e e'; rw [eval_other (by omega)]; exact (hst.s2 e e').alloc _
      · intro e; rw [eval_other (by omega)]; exact hst.s3 e
      · intro _ _; exact ⟨_, eval_self (by omega), heap_alloc_new _ _⟩
      · intro e; rw [eval_other (by omega)]; exact (hst.s5 e).alloc _
      · intro e; rw [eval_other (by omega)]; exact (hst.s6 e).alloc _
    · obtain rfl : l5 = false := h0
      have e6 : l6 = false := by
        cases l6 with
        | false => rfl
        | true => exact absurd (hst.dep6 rfl).2.2.2.2.2 (by simp)
      subst e6
      obtain rfl : ops18[5] = o := by simpa [ops18] using ho
      have hd : l2 = true ∧ l4 = true := ⟨hall ⟨2, .data⟩ (by simp [ops18]) rfl, hall ⟨4, .data⟩ (by simp [ops18]) rfl⟩
      obtain ⟨rfl, rfl⟩ := hd
      obtain ⟨bx, h1, h2⟩ := hst.s4 rfl rfl
      obtain ⟨v', w2, hr, hf, hk⟩ := run_snoc (hst.s2 rfl rfl) hL x ⟨bx, 0, none⟩ 1 (by rw [Addr.add_lit]; exact (cell_at h2 rfl).1) (by rw [Addr.add_lit]; exact (cell_at h2 rfl).1) hkeep 50
      refine wpOp_lit (o := ops18[5]) rfl rfl (step5 (by rw [h1]; exact hr) ⟨l0, l1, true, l3, true, true, false, rfl, put_size.trans hst.size, hst.defs, put_frame (by simp) hst.frame, hk w (Nat.le_refl _) hst.keeps, ?_, ?_, ?_, ?_, ?_, ?_, ?_, (by simp), (by simp), ?_⟩)
      · intro e; rw [eval_other (by omega)]; exact hst.v5 e
      · intro e; rw [eval_other (by omega)]; exact hst.s0 e
      · intro e; rw [eval_other (by omega)]; exact hst.s1 e
      · intro _ e; cases e
      · intro e; rw [eval_other (by omega)]; exact hst.s3 e
      · intro _ e; cases e
      · intro _; rw [eval_self (by omega)]; exact hf
      · intro e; cases e
    · obtain rfl : l6 = false := h0
      obtain rfl : ops18[6] = o := by simpa [ops18] using ho
      have hd : l0 = true ∧ l1 = true ∧ l2 = true ∧ l3 = true ∧ l4 = true ∧ l5 = true := ⟨hall ⟨0, .phase⟩ (by simp [ops18]) rfl, hall ⟨1, .phase⟩ (by simp [ops18]) rfl, hall ⟨2, .phase⟩ (by simp [ops18]) rfl, hall ⟨3, .phase⟩ (by simp [ops18]) rfl, hall ⟨4, .phase⟩ (by simp [ops18]) rfl, hall ⟨5, .phase⟩ (by simp [ops18]) rfl⟩
      obtain ⟨rfl, rfl, rfl, rfl, rfl, rfl⟩ := hd
      refine wpOp_lit (o := ops18[6]) rfl rfl (step6 ⟨true, true, true, true, true, true, true, rfl, put_size.trans hst.size, hst.defs, put_frame (by simp) hst.frame, hst.keeps, ?_, ?_, ?_, ?_, ?_, ?_, ?_, (by simp), (by simp), ?_⟩)
      · intro e; cases e
      · intro e; rw [eval_other (by omega)]; exact hst.s0 e
      · intro e; rw [eval_other (by omega)]; exact hst.s1 e
      · intro _ e; cases e
      · intro e; rw [eval_other (by omega)]; exact hst.s3 e
      · intro _ e; cases e
      · intro e; rw [eval_other (by omega)]; exact hst.s5 e
      · intro _; rw [eval_self (by omega)]; exact hst.s5 rfl
  · rintro _ a' w' ⟨l0, l1, l2, l3, l4, l5, l6, rfl, hst⟩ hr
    obtain rfl : l6 = true := ready18 l0 l1 l2 l3 l4 l5 l6 hr
    exact h a' w' (hst.size.trans hsz) hst.defs hst.frame hst.keeps (hst.s6 rfl)

theorem act_eq {a a' : Act} (hsz : a'.tmps.size = a.tmps.size) (hd : a'.defers = a.defers) (hf : ∀ s, s ∉ [5, 107, 108, 109, 110, 111, 112] → a'.tmps[s]? = a.tmps[s]?) :
    a' = ((((((a.put (some 5) (a'.eval (.tmp 5))).put (some 107) (a'.eval (.tmp 107))).put (some 108) (a'.eval (.tmp 108))).put (some 109) (a'.eval (.tmp 109))).put (some 110) (a'.eval (.tmp 110))).put (some 111) (a'.eval (.tmp 111))).put (some 112) (a'.eval (.tmp 112)) := by
  obtain ⟨t, d⟩ := a
  obtain ⟨t', d'⟩ := a'
  simp only at hsz hd hf
  subst hd
  simp only [Act.put, Act.eval, Act.mk.injEq, and_true]
  refine Array.ext_getElem? fun s => ?_
  by_cases hs : s ∈ [5, 107, 108, 109, 110, 111, 112]
  · have hs' := hs
    simp only [List.mem_cons, List.not_mem_nil, or_false] at hs'
    have key : ∀ s : Nat, t'[s]? = if s < t'.size then some (t'[s]?.getD undef) else none := fun s => by
      by_cases hlt : s < t'.size
      · rw [if_pos hlt]; simp [hlt]
      · rw [if_neg hlt]; simp; omega
    rcases hs' with rfl | rfl | rfl | rfl | rfl | rfl | rfl <;>
    · simp only [Array.getElem?_setIfInBounds, Array.size_setIfInBounds, ← hsz]
      first
      | (simp; done)
      | (rw [key]; simp)
  · have h1 := hf s hs
    simp only [List.mem_cons, List.not_mem_nil, or_false, not_or] at hs
    obtain ⟨n0, n1, n2, n3, n4, n5, n6⟩ := hs
    rw [Array.getElem?_setIfInBounds_ne (Ne.symm n6), Array.getElem?_setIfInBounds_ne (Ne.symm n5), Array.getElem?_setIfInBounds_ne (Ne.symm n4), Array.getElem?_setIfInBounds_ne (Ne.symm n3), Array.getElem?_setIfInBounds_ne (Ne.symm n2), Array.getElem?_setIfInBounds_ne (Ne.symm n1), Array.getElem?_setIfInBounds_ne (Ne.symm n0)]
    exact h1

/-- .. for a frame that is written out. -/
theorem region18_put {id : Nat} {Q : Exit → Act → World → Prop} {a : Act} {w : World} {v : Value} {L : List Pr} {x : Pr} {S : List Nat} {b8 : Nat} (hs : Sees S w v L) (hL : L.length ≤ 300) (hsz : a.tmps.size = 221) (h5 : a.eval (.tmp 5) = v) (h8 : a.eval (.tmp 8) = .pointer (some ⟨b8, 0, none⟩))
    (hb : w.heap[b8]? = some (.cells #[.int .i64 x.n, .string x.s] 49 (0, 0)))
    (h : ∀ v' t0 t1 t2 t3 t4 t5 w', Keeps [] w w' → w'.ownsRow w.heap.size 49 2 v' (L ++ [x]).length ((L ++ [x]).flatMap enc) →
      Q .normal (((((((a.put (some 5) v').put (some 107) t0).put (some 108) t1).put (some 109) t2).put (some 110) t3).put (some 111) t4).put (some 112) t5) w') :
    (Code.region id ops18.toArray true).wp Try.prog Q a w :=
  region18 hs hL hsz h5 h8 hb fun a' w' h1 h2 h3 h4 h6 => by
    rw [act_eq (h1.trans hsz.symm) h2 h3]
    exact h _ _ _ _ _ _ _ _ h4 h6
end Go.Proofs.Ytoncobhjdplamaa
