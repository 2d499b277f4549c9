/- A select of one case with a default, in one goroutine, as a law of the lone walk ('Code.wp'): a region whose first operation is the select. Ready: the case is taken; not ready: the default. No condition on the frame. | A send to a channel with room, in one goroutine, as a law of the lone walk: a region of two plain operations and the send. No condition on the frame. | Rows of frames. No condition. | scan.Take. No condition but the rows'. | cmd.take: a number of up to four bytes. No condition but the row's. -/
import Derived.Conc.LoneSelectN
import Derived.Conc.LoneSelect
import Derived.WalkKit
import Derived.Test.YtkhalpnonijogaaGreatX16
import Derived.Test.YtkhalpnonijogaaGreatX01
namespace Go.Proofs.YtkhalpnonijogaaGreat
namespace Sel
open Go Go.Conc Go.RowKit

section
variable {P : Program} {b : Frame} {a : Act} {k : List Item} {cs : List Frame} {w w' : World} {ops : Array Oper} {i : Nat} {rest : List Nat} {o : Oper} {cases : Array CommCase} {blocking : Bool} {shape : CommShape}

theorem stepG_comm_any (ho : ops[i]? = some o) (hw : Region.wanted o (yielded ops a.tmps) = true) (hr : (execOp a.eval o).run P w = .ok (.comm cases blocking shape) w') :
    ∃ es, stepG P true (G (b.at a (.inRegion ops (i :: rest) :: k)) cs) w = .comm (G (b.at a (.inRegion ops (i :: rest) :: k)) cs) cases blocking shape w' es := by
  have h := stepG_op (P := P) (b := b) (k := k) (cs := cs) (w := w) (rest := rest) ho hw
  have h' : stepG P true (G (b.at a (.inRegion ops (i :: rest) :: k)) cs) w = stepG.apply P true (b.at a (.inRegion ops (i :: rest) :: k)) cs none (execOp a.eval o) w := h
  rw [h']
  simp [stepG.apply, hr, G, Frame.at, GStep.after]

/-- One step of the machine at the region's first operation, and the rest of the region: the region's law. -/
theorem wp_region_first {id : Nat} {Q : Exit → Act → World → Prop} {v : Value} {l : List Oper} (hops : ops.toList = o :: l)
    (hs : ∀ (b : Frame) (rest : List Nat) (k : List Item) (cs : List Frame), step P (lone (b.at a (.inRegion ops (0 :: rest) :: k)) cs w) = .next (lone ((b.at a (.inRegion ops (0 :: rest) :: k)).finish v) cs w'))
    (h : wpList P ops Q l (a.put o.dst v) w') : (Code.region id ops false).wp P Q a w := by
  intro b k cs
  have hsz : ops.size = l.length + 1 := by rw [← Array.length_toList, hops]; rfl
  have ho : ops[0]? = some o := by
    have : ops.toList[0]? = some o := by rw [hops]; rfl
    simpa using this
  have hl : wpOps P ops Q (List.range' 1 l.length) (a.put o.dst v) w' := by
    rw [wpOps_eq_wpList l 1 (fun j => by
      have : ops.toList[1 + j]? = l[j]? := by rw [hops, Nat.add_comm, List.getElem?_cons_succ]
      simpa using this.symm)]
    exact h
  obtain ⟨e, a', w'', hq, harr⟩ := wp_ops _ _ _ hl b k cs
  refine ⟨e, a', w'', hq, .of_steps (.head step_region (.one ?_)) harr⟩
  rw [show List.range ops.size = 0 :: List.range' 1 l.length by rw [hsz, List.range_eq_range', List.range'_succ]]
  rw [hs b _ k cs, Frame.finish_at, ho]
  rfl
end

section
variable {P : Program} {a : Act} {w : World} {ops : Array Oper} {id : Nat} {Q : Exit → Act → World → Prop} {o : Oper} {l : List Oper} {c cap s r : Nat} {buf : Array Value} {closed tm : Bool} {z v : Value}

theorem wanted_of {o : Oper} {ts : Nat → Option Bool} (h : o.guard = none) : Region.wanted o ts = true := by simp [Region.wanted, h]

/-- 'case <-c' with a default, the buffer not empty: index 0, ok, the eldest. -/
theorem wp_recv_ready (hops : ops.toList = o :: l) (hg : o.guard = none) (hr : (execOp a.eval o).run P w = .ok (.comm #[rcase c z] false .select) w)
    (hc : w.heap[c]? = some (.chan cap buf closed s r tm)) (hsome : 0 < buf.size)
    (h : wpList P ops Q l (a.put o.dst (.tuple #[.int .i64 0, .bool true, buf.getD 0 undef])) (w.setChan c cap (buf.extract 1 buf.size) closed s (r + 1) tm)) : (Code.region id ops false).wp P Q a w := by
  refine wp_region_first hops (fun b rest k cs => ?_) h
  have ho : ops[0]? = some o := by
    have : ops.toList[0]? = some o := by rw [hops]; rfl
    simpa using this
  obtain ⟨es, hes⟩ := stepG_comm_any (P := P) (b := b) (a := a) (k := k) (cs := cs) (w := w) (w' := w) (ops := ops) (i := 0) (rest := rest) ho (wanted_of hg) hr
  exact step_lone_select_recv_buf hes hc hsome

/-- 'case <-c' with a default, open and empty: the default. -/
theorem wp_recv_default (hops : ops.toList = o :: l) (hg : o.guard = none) (hr : (execOp a.eval o).run P w = .ok (.comm #[rcase c z] false .select) w)
    (hc : w.heap[c]? = some (.chan cap #[] false s r tm))
    (h : wpList P ops Q l (a.put o.dst (.tuple #[.int .i64 (-1), .bool false, z])) w) : (Code.region id ops false).wp P Q a w := by
  refine wp_region_first hops (fun b rest k cs => ?_) h
  have ho : ops[0]? = some o := by
    have : ops.toList[0]? = some o := by rw [hops]; rfl
    simpa using this
  obtain ⟨es, hes⟩ := stepG_comm_any (P := P) (b := b) (a := a) (k := k) (cs := cs) (w := w) (w' := w) (ops := ops) (i := 0) (rest := rest) ho (wanted_of hg) hr
  exact step_lone_select_default hes hc

/-- 'case c <- v' with a default, room: index 0. -/
theorem wp_send_room (hops : ops.toList = o :: l) (hg : o.guard = none) (hr : (execOp a.eval o).run P w = .ok (.comm #[scase c v z] false .select) w)
    (hc : w.heap[c]? = some (.chan cap buf false s r tm)) (hroom : buf.size < cap)
    (h : wpList P ops Q l (a.put o.dst (.tuple #[.int .i64 0, .bool false])) (w.setChan c cap (buf.push v) false (s + 1) r tm)) : (Code.region id ops false).wp P Q a w := by
  refine wp_region_first hops (fun b rest k cs => ?_) h
  have ho : ops[0]? = some o := by
    have : ops.toList[0]? = some o := by rw [hops]; rfl
    simpa using this
  obtain ⟨es, hes⟩ := stepG_comm_any (P := P) (b := b) (a := a) (k := k) (cs := cs) (w := w) (w' := w) (ops := ops) (i := 0) (rest := rest) ho (wanted_of hg) hr
  exact step_lone_select_send_room hes hc hroom

/-- 'case c <- v' with a default, full: the default. -/
theorem wp_send_full (hops : ops.toList = o :: l) (hg : o.guard = none) (hr : (execOp a.eval o).run P w = .ok (.comm #[scase c v z] false .select) w)
    (hc : w.heap[c]? = some (.chan cap buf false s r tm)) (hfull : cap ≤ buf.size)
    (h : wpList P ops Q l (a.put o.dst (.tuple #[.int .i64 (-1), .bool false])) w) : (Code.region id ops false).wp P Q a w := by
  refine wp_region_first hops (fun b rest k cs => ?_) h
  have ho : ops[0]? = some o := by
    have : ops.toList[0]? = some o := by rw [hops]; rfl
    simpa using this
  obtain ⟨es, hes⟩ := stepG_comm_any (P := P) (b := b) (a := a) (k := k) (cs := cs) (w := w) (w' := w) (ops := ops) (i := 0) (rest := rest) ho (wanted_of hg) hr
  exact step_lone_select_send_full hes hc hfull
end
end Sel
end Go.Proofs.YtkhalpnonijogaaGreat
namespace Go.Proofs.YtkhalpnonijogaaGreat
namespace Sel
open Go Go.Conc Go.RowKit

section
variable {P : Program} {b : Frame} {a : Act} {k : List Item} {cs : List Frame} {w w' : World} {ops : Array Oper}
theorem step_value {i : Nat} {rest : List Nat} {o : Oper} {v : Value} (ho : ops[i]? = some o) (hg : o.guard = none) (hr : (execOp a.eval o).run P w = .ok (.value v) w') :
    step P (lone (b.at a (.inRegion ops (i :: rest) :: k)) cs w) = .next (lone (b.at (a.put o.dst v) (.inRegion ops rest :: k)) cs w') := by
  have hgo := stepG_op (P := P) (b := b) (a := a) (k := k) (cs := cs) (w := w) (rest := rest) ho (wanted_of hg)
  have hfin : (b.at a (.inRegion ops (i :: rest) :: k)).finish v = b.at (a.put o.dst v) (.inRegion ops rest :: k) := by
    rw [Frame.finish_at, ho]; rfl
  refine step_lone_go ?_
  rw [hgo, ← hfin]
  simp [stepG.apply, hr]

theorem wp_send3 {id : Nat} {Q : Exit → Act → World → Prop} {o0 o1 o2 : Oper} {v0 v1 v z : Value} {c cap s r : Nat} {buf : Array Value} {tm : Bool} (hops : ops.toList = [o0, o1, o2]) (g0 : o0.guard = none) (g1 : o1.guard = none) (g2 : o2.guard = none)
    (h0 : (execOp a.eval o0).run P w = .ok (.value v0) w) (h1 : (execOp (a.put o0.dst v0).eval o1).run P w = .ok (.value v1) w)
    (h2 : (execOp ((a.put o0.dst v0).put o1.dst v1).eval o2).run P w = .ok (.comm #[scase c v z] true .send) w)
    (hc : w.heap[c]? = some (.chan cap buf false s r tm)) (hroom : buf.size < cap)
    (h : Q .normal (((a.put o0.dst v0).put o1.dst v1).put o2.dst undef) (w.setChan c cap (buf.push v) false (s + 1) r tm)) : (Code.region id ops false).wp P Q a w := by
  intro b k cs
  have hsz : ops.size = 3 := by rw [← Array.length_toList, hops]; rfl
  have ho : ∀ (i : Nat) (o : Oper), [o0, o1, o2][i]? = some o → ops[i]? = some o := fun i o h => by
    rw [← hops] at h
    simpa using h
  refine ⟨.normal, _, _, h, ?_⟩
  have s1 := step_value (P := P) (b := b) (k := k) (cs := cs) (w := w) (rest := [1, 2]) (ho 0 o0 rfl) g0 h0
  have s2 := step_value (P := P) (b := b) (k := k) (cs := cs) (w := w) (rest := [2]) (ho 1 o1 rfl) g1 h1
  obtain ⟨es, hes⟩ := stepG_comm_any (P := P) (b := b) (a := (a.put o0.dst v0).put o1.dst v1) (k := k) (cs := cs) (w := w) (w' := w) (ops := ops) (i := 2) (rest := []) (ho 2 o2 rfl) (wanted_of g2) h2
  have s3 := step_lone_send_room hes hc hroom
  have hfin : (b.at ((a.put o0.dst v0).put o1.dst v1) (.inRegion ops [2] :: k)).finish undef = b.at (((a.put o0.dst v0).put o1.dst v1).put o2.dst undef) (.inRegion ops [] :: k) := by
    rw [Frame.finish_at, ho 2 o2 rfl]; rfl
  rw [hfin] at s3
  have s0 := step_region (P := P) (b := b) (a := a) (k := k) (cs := cs) (w := w) (ops := ops) (id := id)
  rw [hsz, show List.range 3 = [0, 1, 2] from rfl] at s0
  exact .of_steps (.head s0 (.head s1 (.head s2 (.one s3)))) (.one step_region_end)
end
end Sel
end Go.Proofs.YtkhalpnonijogaaGreat
namespace Go.Proofs.YtkhalpnonijogaaGreat
open Go.RowKit

def flatF : List Frm → List Value → List Value
  | f :: L, u :: p => .int .i64 f.seq.toNat :: .int .i64 f.kind.toNat :: u :: flatF L p
  | _, _ => []
theorem flatF_append {L : List Frm} {p : List Value} (h : p.length = L.length) (f : Frm) (u : Value) : flatF (L ++ [f]) (p ++ [u]) = flatF L p ++ [.int .i64 f.seq.toNat, .int .i64 f.kind.toNat, u] := by
  induction L generalizing p with
  | nil => obtain rfl := List.eq_nil_of_length_eq_zero h; rfl
  | cons g L ih =>
    cases p with
    | nil => simp at h
    | cons v p => simp only [List.cons_append, flatF]; rw [ih (by simpa using h)]
theorem flatF_get {L : List Frm} {p : List Value} (h : p.length = L.length) {i : Nat} {f : Frm} {u : Value} (hf : L[i]? = some f) (hu : p[i]? = some u) :
    (flatF L p)[i * 3]? = some (.int .i64 f.seq.toNat) ∧ (flatF L p)[i * 3 + 1]? = some (.int .i64 f.kind.toNat) ∧ (flatF L p)[i * 3 + 2]? = some u := by
  induction L generalizing p i with
  | nil => simp at hf
  | cons g L ih =>
    cases p with
    | nil => simp at h
    | cons v p =>
      cases i with
      | zero =>
        obtain rfl : g = f := by simpa using hf
        obtain rfl : v = u := by simpa using hu
        exact ⟨rfl, rfl, rfl⟩
      | succ i =>
        have := ih (p := p) (i := i) (by simpa using h) (by simpa using hf) (by simpa using hu)
        rw [show (i + 1) * 3 = i * 3 + 3 by omega]
        simpa [flatF, show i * 3 + 3 + 1 = i * 3 + 1 + 3 by omega, show i * 3 + 3 + 2 = i * 3 + 2 + 3 by omega] using this
/-- A frame's payload. -/
def PayOf (B : Nat) (f : Frm) (w : World) (u : Value) : Prop := ∃ A c, u = .slice A f.pay.length c ∧ w.ownsRow B 5 1 u f.pay.length (by8 f.pay)
/-- A row of frames. -/
def FrmsIs (B : Nat) (L : List Frm) (w : World) (v : Value) : Prop := ∃ p : List Value, p.length = L.length ∧ w.ownsRow B 63 3 v L.length (flatF L p) ∧ ∀ (i : Nat) (f : Frm) (u : Value), L[i]? = some f → p[i]? = some u → PayOf B f w u
theorem FrmsIs.nil (B : Nat) (w : World) : FrmsIs B [] w (.slice none 0 0) := ⟨[], rfl, World.ownsRow_nil _ _ _ _, fun i f u h => by simp at h⟩
theorem FrmsIs.keeps {B : Nat} {L : List Frm} {S : List Nat} {w w' : World} {v : Value} (h : FrmsIs B L w v) (hk : Keeps S w w') (hS : ∀ x ∈ S, ∀ cs t fr, w.heap[x]? = some (.cells cs t fr) → t ≠ 63 ∧ t ≠ 5) : FrmsIs B L w' v := by
  obtain ⟨p, h1, h2, h3⟩ := h
  refine ⟨p, h1, own_kept h2 (fun i cs fr hi => hk.heap hi fun hm => (hS i hm _ _ _ hi).1 rfl), fun i f u hf hu => ?_⟩
  obtain ⟨A, c, h4, h5⟩ := h3 i f u hf hu
  exact ⟨A, c, h4, own_kept h5 fun i cs fr hi => hk.heap hi fun hm => (hS i hm _ _ _ hi).2 rfl⟩
theorem FrmsIs.new {B : Nat} {L : List Frm} {w w' : World} {v : Value} (h : FrmsIs B L w v) (hk : Keeps [] w w') : FrmsIs B L w' v := h.keeps hk (by simp)
theorem FrmsIs.down {B B' : Nat} {L : List Frm} {w : World} {v : Value} (h : FrmsIs B L w v) (hB : B' ≤ B) : FrmsIs B' L w v := by
  obtain ⟨p, h1, h2, h3⟩ := h
  refine ⟨p, h1, own_down h2 hB, fun i f u hf hu => ?_⟩
  obtain ⟨A, c, h4, h5⟩ := h3 i f u hf hu
  exact ⟨A, c, h4, own_down h5 hB⟩
theorem info63 : ∃ i0, Tryz.prog.info? 63 = some i0 ∧ i0.zero = some (.agg #[.int .i64 0, .int .i64 0, .slice none 0 0]) ∧ i0.size = 3 ∧ i0.bytes = 40 := by
  have hm : (Tryz.prog.info? 63).map (fun i => (i.zero, i.size, i.bytes)) = some (some (.agg #[.int .i64 0, .int .i64 0, .slice none 0 0]), 3, 40) := by kernel_rfl
  obtain ⟨i0, h1, h2, h3, h4⟩ := info_parts hm
  exact ⟨i0, h1, h2, h3, h4⟩
theorem keeps_grow' {S : List Nat} {w0 W W' : World} {v : Value} {n : Nat} {xs : List Value} {E sz : Nat} (hk : Keeps S w0 W) (h : W.ownsRow w0.heap.size E sz v n xs) (hg : W.grownBy W' v.ownBlock) : Keeps S w0 W' :=
  ⟨hg.os.trans hk.os, hg.tape.trans hk.tape, hg.output.trans hk.output, Nat.le_trans hk.size hg.size, fun i hi hs => by
    rw [hg.block i (Nat.lt_of_lt_of_le hi hk.size) (fun e => by have := (h.lt i e.symm).1; omega)]
    exact hk.block i hi hs⟩
/-- What a grown row of another type leaves. -/
theorem grown_own {B B' E E' sz sz' n n' : Nat} {W W' : World} {v u : Value} {xs ys : List Value} (hg : W.grownBy W' v.ownBlock) (hv : W.ownsRow B E sz v n xs) (hu : W.ownsRow B' E' sz' u n' ys) (hne : E ≠ E') : W'.ownsRow B' E' sz' u n' ys :=
  own_kept hu fun i cs fr hi => by
    rw [hg.block i (Array.getElem?_eq_some_iff.1 hi).1 (fun e => ?_)]
    · exact hi
    · rcases hv.2 with ⟨rfl, _⟩ | ⟨g, cap, cur, rfl, _, h3, _⟩
      · simp [Value.ownBlock] at e
      · have e' : g = i := by simpa [Value.ownBlock] using e.symm
        rw [← e', h3] at hi
        simp only [Option.some.injEq, Obj.cells.injEq] at hi
        exact hne hi.2.1
/-- One frame more. -/
theorem app63 {w : World} {B x : Nat} {v u : Value} {L : List Frm} {f : Frm} (h : FrmsIs B L w v) (hu : PayOf B f w u) (hx : w.heap[x]? = some (.cells #[.int .i64 f.seq.toNat, .int .i64 f.kind.toNat, u] 63 (0, 0))) (hl : L.length ≤ 100000) (hB : B ≤ w.heap.size) :
    ∃ v' w', (Builtin.append_ #[60, 60] 60 #[v, .slice (some ⟨x, 0, none⟩) 1 1]).run Tryz.prog w = .ok v' w' ∧ FrmsIs B (L ++ [f]) w' v' ∧ w.grownBy w' v.ownBlock ∧ ∃ n xs, w.ownsRow B 63 3 v n xs := by
  obtain ⟨i0, hi, hz0, hz1, hz2⟩ := info63
  obtain ⟨p, h1, h2, h3⟩ := h
  obtain ⟨A, c, rfl, hA⟩ := hu
  obtain ⟨v', w', e1, e2, e3, _⟩ := run_append_own_at (P := Tryz.prog) w B 60 60 63 i0 _ 3 40 Tryz.underlying60 hi hz0 hz1 hz2 rfl (by omega) v L.length _ h2 ⟨x, 0, none⟩ 1 1 [.int .i64 f.seq.toNat, .int .i64 f.kind.toNat, .slice A f.pay.length c] rfl
    (fun j y hj => by
      rw [Addr.add_lit, cell_of_row w x _ _ 63 (0, 0) hx]
      simpa using hj) (fun y hy => by
      simp only [List.mem_cons, List.not_mem_nil, or_false] at hy
      rcases hy with rfl | rfl | rfl <;> rfl) (by unfold maxLen; omega) (by omega) hB
  refine ⟨v', w', e1, ⟨p ++ [.slice A f.pay.length c], by simp [h1], ?_, fun i g u hg hu => ?_⟩, e3, _, _, h2⟩
  · rw [flatF_append h1, List.length_append]
    exact e2
  · by_cases hi' : i < L.length
    · rw [List.getElem?_append_left hi'] at hg
      rw [List.getElem?_append_left (by omega)] at hu
      obtain ⟨A', c', e4, e5⟩ := h3 i g u hg hu
      exact ⟨A', c', e4, grown_own e3 h2 e5 (by decide)⟩
    · have e : i = L.length := by
        have := (List.getElem?_eq_some_iff.1 hg).1
        rw [List.length_append, List.length_singleton] at this
        omega
      subst e
      rw [List.getElem?_append_right (by omega), Nat.sub_self] at hg
      rw [← h1, List.getElem?_append_right (by omega), Nat.sub_self] at hu
      obtain rfl : f = g := by simpa using hg
      obtain rfl : Value.slice A f.pay.length c = u := by simpa using hu
      exact ⟨A, c, rfl, grown_own e3 h2 hA (by decide)⟩
end Go.Proofs.YtkhalpnonijogaaGreat
namespace Go.Proofs.YtkhalpnonijogaaGreat
open Go.RowKit

set_option maxHeartbeats 800000 in
theorem clone_any {A : Option Addr} {n c : Nat} {l : List (BitVec 8)} {w : World} (hA : Byts w A l) (hn : n = l.length) (hs : Src A n c) (hl : n ≤ 100000) :
    Calls Tryz.prog 97 #[.slice A n c] w (PayIs l w) := by
  cases A with
  | none =>
    obtain ⟨h1, h2⟩ := hs rfl
    subst h1 h2
    obtain rfl : l = [] := List.eq_nil_of_length_eq_zero hn.symm
    refine (clone_nil w).mono ?_
    rintro e w' ⟨rfl, rfl⟩
    exact ⟨_, rfl, World.ownsRow_nil _ _ _ _, Keeps.refl _ _⟩
  | some a =>
  obtain ⟨i0, hi, hz0, hz1, hz2⟩ := info5
  have HI := Go.Lib.hid hi
  have HZ0 := Go.Lib.hid hz0
  have HZ1 := Go.Lib.hid hz1
  have HZ2 := Go.Lib.hid hz2
  have HA := Go.Lib.hid hA
  have HN := Go.Lib.hid hn
  have HL := Go.Lib.hid (World.ownsRow_lit (base := w.heap.size) (e := 5) (size := 1) w #[] 0 (Nat.le_refl _) (by decide) rfl)
  clear hi hz0 hz1 hz2 hA hn hs
  have heq : ∀ w', (binOp .eql 37 (.slice (some a) n c) (.slice none 0 0)).run Tryz.prog w' = .ok (.bool false) w' := fun w' => Lib.run_eql_slice_nil w' 37 5 (some a) n c 0 0 Tryz.underlying37
  go_enter Tryz.func97, Tryz.ntmps97
  go_wp2_with (at_builtin; refine wpList_append_own _ rfl _ _ 37 rfl w.heap.size 5 i0 (.int .u8 0) 1 1 Tryz.underlying37 HI.out HZ0.out HZ1.out HZ2.out rfl (by decide) _ 0 _ rfl HL.out a n c (by8 l) rfl (by rw [by8_len, Nat.mul_one, HN.out]) ?c1 ?c2 ?c3 ?c4 ?c5 ?_)
  case c1 =>
    intro j u hj
    obtain ⟨x, hx⟩ : ∃ x, l[j]? = some x := ⟨_, List.getElem?_eq_getElem (by rw [← by8_len]; exact (List.getElem?_eq_some_iff.1 hj).1)⟩
    rw [by8_get hx] at hj
    obtain rfl := Option.some.inj hj
    obtain ⟨a', ha', hc⟩ := (HA.out.keeps0 ((Keeps.refl [] w).alloc _)) j x hx
    obtain rfl := Option.some.inj ha'
    exact hc
  case c2 => exact by8_one _
  case c3 => unfold maxLen; omega
  case c4 => omega
  intro v1 w1 hown1 hgrow1 _
  have HK := Go.Lib.hid (keeps_grow ((Keeps.refl [] w).alloc _) HL.out hgrow1)
  have HO : Hid (w1.ownsRow w.heap.size 5 1 v1 l.length (by8 l)) := Go.Lib.hid (by
    rw [← HN.out]
    simpa using hown1)
  clear hown1 hgrow1
  go_wp2_with fail
  go_ret
  exact ⟨v1, rfl, HO.out, HK.out⟩

theorem mk_chan1 : ∀ w, (Instr.makeChan 244 (.int .i64 1)).run Tryz.prog w = .ok (.chan (some w.heap.size)) (w.alloc (.chan 1 #[] false 0 0 false)) := by
  intro w
  have hm : (Tryz.prog.info? 37).map (·.bytes) = some 24 := by kernel_rfl
  obtain ⟨i, hi, hb⟩ := Option.map_eq_some_iff.1 hm
  exact Go.Conc.run_makeChan (P := Tryz.prog) (w := w) Tryz.underlying244 hi .i64 1 (by omega) (by rw [hb]; omega)

/-- What is still to be looked through. -/
structure RowAt (w : World) (v : Value) (l : List (BitVec 8)) : Prop where
  ex : ∃ A c, v = .slice A l.length c ∧ Byts w A l ∧ Src A l.length c ∧ l.length ≤ c ∧ ∀ a, A = some a → ∃ g o cs, a = ⟨g, o, none⟩ ∧ w.heap[g]? = some (.cells cs 5 (0, 0))
theorem RowAt.keeps {S : List Nat} {w w' : World} {v : Value} {l : List (BitVec 8)} (h : RowAt w v l) (hk : Keeps S w w') (hS : ∀ x ∈ S, ∀ cs t fr, w.heap[x]? = some (.cells cs t fr) → t ≠ 5) : RowAt w' v l := by
  obtain ⟨A, c, h1, h2, h3, h4, h5⟩ := h.ex
  have hb : ∀ a, A = some a → a.block ∉ S := fun a ha hm => by
    obtain ⟨g, o, cs, rfl, hg⟩ := h5 a ha
    exact hS g hm _ _ _ hg rfl
  refine ⟨A, c, h1, h2.keeps hk hb, h3, h4, fun a ha => ?_⟩
  have hb' := hb a ha
  obtain ⟨g, o, cs, rfl, hg⟩ := h5 a ha
  exact ⟨g, o, cs, rfl, hk.heap hg hb'⟩
theorem RowAt.of_own {B : Nat} {w : World} {v : Value} {l : List (BitVec 8)} (h : w.ownsRow B 5 1 v l.length (by8 l)) : RowAt w v l := by
  rcases h.2 with ⟨rfl, h0⟩ | ⟨g, cap, cur, rfl, _, h3, h4, _⟩
  · refine ⟨none, 0, by rw [h0], ?_, fun _ => ⟨h0, rfl⟩, by omega, fun a ha => by simp at ha⟩
    obtain rfl := List.eq_nil_of_length_eq_zero h0
    exact Byts.nil _ _
  · exact ⟨_, cap, rfl, Byts.of_own h, (fun h => by simp at h), h4, fun a ha => ⟨g, 0, cur, (Option.some.inj ha).symm, h3⟩⟩
end Go.Proofs.YtkhalpnonijogaaGreat
namespace Go.Proofs.YtkhalpnonijogaaGreat
open Go.RowKit

theorem RowAt.cut {w : World} {g o n c k : Nat} {l : List (BitVec 8)} (h : RowAt w (.slice (some ⟨g, o, none⟩) n c) l) (hk : k ≤ n) : RowAt w (.slice (if c = k then some ⟨g, o, none⟩ else some ⟨g, o + k, none⟩) (n - k) (c - k)) (l.drop k) := by
  obtain ⟨A, c1, h1, h2, h3, h4, h5⟩ := h.ex
  simp only [Value.slice.injEq] at h1
  obtain ⟨rfl, rfl, rfl⟩ := h1
  obtain ⟨g', o', cs, e, hg⟩ := h5 _ rfl
  simp only [Addr.mk.injEq, and_true] at e
  obtain ⟨rfl, rfl⟩ := e
  split
  · rename_i hc
    have h0 : l.drop k = [] := List.drop_of_length_le (by omega)
    rw [h0]
    exact ⟨_, _, by rw [show l.length - k = 0 by omega]; rfl, Byts.nil _ _, fun h => by simp at h, by simp, fun a ha => ⟨g, o, cs, (Option.some.inj ha).symm, hg⟩⟩
  · exact ⟨_, _, by rw [List.length_drop], h2.cut k, fun h => by simp at h, by rw [List.length_drop]; omega, fun a ha => ⟨g, o + k, cs, (Option.some.inj ha).symm, hg⟩⟩

/-- The number of bytes, the highest first. -/
def be (l : List (BitVec 8)) : Nat := l.foldl (fun a b => a * 256 + b.toNat) 0
theorem be_take {l : List (BitVec 8)} {j : Nat} {x : BitVec 8} (h : l[j]? = some x) : be (l.take (j + 1)) = be (l.take j) * 256 + x.toNat := by
  rw [List.take_add_one, h]
  simp [be, List.foldl_append]
theorem be_lt' : ∀ (l : List (BitVec 8)) (a m : Nat), a < m → l.foldl (fun a b => a * 256 + b.toNat) a < m * 256 ^ l.length
  | [], a, m, h => by simpa using h
  | b :: l, a, m, h => by
    have hb := b.isLt
    have := be_lt' l (a * 256 + b.toNat) (m * 256) (by omega)
    rw [List.foldl_cons, List.length_cons, Nat.pow_succ, Nat.mul_comm (256 ^ l.length) 256, ← Nat.mul_assoc]
    exact this
theorem be_lt (l : List (BitVec 8)) : be l < 256 ^ l.length := by simpa [be] using be_lt' l 0 1 (by omega)
theorem be_take_lt {l : List (BitVec 8)} {j : Nat} (hj : j ≤ 3) : be (l.take j) < 16777216 := by
  have h := be_lt (l.take j)
  have h1 : (l.take j).length ≤ j := List.length_take_le _ _
  have h2 : 256 ^ (l.take j).length ≤ 256 ^ 3 := Nat.pow_le_pow_right (by omega) (by omega)
  have h3 : 256 ^ 3 = 16777216 := rfl
  omega
theorem wraps64u (n : Int) (h0 : 0 ≤ n) (h1 : n < 2 ^ 64) : IntKind.u64.wrap n = n := by
  simp [IntKind.wrap, IntKind.bits, IntKind.signed]
  omega
theorem or64 (v c : Int) (h0 : 0 ≤ v) (h1 : v < 16777216) (c0 : 0 ≤ c) (c1 : c < 256) : bits .or .u64 (v * 256) c = v * 256 + c :=
  bits_join .u64 64 (by decide) wraps64u 8 (v * 256) c (by omega) (by omega) (by omega) c0 (by omega) (by omega)

/-- What a reader that was read answers. -/
def TkF (q k : Nat) (l : List (BitVec 8)) (w : World) (e : Ending) (w' : World) : Prop :=
  ∃ v', e = .returned (.int .i64 (be (l.take k))) ∧ w'.heap[q]? = some (.cells #[v', .bool true] 332 (0, 0)) ∧ RowAt w' v' (l.drop k) ∧ Keeps [q] w w'

set_option maxHeartbeats 1600000 in
set_option maxRecDepth 100000 in
theorem rtake_ok {q k : Nat} {z : Int} {v : Value} {l : List (BitVec 8)} {w : World} (hq : w.heap[q]? = some (.cells #[v, .bool true] 332 (0, 0))) (hr : RowAt w v l) (hz : z = (k : Int)) (hk1 : 1 ≤ k) (hk : k ≤ l.length) (hk4 : k ≤ 4) (hl : l.length ≤ 1000) :
    Calls Tryz.prog 152 #[.pointer (some ⟨q, 0, none⟩), .int .i64 z] w (TkF q k l w) := by
  subst hz
  obtain ⟨A, c, rfl, hA, hs, hlc, h5⟩ := hr.ex
  obtain ⟨x0, hx0⟩ : ∃ x, l[0]? = some x := ⟨_, List.getElem?_eq_getElem (by omega)⟩
  obtain ⟨a, ha, _⟩ := hA 0 x0 hx0
  obtain ⟨g, o, cs, rfl, hg⟩ := h5 a ha
  subst ha
  obtain ⟨p0, p0'⟩ := cell_at hq (p := 0) rfl
  have p1 := (cell_at hq (p := 1) rfl).1
  obtain ⟨N, hN⟩ : ∃ N, N = l.length := ⟨_, rfl⟩
  rw [← hN] at hr p0 hlc hk hl
  have d1 : decide (N < k) = false := decide_eq_false (by omega)
  have d2 : decide ((N : Int) < k) = false := decide_eq_false (by omega)
  have HQ := Go.Lib.hid hq
  have HR := Go.Lib.hid hr
  have HA := Go.Lib.hid hA
  have HN := Go.Lib.hid hN
  clear hq hr hA hs h5 hx0 hg hN
  go_enter Tryz.func152, Tryz.ntmps152
  go_wp2_with fail
  go_loopw [5, 32] (fun s5 sj wx => ∃ j : Nat, j ≤ k ∧ sj = .int .i64 j ∧ s5 = .int .u64 (be (l.take j)) ∧ wx = w) (fun _ sj _ => k - (intOf sj).toNat)
  case atStart => exact ⟨0, by omega, rfl, rfl, rfl⟩
  case round =>
    obtain ⟨j, hj, rfl, rfl, rfl⟩ := hrel
    by_cases hjk : j < k
    · obtain ⟨x, hx⟩ : ∃ x, l[j]? = some x := ⟨_, List.getElem?_eq_getElem (by have := HN.out; omega)⟩
      obtain ⟨a, ha, hc⟩ := HA.out j x hx
      obtain rfl := Option.some.inj ha
      rw [Addr.add_mid] at hc
      have hxl := x.isLt
      have HB := Go.Lib.hid (be_take hx)
      have hbl := be_take_lt (l := l) (j := j) (by omega)
      obtain ⟨V, hV⟩ : ∃ V, V = be (l.take j) := ⟨_, rfl⟩
      rw [← hV] at HB hbl ⊢
      have f1 : bits .or .u64 ((V : Int) * 256) (x.toNat : Int) = (V : Int) * 256 + x.toNat := or64 V x.toNat (by omega) (by omega) (by omega) (by omega)
      have HF := Go.Lib.hid f1
      clear hV ha hx
      go_wp2_with fail
      go_roundw
      case rel => exact ⟨j + 1, by omega, by go_num, by rw [HB.out]; push_cast; rfl, trivial⟩
      case measure => simp [intOf]; omega
    · obtain rfl : j = k := by omega
      have hbl := be_lt (l.take j)
      have hbl2 : be (l.take j) < 4294967296 := by
        have h1 : (l.take j).length ≤ j := List.length_take_le _ _
        have h2 : 256 ^ (l.take j).length ≤ 256 ^ 4 := Nat.pow_le_pow_right (by omega) (by omega)
        have h3 : 256 ^ 4 = 4294967296 := rfl
        omega
      obtain ⟨V, hV⟩ : ∃ V, V = be (l.take j) := ⟨_, rfl⟩
      rw [← hV] at hbl2 ⊢
      have HV := Go.Lib.hid hV
      clear hV hbl
      have HCUT := Go.Lib.hid (HR.out.cut hk)
      have hq : Hid (∀ x ∈ [q], ∀ cs t fr, wr.heap[x]? = some (.cells cs t fr) → t ≠ 5) := Go.Lib.hid (fun x hx cs t fr h => by
        rw [List.mem_singleton.1 hx, HQ.out] at h
        simp only [Option.some.injEq, Obj.cells.injEq] at h
        rw [← h.2.1]; decide)
      by_cases hck : c = j
      · have HU := Go.Lib.hid (show RowAt wr (.slice (some ⟨g, o, none⟩) (N - j) 0) (l.drop j) by
          have := HCUT.out; rw [if_pos hck, hck, Nat.sub_self] at this; exact this)
        clear HCUT
        go_wp2_with fail
        go_ret
        refine ⟨.slice (some ⟨g, o, none⟩) (N - j) 0, by rw [← HV.out]; rfl, heap_setCell_self HQ.out, ?_, (Keeps.refl _ _).setCell (by simp) _⟩
        exact HU.out.keeps (S := [q]) ((Keeps.refl _ _).setCell (by simp) _) hq.out
      · have HU := Go.Lib.hid (show RowAt wr (.slice (some ⟨g, o + j, none⟩) (N - j) (c - j)) (l.drop j) by
          have := HCUT.out; rw [if_neg hck] at this; exact this)
        clear HCUT
        go_wp2_with fail
        go_ret
        refine ⟨.slice (some ⟨g, o + j, none⟩) (N - j) (c - j), by rw [← HV.out]; rfl, heap_setCell_self HQ.out, ?_, (Keeps.refl _ _).setCell (by simp) _⟩
        exact HU.out.keeps (S := [q]) ((Keeps.refl _ _).setCell (by simp) _) hq.out
end Go.Proofs.YtkhalpnonijogaaGreat
