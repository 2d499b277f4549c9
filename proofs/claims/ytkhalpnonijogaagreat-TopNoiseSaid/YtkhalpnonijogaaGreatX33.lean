/- hub.frame: the walk. No condition but the hub's. | hub.Step: the walk. No condition but the hub's. | The law's frames, with their noise. Plain facts. No condition. -/
import Derived.Test.YtkhalpnonijogaaGreatX30
import Derived.Test.YtkhalpnonijogaaGreatX31
import Derived.Test.YtkhalpnonijogaaGreatX32
namespace Go.Proofs.YtkhalpnonijogaaGreat
open Go.RowKit

/-- The hub's link, and the hub behind a call that turns it alone. -/
theorem HubIs.link {own : Nat → Prop} {h nx mr : Nat} {L : Lft} {last : Option Nat} {w : World} (H : HubIs own h nx mr L last w) :
    ∃ k arr, w.heap[h]? = some (.cells arr 94 (0, 0)) ∧ arr[51]? = some (.pointer (some ⟨k, 0, none⟩)) ∧ LinkIs own w k nx L last ∧
      ∀ w' nx' L' last', Keeps [k] w w' → LinkIs own w' k nx' L' last' → HubIs own h nx' mr L' last' w' ∧ Kx own [150] w w' := by
  obtain ⟨arr, f, r, k, t, ws, cnt, g1, g2, g3, g4, g5, g6, g7, g8, g9, g10, g11, g12⟩ := H.ex
  obtain ⟨left, bad, lv, l1, l2, l3⟩ := g11.ex
  have ho5 := only_of l1
  refine ⟨k, arr, g1, g5, g11, fun w' nx' L' last' hk hl => ⟨⟨⟨arr, f, r, k, t, ws, cnt, hk.heap g1 (fun hm => by have := ho5 h hm _ _ _ g1; simp at this), g2, g3, g4, g5, g6, g7, g8, hk.heap g9 (fun hm => by have := ho5 f hm _ _ _ g9; simp at this), g10.keeps hk (fun x hx cs u fr hc => by rw [ho5 x hx cs u fr hc]; decide), hl, g12.keeps hk (fun x hx => by rw [List.mem_singleton.1 hx]; exact ⟨_, _, _, l1, by decide, by decide⟩)⟩, H.own⟩, .of_keeps hk (fun x hx => ?_)⟩⟩
  rw [List.mem_singleton.1 hx]
  exact ⟨g11.own, .inl ⟨_, _, _, by simp, l1⟩⟩
theorem again_ok {own : Nat → Prop} {k0 nx s : Nat} {kd : Int} {L : Lft} {last : Option Nat} {v : Value} {w : World} (h : LinkIs own w k0 nx L last) (hl : last ≠ some s) :
    Calls Tryz.prog 57 #[.pointer (some ⟨k0, 0, none⟩), .agg #[.int .i64 s, .int .i64 kd, v]] w fun e w' => e = .returned (.tuple #[.slice none 0 0, .bool false]) ∧ Keeps [] w w' := by
  obtain ⟨left, bad, lv, l1, l2, l3⟩ := h.ex
  cases last with
  | none => obtain rfl := l3; exact again_nil l1
  | some s' =>
    obtain ⟨q, c1, c2, c3, rfl, hq⟩ := l3
    exact again_ne l1 hq (by simp at hl; omega)
def TFr : List Nat := [94, 150, 210, 323]
set_option maxHeartbeats 6400000 in
set_option maxRecDepth 100000 in
theorem frame_ok {own : Nat → Prop} {h nx mr nx' mr' B : Nat} {L : Lft} {last : Option Nat} {w : World} {f : Frm} {fs : List Frm} {u : Value} (H : HubIs own h nx mr L last w) (hl : last ≠ some f.seq.toNat) (hp : f.pay.length ≤ 256) (hu : PayOf B f w u) (hmr : mr' ≤ 500) (hfs : (fs.flatMap Frm.enc).length ≤ 1000)
    (hA : ∀ W, Keeps [] w W → Calls Tryz.prog 58 #[.pointer (some ⟨h, 0, none⟩), .agg #[.int .i64 f.seq.toNat, .int .i64 f.kind.toNat, u]] W (AnsF own h nx' mr' L last fs [150, 210, 323] W)) :
    Calls Tryz.prog 31 #[.pointer (some ⟨h, 0, none⟩), .agg #[.int .i64 f.seq.toNat, .int .i64 f.kind.toNat, u]] w (AnsF own h nx' mr' L (some f.seq.toNat) fs TFr w) := by
  obtain ⟨A, c, rfl, hu5⟩ := hu
  obtain ⟨k, arr, hh, h51, hk0, _⟩ := H.link
  have HL := Go.Lib.hid hl
  have HU := Go.Lib.hid hu5
  have HAA := Go.Lib.hid hA
  have HM := Go.Lib.hid hmr
  have HF := Go.Lib.hid hfs
  have HP := Go.Lib.hid hp
  have HH := Go.Lib.hid H
  go_enter Tryz.func31, Tryz.ntmps31
  go_upto_region 1 with fail
  obtain ⟨b, hb⟩ : ∃ b, b = w.heap.size := ⟨_, rfl⟩
  obtain ⟨w0, hw0⟩ : ∃ w0, w0 = w.alloc (.cells #[.int .i64 f.seq.toNat, .int .i64 f.kind.toNat, .slice A f.pay.length c] 63) := ⟨_, rfl⟩
  rw [← hw0, ← hb]
  have hk0' : Keeps [] w w0 := by rw [hw0]; exact (Keeps.refl _ _).alloc _
  have hb0 : w0.heap[b]? = some (.cells #[.int .i64 f.seq.toNat, .int .i64 f.kind.toNat, .slice A f.pay.length c] 63 (0, 0)) := by rw [hw0, hb]; exact heap_alloc_new _ _
  have KC : Hid (∀ W, Keeps [] w0 W → W.cell? ⟨h, 51, none⟩ = some (.pointer (some ⟨k, 0, none⟩)) ∧ W.cell? ⟨b, 0, none⟩ = some (.int .i64 f.seq.toNat) ∧ W.cell? ⟨b, 1, none⟩ = some (.int .i64 f.kind.toNat) ∧ W.cell? ⟨b, 2, none⟩ = some (.slice A f.pay.length c)) := Go.Lib.hid (fun W hW => by
    obtain ⟨x0, x1, x2⟩ := cells3 (hW.heap hb0 (by simp))
    exact ⟨(cell_at (hW.heap (hk0'.heap hh (by simp)) (by simp)) h51).1, x0, x1, x2.1⟩)
  have HG := Go.Lib.hid (fun W (hW : Keeps [] w0 W) => again_ok (kd := f.kind.toNat) (v := .slice A f.pay.length c) (hk0.keeps (hk0'.trans hW) (by simp)) hl)
  have HK0 := Go.Lib.hid hk0'
  have HB0 := Go.Lib.hid hb0
  clear hw0 hb hk0' hb0 hh h51 hk0 hl hu5 hA hmr hfs hp H
  go_region_held3 (fun W => W.cell? ⟨h, 51, none⟩ = some (.pointer (some ⟨k, 0, none⟩)) ∧ W.cell? ⟨b, 0, none⟩ = some (.int .i64 f.seq.toNat) ∧ W.cell? ⟨b, 1, none⟩ = some (.int .i64 f.kind.toNat) ∧ W.cell? ⟨b, 2, none⟩ = some (.slice A f.pay.length c))
    (first | exact KC.out _ ((Keeps.refl [] w0).drew) | exact KC.out _ (Keeps.refl [] w0) | exact KC.out _ HK1.out | fail)
    ((go_at_call 57; (refine (HG.out _ ((Keeps.refl _ _).drew)).mono ?_; rintro e w1 ⟨rfl, hk1⟩); have HK1 := Go.Lib.hid (((Keeps.refl [] w0).drew).trans hk1); clear hk1))
  have hb1 := HK1.out.heap HB0.out (by simp)
  obtain ⟨p0, p1, p2, _⟩ := cells3 hb1
  have HB1 := Go.Lib.hid hb1
  have HKW1 := Go.Lib.hid (HK0.out.trans HK1.out)
  clear hb1
  go_wp2_with fail
  refine (HAA.out _ HKW1.out).mono ?_
  rintro e w2 ⟨g2, v2, rfl, hg2, ho2, hh2, hx2⟩
  obtain ⟨A2, c2, rfl⟩ := own_form ho2
  obtain ⟨k2, arr2, hr2, h51b, hl2, hq2⟩ := hh2.link
  have HB2 := Go.Lib.hid (hx2.cells HB1.out (by decide))
  have hbk : b ∉ [k2] := by rw [List.mem_singleton]; obtain ⟨_, _, _, l1, _⟩ := hl2.ex; exact block_ne HB2.out l1 (by simp)
  have hhk : h ∉ [k2] := by rw [List.mem_singleton]; obtain ⟨_, _, _, l1, _⟩ := hl2.ex; exact block_ne hr2 l1 (by simp)
  have KD : Hid (∀ W, Keeps [k2] w2 W → W.cell? ⟨h, 51, none⟩ = some (.pointer (some ⟨k2, 0, none⟩)) ∧ W.cell? ⟨b, 0, none⟩ = some (.int .i64 f.seq.toNat) ∧ W.cell? ⟨b, 1, none⟩ = some (.int .i64 f.kind.toNat) ∧ W.cell? ⟨b, 2, none⟩ = some (.slice A f.pay.length c)) := Go.Lib.hid (fun W hW => by
    obtain ⟨x0, x1, x2⟩ := cells3 (hW.heap HB2.out hbk)
    exact ⟨(cell_at (hW.heap hr2 hhk) h51b).1, x0, x1, x2.1⟩)
  have HS := Go.Lib.hid (fun W (hW : Keeps [] w2 W) => asked_ok (hl2.keeps hW (by simp)) ((Byts.of_own ((hx2.own5 (own_new HU.out HKW1.out) (by decide)))).keeps0 hW) (src_of_own HU.out) HP.out ((Byts.of_own ho2).keeps0 hW) (by8_len _ ▸ rfl) (src_of_own ho2) HF.out)
  have HN2 := Go.Lib.hid hq2
  have HO2 := Go.Lib.hid ho2
  have HX2 := Go.Lib.hid hx2
  have HR2 := Go.Lib.hid (And.intro hh2 hg2)
  clear ho2 hr2 h51b hl2 hx2 hh2 hg2 hq2 p0 p1 p2 hbk hhk
  obtain ⟨n2, hn2⟩ : ∃ n2, n2 = (fs.flatMap Frm.enc).length := ⟨_, rfl⟩
  rw [← hn2]
  rw [← hn2] at HS
  have HN := Go.Lib.hid hn2
  clear hn2
  go_upto_region 5 with fail
  go_region_held3 (fun W => W.cell? ⟨h, 51, none⟩ = some (.pointer (some ⟨k2, 0, none⟩)) ∧ W.cell? ⟨b, 0, none⟩ = some (.int .i64 f.seq.toNat) ∧ W.cell? ⟨b, 1, none⟩ = some (.int .i64 f.kind.toNat) ∧ W.cell? ⟨b, 2, none⟩ = some (.slice A f.pay.length c))
    (first | exact KD.out _ ((Keeps.refl [k2] w2).drew) | exact KD.out _ HK3.out | fail)
    ((go_at_call 59; (refine (HS.out _ ((Keeps.refl [] w2).drew)).mono ?_; rintro e w3 ⟨⟨v3, rfl⟩, hl3, hk3⟩); have HK3 := Go.Lib.hid (((Keeps.refl [k2] w2).drew).trans hk3); have HL3 := Go.Lib.hid hl3; clear hk3 hl3))
  obtain ⟨hh3, hx3⟩ := HN2.out _ _ _ _ HK3.out HL3.out
  have HST := Go.Lib.hid (settle_ok hh3 HM.out)
  have HX3 := Go.Lib.hid hx3
  clear hh3 hx3
  go_wp2_with fail
  refine HST.out.mono ?_
  rintro e w4 ⟨⟨v4, rfl⟩, hh4, hx4⟩
  have HE : Hid (AnsF own h nx' mr' L (some f.seq.toNat) fs TFr w (.returned (.slice A2 n2 c2)) w4) := Go.Lib.hid (by
    have ho4 := hx4.own5 (HX3.out.own5 HO2.out (by decide)) (by decide)
    exact ⟨g2, _, rfl, Nat.le_trans HKW1.out.size HR2.out.2, by rw [HN.out]; exact ho4, hh4, (((Kx.new HKW1.out).trans (HX2.out.mono (by simp [TFr]))).trans (HX3.out.mono (by simp [TFr]))).trans (hx4.mono (by simp [TFr]))⟩)
  clear hh4 hx4 HST
  go_wp2_with fail
  go_ret
  exact HE.out
end Go.Proofs.YtkhalpnonijogaaGreat
namespace Go.Proofs.YtkhalpnonijogaaGreat
open Go.RowKit

/-- A grown row that is not the link's own leaves the hub. -/
theorem HubIs.grow {own : Nat → Prop} {h nx mr : Nat} {L : Lft} {last : Option Nat} {w w' : World} {S : List Nat} (H : HubIs own h nx mr L last w) (hk : Keeps S w w') (hS : ∀ x ∈ S, (∃ cs fr, w.heap[x]? = some (.cells cs 5 fr)) ∧ L.ub ≤ x) : HubIs own h nx mr L last w' := by
  obtain ⟨arr, f, r, k, t, ws, cnt, g1, g2, g3, g4, g5, g6, g7, g8, g9, g10, g11, g12⟩ := H.ex
  obtain ⟨left, bad, lv, l1, l2, l3⟩ := g11.ex
  have ht : ∀ x ∈ S, ∀ cs t fr, w.heap[x]? = some (.cells cs t fr) → t = 5 := fun x hx cs t fr hc => by
    obtain ⟨⟨_, _, e⟩, _⟩ := hS x hx
    rw [e] at hc
    simp only [Option.some.injEq, Obj.cells.injEq] at hc
    exact hc.2.1.symm
  refine ⟨⟨arr, f, r, k, t, ws, cnt, hk.heap g1 (fun hm => by have := ht _ hm _ _ _ g1; simp at this), g2, g3, g4, g5, g6, g7, g8, hk.heap g9 (fun hm => by have := ht _ hm _ _ _ g9; simp at this), g10.keeps hk (fun x hx cs u fr hc => by rw [ht x hx cs u fr hc]; decide), ⟨⟨left, bad, lv, hk.heap l1 (fun hm => by have := ht _ hm _ _ _ l1; simp at this), ⟨?_, l2.2⟩, l3.keeps hk (fun x hx cs u fr hc => by rw [ht x hx cs u fr hc]; decide)⟩, g11.own⟩, g12.keeps hk (fun x hx => ?_)⟩, H.own⟩
  · rcases l2.1.2 with ⟨e1, e2⟩ | ⟨g, cap, cur, e1, e2, e3, e4⟩
    · exact ⟨l2.1.1, .inl ⟨e1, e2⟩⟩
    · have hg : g ∉ S := fun hm => by
        have a := (hS g hm).2
        have b := l2.2 g (by rw [e1]; rfl)
        omega
      exact ⟨l2.1.1, .inr ⟨g, cap, cur, e1, e2, hk.heap e3 hg, e4⟩⟩
  · obtain ⟨⟨cs, fr, e⟩, _⟩ := hS x hx
    exact ⟨cs, 5, fr, e, by decide, by decide⟩
theorem FrmsIs.kx {own : Nat → Prop} {T : List Nat} {B : Nat} {F : List Frm} {w w' : World} {v : Value} (h : FrmsIs B F w v) (hk : Kx own T w w') (h1 : 63 ∉ T) (h2 : 5 ∉ T) : FrmsIs B F w' v := by
  obtain ⟨p, q1, q2, q3⟩ := h
  refine ⟨p, q1, hk.own5 q2 h1, fun i f u hf hu => ?_⟩
  obtain ⟨A, c, h4, h5⟩ := q3 i f u hf hu
  exact ⟨A, c, h4, hk.own5 h5 h2⟩
theorem HubIs.up {own : Nat → Prop} {h nx mr mr' : Nat} {L : Lft} {last : Option Nat} {w : World} (H : HubIs own h nx mr L last w) (hm : mr ≤ mr') : HubIs own h nx mr' L last w := by
  obtain ⟨arr, f, r, k, t, ws, cnt, g1, g2, g3, g4, g5, g6, g7, g8, g9, g10, g11, g12⟩ := H.ex
  exact ⟨⟨arr, f, r, k, t, ws, cnt, g1, g2, g3, g4, g5, g6, g7, g8, g9, g10.up hm, g11, g12⟩, H.own⟩
/-- A request of the noise law. -/
def Req (f : Frm) : Prop := (∃ x s, Sb.Ok x ∧ f = x.frm s) ∨ f = statF
/-- What one request is answered with. -/
def ans1 (f : Frm) (nx : Nat) : Frm := if f.kind = 6#8 then outF nx 9 (eights 5) else outF nx 7 [0#8]
def ansL : List Frm → Nat → List Frm
  | [], _ => []
  | f :: F, nx => ans1 f nx :: ansL F (nx + 1)
theorem ansL_snoc (F : List Frm) (f : Frm) (nx : Nat) : ansL (F ++ [f]) nx = ansL F nx ++ [ans1 f (nx + F.length)] := by
  induction F generalizing nx with
  | nil => rfl
  | cons g F ih => simp only [List.cons_append, ansL, ih, List.length_cons]; rw [show nx + 1 + F.length = nx + (F.length + 1) by omega]
def lastOf (last : Option Nat) (F : List Frm) : Option Nat := F.foldl (fun _ f => some f.seq.toNat) last
theorem lastOf_snoc (last : Option Nat) (F : List Frm) (f : Frm) : lastOf last (F ++ [f]) = some f.seq.toNat := by simp [lastOf]
/-- No request bears its forerunner's number. -/
def Turns (last : Option Nat) (F : List Frm) : Prop := ∀ (i : Nat) (f : Frm), F[i]? = some f → lastOf last (F.take i) ≠ some f.seq.toNat
theorem ans1_len (f : Frm) (nx : Nat) : (ans1 f nx).enc.length ≤ 12 := by
  unfold ans1
  split <;> simp [Frm.enc_len, outF, eights]
theorem ansL_len (F : List Frm) (nx : Nat) : ((ansL F nx).flatMap Frm.enc).length ≤ 12 * F.length := by
  induction F generalizing nx with
  | nil => simp [ansL]
  | cons f F ih =>
    have := ih (nx + 1)
    have := ans1_len f nx
    simp only [ansL, List.flatMap_cons, List.length_append, List.length_cons]
    omega
theorem req_frame {own : Nat → Prop} {h nx mr B : Nat} {L : Lft} {last : Option Nat} {w : World} {f : Frm} {u : Value} (H : HubIs own h nx mr L last w) (hup : ∀ k, w.heap.size ≤ k → own k) (hf : Req f) (hl : last ≠ some f.seq.toNat) (hu : PayOf B f w u) (hmr : mr < 500) (hnx : nx ≤ 200) :
    Calls Tryz.prog 31 #[.pointer (some ⟨h, 0, none⟩), .agg #[.int .i64 f.seq.toNat, .int .i64 f.kind.toNat, u]] w (AnsF own h (nx + 1) (mr + 1) L (some f.seq.toNat) [ans1 f nx] TFr w) := by
  have hlen : ([ans1 f nx].flatMap Frm.enc).length ≤ 1000 := by
    have := ans1_len f nx
    simp only [List.flatMap_cons, List.flatMap_nil, List.append_nil]
    omega
  have hru : ∀ W, Keeps [] w W → RowAt W u f.pay := fun W hW => by
    obtain ⟨A, c, rfl, ho⟩ := hu
    have := own_new ho hW
    exact RowAt.of_own this
  rcases hf with ⟨x, s, hx, rfl⟩ | rfl
  · refine frame_ok H hl (by simp [Sb.frm, Sb.pay]) hu (by omega) hlen fun W hW => ?_
    exact (ans_sub (H.new hW) (fun k hk => hup k (Nat.le_trans hW.size hk)) (by omega) hnx hx (hru W hW))
  · refine frame_ok H hl (by simp [statF]) hu (by omega) hlen fun W hW => ?_
    refine (ans_stat (s := 1) (H.new hW) hnx (hru W hW)).mono fun e w' hq => ?_
    obtain ⟨g, v, h1, h2, h3, h4, h5⟩ := hq
    exact ⟨g, v, h1, h2, h3, h4.up (by omega), h5.mono (by simp)⟩
end Go.Proofs.YtkhalpnonijogaaGreat
namespace Go.Proofs.YtkhalpnonijogaaGreat
open Go.RowKit

/-- A subscription as it comes in. -/
structure Sx where
  c : Int
  s : Int
  p : Int
  l : Int
def Sx.may (x : Sx) : Bool := maySub x.c x.s x.p x.l
def Sx.sb (x : Sx) : Sb := ⟨x.c.toNat, x.s.toNat, x.p.toNat, x.l.toNat⟩
theorem inB_true {n a b : Int} (h : inB n a b = true) : a ≤ n ∧ n ≤ b := by simpa [inB] using h
theorem Sx.may_ok {x : Sx} (h : x.may = true) : x.sb.Ok ∧ ((x.sb.c : Int) = x.c ∧ (x.sb.s : Int) = x.s ∧ (x.sb.p : Int) = x.p ∧ (x.sb.l : Int) = x.l) := by
  simp only [Sx.may, maySub, Bool.and_eq_true] at h
  obtain ⟨⟨⟨h1, h2⟩, h3⟩, h4⟩ := h
  have := inB_true h1
  have := inB_true h2
  have := inB_true h3
  have := inB_true h4
  refine ⟨⟨?_, ?_, ?_, ?_, ?_, ?_⟩, ?_, ?_, ?_, ?_⟩ <;> simp only [Sx.sb] <;> omega
/-- The noise ahead of frame i: of the bytes from 5 i on, k at most, those that begin no frame. -/
def nz (bs : List (BitVec 8)) (i k : Nat) : List (BitVec 8) := ((bs.drop (5 * i)).take k).filter (· != 0x7e#8)
theorem nz_zero (bs : List (BitVec 8)) (i : Nat) : nz bs i 0 = [] := by simp [nz]
theorem nz_end {bs : List (BitVec 8)} {i k : Nat} (hk : k ≤ 5) (h : bs.length ≤ 5 * i + k) : nz bs i 5 = nz bs i k := by
  unfold nz
  rw [List.take_of_length_le (by simp; omega), List.take_of_length_le (by simp; omega)]
theorem nz_succ {bs : List (BitVec 8)} {i k : Nat} {b : BitVec 8} (h : bs[5 * i + k]? = some b) : nz bs i (k + 1) = nz bs i k ++ (if b = 0x7e#8 then [] else [b]) := by
  unfold nz
  have : (bs.drop (5 * i))[k]? = some b := by rw [List.getElem?_drop]; exact h
  rw [List.take_add_one, this, List.filter_append]
  by_cases hb : b = 0x7e#8
  · simp [hb]
  · simp [hb]
def item (bs : List (BitVec 8)) (ss : List Sx) (i : Nat) : List (List (BitVec 8) × Frm) := match ss[i]? with
  | some x => if x.may then [(nz bs i 5, x.sb.frm i)] else []
  | none => []
def items (bs : List (BitVec 8)) (ss : List Sx) : Nat → List (List (BitVec 8) × Frm)
  | 0 => []
  | i + 1 => items bs ss i ++ item bs ss i
/-- The frames without their noise. -/
def cleaned (l : List (List (BitVec 8) × Frm)) : List (List (BitVec 8) × Frm) := l.map fun x => ([], x.2)
theorem cleaned_frames (l : List (List (BitVec 8) × Frm)) : (cleaned l).map (·.2) = l.map (·.2) := by simp [cleaned]
theorem cleaned_append (a b : List (List (BitVec 8) × Frm)) : cleaned (a ++ b) = cleaned a ++ cleaned b := by simp [cleaned]
theorem noisy_append (a b : List (List (BitVec 8) × Frm)) : noisy (a ++ b) = noisy a ++ noisy b := by simp [noisy]
theorem item_mem {bs : List (BitVec 8)} {ss : List Sx} {i : Nat} {y : List (BitVec 8) × Frm} (h : y ∈ item bs ss i) : ∃ x : Sx, x.may = true ∧ y = (nz bs i 5, x.sb.frm i) := by
  unfold item at h
  split at h
  · rename_i x _
    split at h
    · rename_i hx
      exact ⟨x, hx, by simpa using h⟩
    · simp at h
  · simp at h
theorem items_mem {bs : List (BitVec 8)} {ss : List Sx} {i : Nat} {y : List (BitVec 8) × Frm} (h : y ∈ items bs ss i) : ∃ (j : Nat) (x : Sx), j < i ∧ x.may = true ∧ y = (nz bs j 5, x.sb.frm j) := by
  induction i with
  | zero => simp [items] at h
  | succ i ih =>
    simp only [items, List.mem_append] at h
    rcases h with h | h
    · obtain ⟨j, x, h1, h2⟩ := ih h
      exact ⟨j, x, by omega, h2⟩
    · obtain ⟨x, h1, h2⟩ := item_mem h
      exact ⟨i, x, by omega, h1, h2⟩
theorem item_len (bs : List (BitVec 8)) (ss : List Sx) (i : Nat) : (item bs ss i).length ≤ 1 := by
  unfold item
  split
  · split <;> simp
  · simp
theorem items_len (bs : List (BitVec 8)) (ss : List Sx) (i : Nat) : (items bs ss i).length ≤ i := by
  induction i with
  | zero => simp [items]
  | succ i ih =>
    have := item_len bs ss i
    simp only [items, List.length_append]
    omega
theorem items_quiet (bs : List (BitVec 8)) (ss : List Sx) (i : Nat) : Quiet (items bs ss i) := by
  intro y hy
  obtain ⟨j, x, _, hx, rfl⟩ := items_mem hy
  refine ⟨fun c hc => ?_, Sb.frm_ok _ _⟩
  have := (List.mem_filter.1 hc).2
  simpa using this
theorem cleaned_quiet {l : List (List (BitVec 8) × Frm)} (h : Quiet l) : Quiet (cleaned l) := by
  intro y hy
  obtain ⟨x, hx, rfl⟩ := List.mem_map.1 hy
  exact ⟨fun c hc => by simp at hc, (h x hx).2⟩
theorem items_req (bs : List (BitVec 8)) (ss : List Sx) (i : Nat) : ∀ f ∈ (items bs ss i).map (·.2), Req f := by
  intro f hf
  obtain ⟨y, hy, rfl⟩ := List.mem_map.1 hf
  obtain ⟨j, x, _, hx, rfl⟩ := items_mem hy
  exact .inl ⟨x.sb, j, (Sx.may_ok hx).1, rfl⟩
theorem frm_seq {x : Sb} {j : Nat} (hj : j < 256) : (x.frm j).seq.toNat = j := by simp [Sb.frm]; omega
theorem items_inc (bs : List (BitVec 8)) (ss : List Sx) (i : Nat) (hi : i ≤ 200) : ((items bs ss i).map (·.2)).Pairwise (fun f g => f.seq.toNat < g.seq.toNat) := by
  induction i with
  | zero => simp [items]
  | succ i ih =>
    simp only [items, List.map_append]
    refine List.pairwise_append.2 ⟨ih (by omega), ?_, fun f hf g hg => ?_⟩
    · have hl := item_len bs ss i
      match h : item bs ss i with
      | [] => simp
      | [y] => simp
      | y :: z :: l => rw [h] at hl; simp at hl
    · obtain ⟨y, hy, rfl⟩ := List.mem_map.1 hf
      obtain ⟨z, hz, rfl⟩ := List.mem_map.1 hg
      obtain ⟨j, x, hj, _, rfl⟩ := items_mem hy
      obtain ⟨x', _, rfl⟩ := item_mem hz
      show (x.sb.frm j).seq.toNat < (x'.sb.frm i).seq.toNat
      rw [frm_seq (by omega), frm_seq (by omega)]
      exact hj
theorem lastOf_none (F : List Frm) : lastOf none F = none ∨ ∃ g ∈ F, lastOf none F = some g.seq.toNat := by
  rcases List.eq_nil_or_concat F with rfl | ⟨L, f, rfl⟩
  · exact .inl rfl
  · exact .inr ⟨f, by simp, by rw [List.concat_eq_append]; exact lastOf_snoc _ _ _⟩
theorem turns_inc {F : List Frm} (h : F.Pairwise (fun f g => f.seq.toNat < g.seq.toNat)) : Turns none F := by
  intro i f hf
  rcases lastOf_none (F.take i) with e | ⟨g, hg, e⟩
  · rw [e]; simp
  · rw [e]
    have hs : F = F.take i ++ F.drop i := (List.take_append_drop i F).symm
    rw [hs] at h
    have hfd : f ∈ F.drop i := List.mem_iff_getElem?.2 ⟨0, by rw [List.getElem?_drop]; exact hf⟩
    have := (List.pairwise_append.1 h).2.2 g hg f hfd
    intro e2
    have := Option.some.inj e2
    omega
theorem lastOf_append (last : Option Nat) (F G : List Frm) : lastOf last (F ++ G) = lastOf (lastOf last F) G := by simp [lastOf]
theorem turns_left {last : Option Nat} {F G : List Frm} (h : Turns last (F ++ G)) : Turns last F := by
  intro i f hf
  have hi : i < F.length := (List.getElem?_eq_some_iff.1 hf).1
  have := h i f (by rw [List.getElem?_append_left hi]; exact hf)
  rwa [List.take_append_of_le_length (by omega)] at this
theorem turns_right {last : Option Nat} {F G : List Frm} (h : Turns last (F ++ G)) : Turns (lastOf last F) G := by
  intro i f hf
  have := h (F.length + i) f (by rw [List.getElem?_append_right (by omega), Nat.add_sub_cancel_left]; exact hf)
  rwa [List.take_append, List.take_of_length_le (by omega), Nat.add_sub_cancel_left, lastOf_append] at this
theorem ansL_append (F G : List Frm) (nx : Nat) : ansL (F ++ G) nx = ansL F nx ++ ansL G (nx + F.length) := by
  induction F generalizing nx with
  | nil => simp [ansL]
  | cons f F ih => simp only [List.cons_append, ansL, ih, List.length_cons]; rw [show nx + 1 + F.length = nx + (F.length + 1) by omega]
theorem nz_len (bs : List (BitVec 8)) (i k : Nat) : (nz bs i k).length ≤ k := by
  have h1 := List.length_filter_le (· != 0x7e#8) ((bs.drop (5 * i)).take k)
  have h2 := List.length_take_le k (bs.drop (5 * i))
  unfold nz
  omega
theorem item_noisy_len (bs : List (BitVec 8)) (ss : List Sx) (i : Nat) : (noisy (item bs ss i)).length ≤ 30 ∧ (noisy (cleaned (item bs ss i))).length ≤ 30 := by
  unfold item
  split
  · rename_i x _
    split
    · have := nz_len bs i 5
      have h2 : (x.sb.frm i).pay.length ≤ 18 := by simp [Sb.frm, Sb.pay]
      simp only [noisy, cleaned, List.map_cons, List.map_nil, List.flatMap_cons, List.flatMap_nil, List.length_append, List.length_nil, Frm.enc_len]
      omega
    · simp [noisy, cleaned]
  · simp [noisy, cleaned]
theorem items_noisy_len (bs : List (BitVec 8)) (ss : List Sx) (i : Nat) : (noisy (items bs ss i)).length ≤ 30 * i ∧ (noisy (cleaned (items bs ss i))).length ≤ 30 * i := by
  induction i with
  | zero => simp [items, noisy, cleaned]
  | succ i ih =>
    have := item_noisy_len bs ss i
    simp only [items, noisy_append, cleaned_append, List.length_append]
    omega
end Go.Proofs.YtkhalpnonijogaaGreat
