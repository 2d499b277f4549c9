/- hub.answer of a subscription. No condition but the hub's. | hub.answer of a subscription: the walk. No condition but the hub's. -/
import Derived.Test.YtkhalpnonijogaaGreatX28
import Derived.Test.YtkhalpnonijogaaGreatX21
import Derived.Deep.RegionHeld3
namespace Go.Proofs.YtkhalpnonijogaaGreat
open Go.RowKit

/-- The hub behind a call that adds a subscription. -/
theorem HubIs.add {own : Nat → Prop} {h nx mr f r k t m : Nat} {L : Lft} {last : Option Nat} {w w' : World} {arr : Array Value} {rows ws cnt : Value} {Lr : List Int} {e : Ending} (hown : own h) (hup : ∀ k, w.heap.size ≤ k → own k)
    (g1 : w.heap[h]? = some (.cells arr 94 (0, 0))) (g2 : arr.size = 54) (g3 : arr[1]? = some (.pointer (some ⟨f, 0, none⟩))) (g4 : arr[49]? = some (.pointer (some ⟨r, 0, none⟩)))
    (g5 : arr[51]? = some (.pointer (some ⟨k, 0, none⟩))) (g6 : arr[52]? = some (.pointer (some ⟨t, 0, none⟩))) (g7 : arr[53]? = some (.int .i64 0)) (g8 : DrvsIs arr)
    (g9 : w.heap[f]? = some (.cells #[ws, cnt, .int .i64 (-1)] 126 (0, 0))) (hro : own r) (hrr : w.heap[r]? = some (.cells #[rows, .func (.func 79) #[] #[]] 210 (0, 0))) (ho : w.ownsRow 0 323 7 rows m (ints Lr)) (hg : ∀ g, rows.ownBlock = some g → own g) (hm : m ≤ mr)
    (g11 : LinkIs own w k nx L last) (g12 : TasksIs own w t) (hf : AddF r m rows w e w') : HubIs own h nx (mr + 1) L last w' ∧ Kx own [210, 323] w w' := by
  obtain ⟨gr, c, m', L', _, hm', hr', ho', hk, hgr⟩ := hf
  have hot := own_type ho
  have hS : ∀ x ∈ r :: rows.ownBlock.toList, own x ∧ ∃ cs u, w.heap[x]? = some (Obj.cells cs u (0, 0)) ∧ (u = 210 ∨ u = 323) := fun x hx => by
    rcases List.mem_cons.1 hx with rfl | hx
    · exact ⟨hro, _, _, hrr, .inl rfl⟩
    · obtain ⟨cs, hc⟩ := hot x hx
      exact ⟨hg x (by simpa using hx), cs, 323, hc, .inr rfl⟩
  have hty : ∀ x ∈ r :: rows.ownBlock.toList, ∀ cs u fr, w.heap[x]? = some (Obj.cells cs u fr) → u = 210 ∨ u = 323 := fun x hx cs u fr hc => by
    obtain ⟨_, cs', u', hc', h'⟩ := hS x hx
    rw [hc] at hc'
    simp only [Option.some.injEq, Obj.cells.injEq] at hc'
    rw [hc'.2.1]; exact h'
  have hno : ∀ (i : Nat) (cs : Array Value) (u : TypeId) (fr : Nat × Nat), w.heap[i]? = some (Obj.cells cs u fr) → u ≠ 210 → u ≠ 323 → i ∉ r :: rows.ownBlock.toList := fun i cs u fr hi h1 h2 hm => by
    rcases hty i hm _ _ _ hi with e | e
    · exact h1 e
    · exact h2 e
  refine ⟨⟨⟨arr, f, r, k, t, ws, cnt, hk.heap g1 (hno _ _ _ _ g1 (by decide) (by decide)), g2, g3, g4, g5, g6, g7, g8, hk.heap g9 (hno _ _ _ _ g9 (by decide) (by decide)),
    ⟨⟨_, m', L', by omega, hr', ho', fun g hg' => ?_⟩, hro⟩, g11.keeps hk (fun x hx cs u fr hc => ?_), g12.keeps hk (fun x hx => ?_)⟩, hown⟩, .of_keeps hk (fun x hx => ?_)⟩
  · obtain rfl : gr = g := by simpa [Value.ownBlock] using hg'
    exact hgr.elim (hg gr) (hup gr)
  · rcases hty x hx _ _ _ hc with e | e <;> rw [e] <;> decide
  · obtain ⟨_, cs, u, hc, h'⟩ := hS x hx
    exact ⟨cs, u, _, hc, by rcases h' with e | e <;> rw [e] <;> decide, by rcases h' with e | e <;> rw [e] <;> decide⟩
  · obtain ⟨h1, cs, u, hc, h'⟩ := hS x hx
    exact ⟨h1, .inl ⟨cs, u, _, by rcases h' with e | e <;> rw [e] <;> simp, hc⟩⟩
end Go.Proofs.YtkhalpnonijogaaGreat
namespace Go.Proofs.YtkhalpnonijogaaGreat
open Go.RowKit

/-- The table's Add, for a hub. -/
theorem hadd_ok {own : Nat → Prop} {h nx mr : Nat} {L : Lft} {last : Option Nat} {w : World} {x : Sb} (H : HubIs own h nx mr L last w) (hup : ∀ k, w.heap.size ≤ k → own k) (hmr : mr ≤ 900) (hx : x.Ok) :
    ∃ r, (∃ arr, w.heap[h]? = some (.cells arr 94 (0, 0)) ∧ arr[49]? = some (.pointer (some ⟨r, 0, none⟩))) ∧ Calls Tryz.prog 100 #[.pointer (some ⟨r, 0, none⟩), .agg #[.int .i64 x.c, .int .i64 x.s, .int .i64 x.p, .int .i64 x.l]] w fun e w' => e = .returned (.int .i64 0) ∧ HubIs own h nx (mr + 1) L last w' ∧ Kx own [210, 323] w w' := by
  obtain ⟨arr, f, r, k, t, ws, cnt, g1, g2, g3, g4, g5, g6, g7, g8, g9, g10, g11, g12⟩ := H.ex
  obtain ⟨rows, m, Lr, hm, hr1, hr2, hr3⟩ := g10.ex
  refine ⟨r, ⟨arr, g1, g4⟩, (add_ok hr1 hr2 (by omega) hx).mono fun e w' hf => ?_⟩
  obtain ⟨a, b⟩ := HubIs.add H.own hup g1 g2 g3 g4 g5 g6 g7 g8 g9 g10.own hr1 hr2 hr3 hm g11 g12 hf
  obtain ⟨_, _, _, _, he, _⟩ := hf
  exact ⟨he, a, b⟩
/-- What answer leaves: frames written, the hub behind. -/
def AnsF (own : Nat → Prop) (h nx mr : Nat) (L : Lft) (last : Option Nat) (fs : List Frm) (T : List Nat) (w : World) (e : Ending) (w' : World) : Prop :=
  ∃ g v, e = .returned v ∧ w.heap.size ≤ g ∧ w'.ownsRow g 5 1 v (fs.flatMap Frm.enc).length (by8 (fs.flatMap Frm.enc)) ∧ HubIs own h nx mr L last w' ∧ Kx own T w w'
set_option maxHeartbeats 6400000 in
set_option maxRecDepth 100000 in
theorem ans_sub {own : Nat → Prop} {h nx mr s : Nat} {L : Lft} {last : Option Nat} {w : World} {x : Sb} {v : Value} (H : HubIs own h nx mr L last w) (hup : ∀ k, w.heap.size ≤ k → own k) (hmr : mr ≤ 900) (hnx : nx ≤ 200) (hx : x.Ok) (hv : RowAt w v x.pay) :
    Calls Tryz.prog 58 #[.pointer (some ⟨h, 0, none⟩), .agg #[.int .i64 s, .int .i64 1, v]] w (AnsF own h (nx + 1) (mr + 1) L last [outF nx 7 [0#8]] [150, 210, 323] w) := by
  obtain ⟨A, c, rfl, _⟩ := hv.ex
  have HV := Go.Lib.hid hv
  have HX := Go.Lib.hid hx
  have HH := Go.Lib.hid H
  have HU := Go.Lib.hid hup
  clear hv hx H hup
  go_enter Tryz.func58, Tryz.ntmps58
  go_upto_region 1 with fail
  obtain ⟨b, hb⟩ : ∃ b, b = w.heap.size := ⟨_, rfl⟩
  obtain ⟨w0, hw0⟩ : ∃ w0, w0 = w.alloc (.cells #[.int .i64 s, .int .i64 1, .slice A x.pay.length c] 63) := ⟨_, rfl⟩
  rw [← hw0, ← hb]
  have hk0 : Keeps [] w w0 := by rw [hw0]; exact (Keeps.refl _ _).alloc _
  have hb0 : w0.heap[b]? = some (.cells #[.int .i64 s, .int .i64 1, .slice A x.pay.length c] 63 (0, 0)) := by rw [hw0, hb]; exact heap_alloc_new _ _
  obtain ⟨p0, p1, p2⟩ := cells3 hb0
  have HD := Go.Lib.hid (dec_sub HX.out (HV.out.keeps hk0 (by simp)))
  have HK0 := Go.Lib.hid hk0
  clear hw0 hb hk0 hb0
  go_wp2_with fail
  refine HD.out.mono ?_
  rintro e w1 ⟨rfl, hk1⟩
  have HK1 := Go.Lib.hid (HK0.out.trans hk1)
  clear HD hk1 p0 p1 p2 HK0
  go_upto_region 2 with fail
  obtain ⟨y, hy⟩ : ∃ y, y = w1.heap.size := ⟨_, rfl⟩
  obtain ⟨w2, hw2⟩ : ∃ w2, w2 = w1.alloc (.cells #[.int .i64 1, .int .i64 x.c, .int .i64 x.s, .int .i64 x.p, .int .i64 x.l, .int .i64 0, .slice none 0 0, .int .i64 x.c] 59) := ⟨_, rfl⟩
  rw [← hw2, ← hy]
  have hk2 : Keeps [] w w2 := by rw [hw2]; exact HK1.out.alloc _
  have hy2 : w2.heap[y]? = some (.cells #[.int .i64 1, .int .i64 x.c, .int .i64 x.s, .int .i64 x.p, .int .i64 x.l, .int .i64 0, .slice none 0 0, .int .i64 x.c] 59 (0, 0)) := by rw [hw2, hy]; exact heap_alloc_new _ _
  obtain ⟨r, ⟨arr, hr1, hr2⟩, HA⟩ := hadd_ok (HH.out.new hk2.drew) (fun k hk => HU.out k (Nat.le_trans hk2.size hk)) hmr HX.out
  have HA := Go.Lib.hid HA
  obtain ⟨p0, p1, p2, p3, p4, p5, p6, p7⟩ := cells8 hy2
  have r49 := (cell_at (w := w2) hr1 hr2).1
  have KC : Hid (∀ W, Kx own [210, 323] w2.drew W → W.cell? ⟨y, 1, none⟩ = some (.int .i64 x.c) ∧ W.cell? ⟨y, 2, none⟩ = some (.int .i64 x.s) ∧ W.cell? ⟨y, 3, none⟩ = some (.int .i64 x.p) ∧ W.cell? ⟨y, 4, none⟩ = some (.int .i64 x.l) ∧ W.cell? ⟨h, 49, none⟩ = some (.pointer (some ⟨r, 0, none⟩))) := Go.Lib.hid (fun W hW => by
    obtain ⟨k0, k1, k2, k3, k4, k5, k6, k7⟩ := cells8 (hW.cells (show w2.drew.heap[y]? = _ from hy2) (by decide))
    exact ⟨k1, k2, k3, k4, (cell_at (hW.cells hr1 (by decide)) hr2).1⟩)
  have HK2 := Go.Lib.hid hk2
  clear hw2 hy hk2 hy2 hr1 hr2 HK1
  go_upto_region 5 with fail
  go_region_held3 (fun wx => wx.cell? ⟨y, 1, none⟩ = some (.int .i64 x.c) ∧ wx.cell? ⟨y, 2, none⟩ = some (.int .i64 x.s) ∧ wx.cell? ⟨y, 3, none⟩ = some (.int .i64 x.p) ∧ wx.cell? ⟨y, 4, none⟩ = some (.int .i64 x.l) ∧ wx.cell? ⟨h, 49, none⟩ = some (.pointer (some ⟨r, 0, none⟩)))
    (first | exact ⟨p1, p2, p3, p4, r49⟩ | exact KC.out _ K3.out | fail)
    ((go_at_call 100; (refine HA.out.mono ?_; rintro e w3 ⟨rfl, hh3, hk3⟩); have H3 := Go.Lib.hid hh3; have K3 := Go.Lib.hid hk3; clear hh3 hk3))
  have hh3 := H3.out
  have hk3 := K3.out
  obtain ⟨z, hz⟩ : ∃ z, z = w3.heap.size := ⟨_, rfl⟩
  obtain ⟨w4, hw4⟩ : ∃ w4, w4 = w3.alloc (.cells #[.int .u8 0] 5) := ⟨_, rfl⟩
  have hk4 : Keeps [] w3 w4 := by rw [hw4]; exact (Keeps.refl _ _).alloc _
  have hz4 : w4.heap[z]? = some (.cells #[.int .u8 0] 5 (0, 0)) := by rw [hw4, hz]; exact heap_alloc_new _ _
  have hB : Byts w4 (some ⟨z, 0, none⟩) [0#8] := by
    intro i b' hi
    cases i with
    | zero =>
      obtain rfl : 0#8 = b' := by simpa using hi
      exact ⟨_, rfl, (cell_at hz4 (p := 0) rfl).1⟩
    | succ i => simp at hi
  have HO := Go.Lib.hid (hout_ok (hh3.new hk4) hnx (kd := 7) (by omega) (by omega) hB (fun h => by simp at h) (n := 1) (c := 1) rfl (by simp))
  have HK4 := Go.Lib.hid hk4
  have HW4 := Go.Lib.hid hw4
  have HZ := Go.Lib.hid hz
  clear hk4 hw4 hz hz4 hB hh3 hk3

  go_wp2_with fail
  rw [← HW4.out, ← HZ.out]
  refine HO.out.mono ?_
  rintro e w5 ⟨v5, rfl, ho5, hh5, hk5⟩
  obtain ⟨A5, c5, rfl⟩ := own_form ho5
  obtain ⟨v6, w6, hr6, ho6, hg6⟩ := app8 (B := w4.heap.size) (k := 0) (xs := []) (World.ownsRow_nil w5 w4.heap.size 5 1) (Byts.of_own ho5) (by8_len _).symm (src_of_own ho5) (by simp [Frm.enc_len, outF]) hk5.size
  have hk6 : Keeps [] w5 w6 := ⟨hg6.os, hg6.tape, hg6.output, hg6.size, fun i hi _ => hg6.block i hi (by simp [Value.ownBlock])⟩
  have HR6 := Go.Lib.hid hr6
  have HE : Hid (AnsF own h (nx + 1) (mr + 1) L last [outF nx 7 [0#8]] [150, 210, 323] w (.returned v6) w6) := Go.Lib.hid ⟨w4.heap.size, v6, rfl, Nat.le_trans (HK2.out.drew.size) (Nat.le_trans K3.out.size HK4.out.size), by simpa using ho6, hh5.new hk6,
    ((((Kx.new HK2.out.drew).trans (K3.out.mono (by simp))).trans (Kx.new HK4.out)).trans (hk5.mono (by simp))).trans (Kx.new hk6)⟩
  clear ho5 hh5 hk5 hr6 ho6 hg6 hk6 HO HK4 HW4 HZ
  go_wp2_with (at_builtin; refine wpList_append_run (by rfl) (by rfl) HR6.out ?_)
  go_ret
  exact HE.out
end Go.Proofs.YtkhalpnonijogaaGreat
