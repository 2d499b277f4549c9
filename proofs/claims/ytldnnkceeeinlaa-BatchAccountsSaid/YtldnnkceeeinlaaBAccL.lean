/- The walk of BatchAccounts: over every script that lies in memory it returns true. No condition. -/
import Derived.Test.YtldnnkceeeinlaaBAcc
namespace Go.Proofs.Ytldnnkceeeinlaa
open Go.RowKit

theorem AccM.init : AccM [] zeros zeros zeros zeros zeros 0 0 := by
  refine ⟨by omega, by omega, fun c hc => ?_, fun c hc => ?_, by simp, by simp, fun c hc => ⟨?_, by simp⟩, rfl, rfl, rfl, rfl, rfl⟩
  all_goals
    rcases (show c = 0 ∨ c = 1 ∨ c = 2 ∨ c = 3 ∨ c = 4 ∨ c = 5 ∨ c = 6 ∨ c = 7 by omega) with rfl | rfl | rfl | rfl | rfl | rfl | rfl | rfl <;> simp [zeros]
theorem AccM.lost_ok {m : List It} {L P G O T : List Int} {n : Int} {i : Nat} (h : AccM m L P G O T n i) (hi : i ≤ 200) : ∀ x ∈ L, 0 ≤ x ∧ x < 1152921504606846976 := by
  intro x hx
  obtain ⟨c, hc⟩ := List.mem_iff_getElem?.1 hx
  have hc8 : c < 8 := by rw [← h.L8]; exact (List.getElem?_eq_some_iff.1 hc).1
  have h1 := h.bal c hc8
  have h2 := h.low c hc8
  have e : L.getD c 0 = x := by rw [List.getD_eq_getElem?_getD, hc]; rfl
  rw [e] at h1 h2
  omega

theorem alloc4 (w : World) (o1 o2 o3 o4 : Obj) : ((((w.alloc o1).alloc o2).alloc o3).alloc o4).heap[w.heap.size]? = some o1 ∧ ((((w.alloc o1).alloc o2).alloc o3).alloc o4).heap[w.heap.size + 1]? = some o2 ∧
    ((((w.alloc o1).alloc o2).alloc o3).alloc o4).heap[w.heap.size + 1 + 1]? = some o3 ∧ ((((w.alloc o1).alloc o2).alloc o3).alloc o4).heap[w.heap.size + 1 + 1 + 1]? = some o4 := by
  obtain ⟨h1, h2, h3⟩ := alloc3 w o1 o2 o3
  refine ⟨?_, ?_, ?_, ?_⟩
  · rw [Below.heap_alloc _ _ _ (lt_of_block h1)]; exact h1
  · rw [Below.heap_alloc _ _ _ (lt_of_block h2)]; exact h2
  · rw [Below.heap_alloc _ _ _ (lt_of_block h3)]; exact h3
  · have := heap_alloc_new (((w.alloc o1).alloc o2).alloc o3) o4
    rwa [World.size_alloc, World.size_alloc, World.size_alloc] at this
theorem num_q (a : Int) (w : World) : Calls Try.prog 8 #[.int .i64 a] w fun e w' => e = .returned (.int .i64 a) ∧ ∃ k, w' = w.drewN k :=
  (num a w).mono fun _ _ ⟨h1, h2⟩ => ⟨h1, 0, h2 ▸ rfl⟩
/-- The clients that are handed an event, so far. -/
structure SInv (k : Nat) (S P P2 : List Int) : Prop where
  sorted : S.Pairwise (· < ·)
  dom : ∀ x ∈ S, 0 ≤ x ∧ x < k
  len : S.length ≤ k
  P8 : P2.length = 8
  val : ∀ c, c < 8 → P2.getD c 0 = P.getD c 0 + (if (c : Int) ∈ S then 1 else 0)
theorem SInv.skip {k : Nat} {S P P2 : List Int} (h : SInv k S P P2) : SInv (k + 1) S P P2 :=
  ⟨h.sorted, fun x hx => by have := h.dom x hx; omega, by have := h.len; omega, h.P8, h.val⟩
theorem SInv.take {k : Nat} {S P P2 : List Int} (h : SInv k S P P2) (hk : k < 8) : SInv (k + 1) (S ++ [(k : Int)]) P (P2.set k (P2.getD k 0 + 1)) := by
  refine ⟨?_, fun x hx => ?_, by have := h.len; simp; omega, by rw [List.length_set]; exact h.P8, fun c hc => ?_⟩
  · rw [List.pairwise_append]
    refine ⟨h.sorted, by simp, fun a ha b hb => ?_⟩
    obtain rfl : b = (k : Int) := by simpa using hb
    exact (h.dom a ha).2
  · rcases List.mem_append.1 hx with h1 | h1
    · have := h.dom x h1; omega
    · obtain rfl : x = (k : Int) := by simpa using h1
      omega
  · rw [set_getD P2 (by rw [h.P8]; exact hk)]
    have hv := h.val c hc
    by_cases e : c = k
    · subst e
      have hn : ¬ ((c : Int) ∈ S) := fun hm => by have := (h.dom _ hm).2; omega
      rw [if_neg hn] at hv
      rw [if_pos rfl, if_pos (by simp)]
      omega
    · rw [if_neg e, hv]
      have : ((c : Int) ∈ S ++ [(k : Int)]) ↔ (c : Int) ∈ S := by
        rw [List.mem_append]
        exact ⟨fun h => h.elim id (fun h => by simp at h; omega), .inl⟩
      simp only [this]
/-- What an append to one row leaves of the rest. -/
theorem grow_step {w0 W W' : World} {q b ba : Nat} {m : List It} {L P G O T : List Int} {v v' u : Value} {n n' k : Nat} {xs ys zs : List Value} {bx : Array Value} (hC : Acc w0 q b m L P G O T W) (hbx : W.heap[ba]? = some (.cells bx 37 (0, 0)))
    (hv : W.ownsRow w0.heap.size 3 1 v n xs) (hu : W.ownsRow w0.heap.size 3 1 u k ys) (hap : ∀ j, v.ownBlock = some j → u.ownBlock ≠ some j) (x : Int)
    (_ : W'.ownsRow w0.heap.size 3 1 v' n' zs) (hg : (W.alloc (.cells #[.int .i64 x] 3)).grownBy W' v.ownBlock) (hat : v'.ownBlock = v.ownBlock ∨ v'.ownBlock = some (W.heap.size + 1)) :
    Acc w0 q b m L P G O T W' ∧ W'.heap[ba]? = some (.cells bx 37 (0, 0)) ∧ W'.ownsRow w0.heap.size 3 1 u k ys ∧ (∀ j, v'.ownBlock = some j → u.ownBlock ≠ some j) := by
  have hka : Keeps [] W (W.alloc (.cells #[.int .i64 x] 3)) := (Keeps.refl _ _).alloc _
  have hva := hv.alloc (.cells #[.int .i64 x] 3)
  have hua := hu.alloc (.cells #[.int .i64 x] 3)
  have hba := hka.heap hbx (by simp)
  refine ⟨(hC.new hka).grow hg (own_cells hva), ?_, hua.kept hg ?_, fun j hj hju => ?_⟩
  · rw [hg.block ba (lt_of_block hba) (fun e => ?_)]
    · exact hba
    · obtain ⟨_, cs, fr, hc⟩ := own_cells hva ba e.symm
      rw [hba] at hc
      have := Option.some.inj hc
      simp at this
  · cases hub : u.ownBlock with
    | none => exact .inl rfl
    | some j => exact .inr (fun e => hap j e.symm hub)
  · rcases hat with e | e
    · exact hap j (e ▸ hj) hju
    · have h1 := (hu.lt j hju).2
      rw [hj] at e
      have : j = W.heap.size + 1 := Option.some.inj e
      omega
theorem eq_of_getD {a c : List Int} (ha : a.length = 8) (hc : c.length = 8) (h : ∀ i, i < 8 → a.getD i 0 = c.getD i 0) : a = c := by
  refine List.ext_getElem (by omega) fun i h1 h2 => ?_
  have := h i (by omega)
  rw [List.getD_eq_getElem?_getD, List.getD_eq_getElem?_getD, List.getElem?_eq_getElem h1, List.getElem?_eq_getElem h2] at this
  exact this
theorem flat6_get : ∀ (l : List Ev) (i : Nat) (x : Ev) (r : Nat), l[i]? = some x → r < 6 → (l.flatMap evs)[i * 6 + r]? = (evs x)[r]? := by
  intro l
  induction l with
  | nil => intro i x r h; simp at h
  | cons y l ih =>
    intro i x r h hr
    rw [List.flatMap_cons]
    cases i with
    | zero =>
      obtain rfl : y = x := by simpa using h
      rw [List.getElem?_append_left (by simp [evs]; omega), Nat.zero_mul, Nat.zero_add]
    | succ i =>
      rw [List.getElem?_append_right (by simp [evs]; omega), show (i + 1) * 6 + r - (evs y).length = i * 6 + r by simp [evs]; omega]
      exact ih i x r (by simpa using h) hr
theorem ev_kept {B : Nat} {W W' : World} {v : Value} {n : Nat} {xs : List Value} (h : W.ownsRow B 31 6 v n xs) (hk : ∀ (i : Nat) (cs : Array Value) (fr : Nat × Nat), W.heap[i]? = some (.cells cs 31 fr) → W'.heap[i]? = some (.cells cs 31 fr)) : W'.ownsRow B 31 6 v n xs := by
  refine ⟨h.1, ?_⟩
  rcases h.2 with h6 | ⟨g', cap, cur, e1, e2, e3, e4⟩
  · exact .inl h6
  · exact .inr ⟨g', cap, cur, e1, e2, hk _ _ _ e3, e4⟩
theorem set_keeps31 {W : World} {x : Nat} {l : List Int} (hx : Arr W x l) (n c : Nat) (y : Value) : ∀ (i : Nat) (cs : Array Value) (fr : Nat × Nat), W.heap[i]? = some (.cells cs 31 fr) → ((W.drewN n).setCell ⟨x, c, none⟩ y).heap[i]? = some (.cells cs 31 fr) := fun i cs fr h => by
  rw [Below.heap_setCell _ _ _ _ (block_ne h hx (by simp))]
  exact h
theorem set_keeps40 {W : World} {x : Nat} {l : List Int} (hx : Arr W x l) (n c : Nat) (y : Value) {i : Nat} {cs : Array Value} {fr : Nat × Nat} (h : W.heap[i]? = some (.cells cs 40 fr)) : ((W.drewN n).setCell ⟨x, c, none⟩ y).heap[i]? = some (.cells cs 40 fr) := by
  rw [Below.heap_setCell _ _ _ _ (block_ne h hx (by simp))]
  exact h
/-- What the third loop holds behind j events. -/
structure Lp (w0 : World) (q b b15 : Nat) (m : List It) (L P G O T : List Int) (c : Nat) (z : Int) (E : List Ev) (ad : Option Addr) (cp : Nat) (B : Nat) (j : Nat) (W : World) : Prop where
  acc : Acc w0 q b m L P (G.set c (G.getD c 0 + j)) O (T.set c (lastOf (T.getD c 0) (E.take j))) W
  row : W.ownsRow B 31 6 (.slice ad E.length cp) E.length (E.flatMap evs)
  box : W.heap[b15]? = some (.cells #[.int .i64 c, .int .i64 z, .slice ad E.length cp] 40 (0, 0))
/-- The copy of an act. -/
def actA (x : Act) (C D : Option Addr) (c d : Nat) : Array Value := #[.int .i64 x.d, .int .i64 x.e.s, .int .i64 x.e.t, .int .i64 x.e.v0, .int .i64 x.e.v1, .int .i64 x.e.v2, .int .i64 x.e.v3, .slice C x.cl.length c, .slice D x.ws.length d, .int .i64 x.n]

set_option maxHeartbeats 8000000 in
set_option maxRecDepth 100000 in
theorem accounts {A : Option Addr} {len0 cap0 : Nat} {l : List Act} (hlen : len0 = l.length) (w : World) (hl : Acts w A l) :
    Calls Try.prog 4 #[.slice A len0 cap0] w fun e w' => e = .returned (.bool true) ∧ Keeps [] w w' := by
  have HL := Go.Lib.hid hlen
  have HA := Go.Lib.hid hl
  clear hlen hl
  go_enter Try.func4, Try.ntmps4
  go_wp2_with fail
  refine (q_new _).mono ?_
  rintro e w1 ⟨q, rfl, hq, hk⟩
  have HQ := Go.Lib.hid hq
  have HK := Go.Lib.hid hk
  clear hq hk
  go_upto_region 6 with fail
  obtain ⟨b, hb⟩ : ∃ b, b = w1.heap.size := ⟨_, rfl⟩
  obtain ⟨w2, hw2⟩ : ∃ w2, w2 = (((w1.alloc (.cells (ints zeros).toArray 45)).alloc (.cells (ints zeros).toArray 45)).alloc (.cells (ints zeros).toArray 45)).alloc (.cells (ints zeros).toArray 45) := ⟨_, rfl⟩
  rw [show (((w1.alloc (.cells #[.int .i64 0, .int .i64 0, .int .i64 0, .int .i64 0, .int .i64 0, .int .i64 0, .int .i64 0, .int .i64 0] 45)).alloc (.cells #[.int .i64 0, .int .i64 0, .int .i64 0, .int .i64 0, .int .i64 0, .int .i64 0, .int .i64 0, .int .i64 0] 45)).alloc
    (.cells #[.int .i64 0, .int .i64 0, .int .i64 0, .int .i64 0, .int .i64 0, .int .i64 0, .int .i64 0, .int .i64 0] 45)).alloc (.cells #[.int .i64 0, .int .i64 0, .int .i64 0, .int .i64 0, .int .i64 0, .int .i64 0, .int .i64 0, .int .i64 0] 45) = w2 from hw2.symm, ← hb]
  have hk2 : Keeps [] w1 w2 := by rw [hw2]; exact ((((Keeps.refl _ _).alloc _).alloc _).alloc _).alloc _
  have HC0 : Hid (Acc w q b [] zeros zeros zeros zeros zeros w2) := by
    obtain ⟨x1, x2, x3, x4⟩ := alloc4 w1 (.cells (ints zeros).toArray 45) (.cells (ints zeros).toArray 45) (.cells (ints zeros).toArray 45) (.cells (ints zeros).toArray 45)
    rw [← hw2, ← hb] at x1 x2 x3 x4
    exact ⟨HQ.out.new hk2, HK.out.trans hk2, x1, x2, x3, x4, by have := HK.out.size; omega⟩
  have HM0 := Go.Lib.hid AccM.init
  clear hw2 hb hk2 HQ HK
  go_upto_region 8 with fail
  go_loopw [8, 9] (fun sn si wr => ∃ (n : Int) (i : Nat) (m : List It) (L P G O T : List Int), sn = .int .i64 n ∧ si = .int .i64 i ∧ i ≤ 160 ∧ Hid (AccM m L P G O T n i) ∧ Hid (Acc w q b m L P G O T wr)) (fun _ si _ => 160 - (intOf si).toNat)
  case atStart => exact ⟨0, 0, [], zeros, zeros, zeros, zeros, zeros, rfl, rfl, by omega, HM0, HC0⟩
  case round =>
    clear HM0 HC0
    obtain ⟨n, i, m, L, P, G, O, T, rfl, rfl, hi160, HM, HC⟩ := hrel
    obtain ⟨w3, hw3⟩ : ∃ w3, w3 = wr := ⟨_, rfl⟩
    subst hw3
    have HW := Go.Lib.hid (wakes w3)
    by_cases hlt : i < len0 ∧ i < 160
    · obtain ⟨h1, h2⟩ := hlt
      have d1 : decide (i < len0) = true := decide_eq_true h1
      have d2 : decide (i < 160) = true := decide_eq_true h2
      have d3 : decide ((i : Int) < 160) = true := decide_eq_true (by omega)
      obtain ⟨x, hx⟩ : ∃ x, l[i]? = some x := ⟨_, List.getElem?_eq_getElem (by have := HL.out; omega)⟩
      obtain ⟨a, rfl, hax⟩ := (HA.out.keeps HC.out.keeps) i x hx
      obtain ⟨C, c7, y7, _, _⟩ := hax.cl
      obtain ⟨D, c8, y8, _, _⟩ := hax.ws
      have y0 := hax.d
      have y1 := hax.s
      have y2 := hax.t
      have y3 := hax.v0
      have y4 := hax.v1
      have y5 := hax.v2
      have y6 := hax.v3
      have y9 := hax.n
      simp only [fld] at y1 y2 y3 y4 y5 y6 y7 y8 y9
      clear hax hx
      go_upto_region 11 with fail
      obtain ⟨ba, hba⟩ : ∃ ba, ba = w3.heap.size := ⟨_, rfl⟩
      obtain ⟨w4, hw4⟩ : ∃ w4, w4 = w3.alloc (.cells (actA x C D c7 c8) 37) := ⟨_, rfl⟩
      rw [show w3.alloc (.cells #[.int .i64 x.d, .int .i64 x.e.s, .int .i64 x.e.t, .int .i64 x.e.v0, .int .i64 x.e.v1, .int .i64 x.e.v2, .int .i64 x.e.v3, .slice C x.cl.length c7, .slice D x.ws.length c8, .int .i64 x.n] 37) = w4 from hw4.symm, ← hba]
      have hk4 : Keeps [] w3 w4 := by rw [hw4]; exact (Keeps.refl _ _).alloc _
      have hbx : w4.heap[ba]? = some (.cells (actA x C D c7 c8) 37 (0, 0)) := by rw [hw4, hba]; exact heap_alloc_new _ _
      have HC4 := Go.Lib.hid (HC.out.new hk4)
      have HBX := Go.Lib.hid hbx
      have z0 : w4.cell? ⟨ba, 0, none⟩ = some (.int .i64 x.d) := (cell_at hbx (p := 0) rfl).1
      have z9 : w4.cell? ⟨ba, 9, none⟩ = some (.int .i64 x.n) := (cell_at hbx (p := 9) rfl).1
      clear hw4 hba hk4 hbx HC y0 y1 y2 y3 y4 y5 y6 y7 y8 y9
      obtain ⟨cc, hcc⟩ : ∃ cc : Nat, wthn x.n 8 = cc := ⟨(wthn x.n 8).toNat, by have := (wthn_range x.n (n := 8) (by omega)).1; omega⟩
      have hcc8 : cc < 8 := by have := (wthn_range x.n (n := 8) (by omega)).2; omega
      have HCC := Go.Lib.hid hcc
      obtain ⟨dd, hdd⟩ : ∃ dd : Nat, wthn x.d 6 = dd := ⟨(wthn x.d 6).toNat, by have := (wthn_range x.d (n := 6) (by omega)).1; omega⟩
      have HDD := Go.Lib.hid hdd
      clear hcc hdd
      go_wp2_with fail
      refine (within x.n 8 (by omega) (by omega) _).mono ?_
      rintro e w' ⟨rfl, rfl⟩
      rw [HCC.out]
      go_wp2_with fail
      refine (within x.d 6 (by omega) (by omega) _).mono ?_
      rintro e w' ⟨rfl, rfl⟩
      rw [HDD.out]
      clear z0 z9
      go_upto_if 46 with fail
      go_cut [8] from 46 to 157 (fun s8 wx => ∃ (n' : Int) (m' : List It) (L' P' G' O' T' : List Int), s8 = .int .i64 n' ∧ Hid (AccM m' L' P' G' O' T' n' (i + 1)) ∧ Hid (Acc w q b m' L' P' G' O' T' wx))
      case first =>
        by_cases hd4 : dd < 4
        · have e1 : decide (dd < 4) = true := decide_eq_true hd4
          have e2 : decide ((dd : Int) < 4) = true := decide_eq_true (by omega)
          rw [e2]
          have hn0 := HM.out.n0
          have hni := HM.out.ni
          go_upto_region 16 with fail
          have HS0 : Hid (SInv 0 [] P P) := ⟨by simp, by simp, by simp, HM.out.P8, by simp⟩
          have HT0 : Hid (Two w.heap.size [] (.slice none 0 0) (.slice none 0 0) w4) := ⟨World.ownsRow_nil _ _ _ _, World.ownsRow_nil _ _ _ _, fun j h => by simp [Value.ownBlock] at h⟩
          have hm : (Try.prog.info? 3).map (fun i => (i.zero, i.size, i.bytes)) = some (some (.int .i64 0), 1, 8) := by kernel_rfl
          obtain ⟨i0, hi, hz0, hz1, hz2⟩ := info_parts hm
          have HI := Go.Lib.hid hi
          have HZ0 := Go.Lib.hid hz0
          have HZ1 := Go.Lib.hid hz1
          have HZ2 := Go.Lib.hid hz2
          clear hm hi hz0 hz1 hz2 e1 e2 hd4
          go_loopw [12, 13, 14] (fun s12 s13 s14 wr => ∃ (k : Nat) (S P2 : List Int), s14 = .int .i64 k ∧ k ≤ 8 ∧ Hid (SInv k S P P2) ∧ Hid (Two w.heap.size S s12 s13 wr) ∧ Hid (Acc w q b m L P2 G O T wr) ∧ Hid (wr.heap[ba]? = some (.cells (actA x C D c7 c8) 37 (0, 0)))) (fun _ _ sk _ => 8 - (intOf sk).toNat)
          case atStart => exact ⟨0, [], P, rfl, by omega, HS0, HT0, HC4, HBX⟩
          case round =>
            clear HS0 HT0 HC4 HBX
            obtain ⟨k, S, P2, rfl, hk8, HS, HT, HC, HBX⟩ := hrel
            by_cases hk : k < 8
            · have f1 : decide (k < 8) = true := decide_eq_true hk
              have f2 : decide ((k : Int) < 8) = true := decide_eq_true (by omega)
              have z2 : wr.cell? ⟨ba, 2, none⟩ = some (.int .i64 x.e.t) := (cell_at HBX.out (p := 2) rfl).1
              go_wp2_with fail
              refine (within _ 3 (by omega) (by omega) _).mono ?_
              rintro e w' ⟨rfl, rfl⟩
              obtain ⟨vv, hvv⟩ : ∃ vv, vv = wthn (x.e.t / 2 ^ k) 3 := ⟨_, rfl⟩
              rw [← hvv]
              clear hvv z2
              by_cases hv0 : 0 < vv
              · have g1 : decide (0 < vv) = true := decide_eq_true hv0
                have hlS := HS.out.len
                have hbase := HC.out.keeps.size
                go_wp2_with (at_builtin; refine wpList_append_own_at _ rfl _ _ 25 rfl w.heap.size 3 i0 (.int .i64 0) 1 8 Try.underlying25 HI.out HZ0.out HZ1.out HZ2.out rfl (by decide) _ S.length _ rfl (HT.out.who.alloc _) ⟨wr.heap.size, 0, none⟩ 1 1 [.int .i64 k] rfl rfl ?c1 ?c2 ?c3 ?c4 ?c5 ?_)
                case c1 => exact cell_one_new _ _ _
                case c2 => simp [Value.oneCell']
                case c3 => unfold maxLen; omega
                case c4 => omega
                case c5 => simp; omega
                intro v1 w5 hown1 hgrow1 _ hat1
                obtain ⟨hC5, hbx5, hwt5, hap5⟩ := grow_step HC.out HBX.out HT.out.who HT.out.waits HT.out.apart k hown1 hgrow1 hat1
                have HC5 := Go.Lib.hid hC5
                have HBX5 := Go.Lib.hid hbx5
                have HWT5 := Go.Lib.hid hwt5
                have HAP5 := Go.Lib.hid hap5
                have HOWN1 := Go.Lib.hid hown1
                have hbase5 := hC5.keeps.size
                clear hown1 hgrow1 hat1 hC5 hbx5 hwt5 hap5 HC HBX HT hbase
                go_upto_region 20 with fail
                go_wp2_with (at_builtin; refine wpList_append_own_at _ rfl _ _ 25 rfl w.heap.size 3 i0 (.int .i64 0) 1 8 Try.underlying25 HI.out HZ0.out HZ1.out HZ2.out rfl (by decide) _ S.length _ rfl (HWT5.out.alloc _) ⟨w5.heap.size, 0, none⟩ 1 1 [.int .i64 60000] rfl rfl ?c1 ?c2 ?c3 ?c4 ?c5 ?_)
                case c1 => exact cell_one_new _ _ _
                case c2 => simp [Value.oneCell']
                case c3 => unfold maxLen; omega
                case c4 => omega
                case c5 => simp; omega
                intro v2 w6 hown2 hgrow2 _ hat2
                obtain ⟨hC6, hbx6, hwho6, hap6⟩ := grow_step HC5.out HBX5.out HWT5.out HOWN1.out (fun j h1 h2 => HAP5.out j h2 h1) 60000 hown2 hgrow2 hat2
                have HC6 := Go.Lib.hid hC6
                have HBX6 := Go.Lib.hid hbx6
                have HT6 : Hid (Two w.heap.size (S ++ [(k : Int)]) v1 v2 w6) := ⟨by simpa [ints] using hwho6, by simpa [ints, List.replicate_succ'] using hown2, fun j h1 h2 => hap6 j h2 h1⟩
                clear hown2 hgrow2 hat2 hC6 hbx6 hwho6 hap6 HC5 HBX5 HWT5 HAP5 HOWN1
                obtain ⟨p0, p1⟩ := HC6.out.ap.get (c := k) (by rw [HS.out.P8]; exact hk)
                have hpv : 0 ≤ P2.getD k 0 ∧ P2.getD k 0 ≤ 1000 := by
                  have h1 := HS.out.val k hk
                  have h2 := HM.out.bal k hk
                  have h3 := HM.out.low k hk
                  split at h1 <;> omega
                have HS7 := Go.Lib.hid (HS.out.take hk)
                obtain ⟨pz, hpz⟩ : ∃ pz, pz = P2.getD k 0 := ⟨_, rfl⟩
                rw [← hpz] at p0 hpv HS7
                have HC7 : Hid (Acc w q b m L (P2.set k (pz + 1)) G O T (w6.setCell ⟨b, k, none⟩ (.int .i64 (pz + 1)))) := HC6.out.setP 0 k (pz + 1)
                have HT7 : Hid (Two w.heap.size (S ++ [(k : Int)]) v1 v2 (w6.setCell ⟨b, k, none⟩ (.int .i64 (pz + 1)))) := HT6.out.kept (set_keeps3 HC6.out.ap 0 k _)
                have HBX7 : Hid ((w6.setCell ⟨b, k, none⟩ (.int .i64 (pz + 1))).heap[ba]? = some (.cells (actA x C D c7 c8) 37 (0, 0))) := Go.Lib.hid (by
                  rw [Below.heap_setCell _ _ _ _ (block_ne HBX6.out HC6.out.ap (by simp))]; exact HBX6.out)
                clear hpz
                go_wp2_with fail
                exact ⟨⟨k + 1, S ++ [(k : Int)], P2.set k (pz + 1), by go_num, by omega, HS7, HT7, HC7, HBX7⟩, by simp [intOf]; omega⟩
              · have g1 : decide (0 < vv) = false := decide_eq_false hv0
                have HS7 := Go.Lib.hid HS.out.skip
                go_wp2_with fail
                exact ⟨⟨k + 1, S, P2, by go_num, by omega, HS7, HT, HC, HBX⟩, by simp [intOf]; omega⟩
            · have f1 : decide (k < 8) = false := decide_eq_false hk
              have f2 : decide ((k : Int) < 8) = false := decide_eq_false (by omega)
              obtain ⟨A1, cA, rfl, hn1⟩ := Nums.of_own HT.out.who rfl
              obtain ⟨A2, cD, rfl, hn2⟩ := Nums.of_own HT.out.waits (by simp)
              have hS8 := HS.out.len
              go_upto_region 22 with fail
              cases S with
              | nil =>
                have hPP : P2 = P := eq_of_getD HS.out.P8 HM.out.P8 (fun c hc => by have := HS.out.val c hc; simpa using this)
                have HMn : Hid (AccM m L P2 G O T (n + 1) (i + 1)) := by rw [hPP]; exact HM.out.wait
                clear hPP
                go_wp2_with fail
                refine (put_none (e := ⟨5, n + 1, 0, 0, 0, 0⟩) q (show (0 : Int) ≤ n + 1 by omega) (show n + 1 ≤ 1099511627776 by omega)).mono ?_
                rintro e w5 ⟨rfl, hk5⟩
                have HCn := Go.Lib.hid (HC.out.new hk5)
                have hl64 := HCn.out.own.base.2.2.1
                have g1 : decide (64 < m.length) = false := decide_eq_false (by omega)
                have g2 : decide ((64 : Int) < m.length) = false := decide_eq_false (by omega)
                clear hk5 HC
                go_wp2_with fail
                refine (num _ _).mono ?_
                rintro e w' ⟨rfl, rfl⟩
                go_wp2_with fail
                refine (q_len HCn.out.own).mono ?_
                rintro e w' ⟨rfl, rfl⟩
                go_wp2
                go_meet
                case rel => exact ⟨n + 1, m, L, P2, G, O, T, rfl, HMn, HCn⟩
              | cons y S =>
                have hcl : ∀ z ∈ y :: S, 0 ≤ z := fun z hz => (HS.out.dom z hz).1
                obtain ⟨it, hit⟩ : ∃ it : It, it = ⟨⟨5, n + 1, 0, 0, 0, 0⟩, uOf (n + 1) (y :: S) (List.replicate (y :: S).length 60000)⟩ := ⟨_, rfl⟩
                have hwtI : ∀ c, c < 8 → ((wt c it = true) ↔ (c : Int) ∈ y :: S) := fun c hc => by rw [hit]; exact uOf_wt (n + 1) (by omega) _ (y :: S) hcl c hc
                have HMn : Hid (AccM (putM m it) (lostM m L) P2 G O T (n + 1) (i + 1)) := HM.out.put HC.out.own.base.2.2.1 (by rw [hit]) HS.out.P8 (fun c hc => by
                  have h1 := HS.out.val c hc
                  by_cases e : (c : Int) ∈ y :: S
                  · rw [if_pos e] at h1; rw [if_pos ((hwtI c hc).2 e)]; exact h1
                  · rw [if_neg e] at h1; rw [if_neg (fun hh => e ((hwtI c hc).1 hh))]; exact h1)
                have HPU := Go.Lib.hid (fun c0 c1 => q_put (c0 := c0) (c1 := c1) (n := (y :: S).length) (k := (y :: S).length) (e := ⟨5, n + 1, 0, 0, 0, 0⟩) (cl := y :: S) (ws := List.replicate (y :: S).length 60000) HC.out.own rfl (by simp) hn1 hn2
                  (Rising.many HS.out.sorted (fun z hz => by have := HS.out.dom z hz; omega)) (by omega) (by simp) (show (0 : Int) ≤ n + 1 by omega) (show n + 1 ≤ 1099511627776 by omega) (HM.out.lost_ok (by omega)))
                rw [← hit] at HPU
                clear hwtI hcl hit
                go_wp2_with fail
                refine (HPU.out _ _).mono ?_
                rintro e w5 ⟨rfl, hq5, hb5⟩
                have HCn := Go.Lib.hid (HC.out.bk hb5 hq5)
                have hl64 := HCn.out.own.base.2.2.1
                have g1 : decide (64 < (putM m it).length) = false := decide_eq_false (by omega)
                have g2 : decide ((64 : Int) < (putM m it).length) = false := decide_eq_false (by omega)
                clear hq5 hb5 HPU HC
                go_wp2_with fail
                refine (num _ _).mono ?_
                rintro e w' ⟨rfl, rfl⟩
                go_wp2_with fail
                refine (q_len HCn.out.own).mono ?_
                rintro e w' ⟨rfl, rfl⟩
                go_wp2
                go_meet
                case rel => exact ⟨n + 1, putM m it, lostM m L, P2, G, O, T, rfl, HMn, HCn⟩
        · have e1 : decide (dd < 4) = false := decide_eq_false hd4
          have e2 : decide ((dd : Int) < 4) = false := decide_eq_false (by omega)
          rw [e2]
          clear e1 e2 hd4
          have z2 : w4.cell? ⟨ba, 2, none⟩ = some (.int .i64 x.e.t) := (cell_at HBX.out (p := 2) rfl).1
          obtain ⟨kk, hkk⟩ : ∃ kk : Nat, wthn x.e.t 5 = kk := ⟨(wthn x.e.t 5).toNat, by have := (wthn_range x.e.t (n := 5) (by omega)).1; omega⟩
          have hkk5 : kk < 5 := by have := (wthn_range x.e.t (n := 5) (by omega)).2; omega
          have HKK := Go.Lib.hid hkk
          clear hkk
          go_wp2_with fail
          refine (within x.e.t 5 (by omega) (by omega) _).mono ?_
          rintro e w' ⟨rfl, rfl⟩
          rw [HKK.out]
          clear z2
          go_wp2_with fail
          obtain ⟨tk, htk⟩ : ∃ tk : Nat, tk = 1 + kk := ⟨_, rfl⟩
          rw [show (1 + (kk : Int)) = (tk : Int) from by omega]
          have htk1 : 1 ≤ tk := by omega
          have htk5 : tk ≤ 5 := by omega
          obtain ⟨z, hz⟩ : ∃ z, L[cc]? = some z := ⟨_, List.getElem?_eq_getElem (by rw [HM.out.L8]; exact hcc8)⟩
          have hzl : L.getD cc 0 = z := by rw [List.getD_eq_getElem?_getD, hz]; rfl
          refine (q_take HC4.out.own hcc8 htk1 htk5 hz).mono ?_
          rintro e w5 ⟨v, rfl, hrow, hq5, hb5⟩
          have HMt := Go.Lib.hid (HM.out.take hcc8 tk)
          have HEV := Go.Lib.hid (HM.out.evs hcc8 tk)
          have hbl := HM.out.bal cc hcc8
          have hlw := HM.out.low cc hcc8
          have hn0 := HM.out.n0
          have hni := HM.out.ni
          rw [hzl] at HMt hbl hlw
          obtain ⟨E, hE⟩ : ∃ E, E = (takeM cc tk m).1 := ⟨_, rfl⟩
          rw [← hE] at HMt HEV hrow
          have hE5 : E.length ≤ 64 := by
            have h1 := congrArg List.length (takeR_evs cc m tk)
            rw [← takeM_eq, ← hE, List.length_map, List.length_take] at h1
            omega
          obtain ⟨m1, hm1⟩ : ∃ m1, m1 = sweepM (takeM cc tk m).2 := ⟨_, rfl⟩
          rw [← hm1] at HMt hq5
          obtain ⟨ad, cp, rfl⟩ := row_len hrow rfl
          have HC5 := Go.Lib.hid (HC4.out.bk hb5 hq5)
          have HROW := Go.Lib.hid hrow
          clear hrow hq5 hb5 hz hzl hE hm1 htk HC4 HBX HKK
          go_upto_region 25 with fail
          obtain ⟨b15, hb15⟩ : ∃ b15, b15 = w5.heap.size := ⟨_, rfl⟩
          obtain ⟨w6, hw6⟩ : ∃ w6, w6 = w5.alloc (.cells #[.int .i64 cc, .int .i64 z, .slice ad E.length cp] 40) := ⟨_, rfl⟩
          rw [← hw6, ← hb15]
          have hk6 : Keeps [] w5 w6 := by rw [hw6]; exact (Keeps.refl _ _).alloc _
          have hx6 : w6.heap[b15]? = some (.cells #[.int .i64 cc, .int .i64 z, .slice ad E.length cp] 40 (0, 0)) := by rw [hw6, hb15]; exact heap_alloc_new _ _
          have HC6 := Go.Lib.hid (HC5.out.new hk6)
          have HROW6 := Go.Lib.hid (ev_kept HROW.out (fun i cs fr h => hk6.heap h (by simp)))
          have HX6 := Go.Lib.hid hx6
          have t0 : w6.cell? ⟨b15, 0, none⟩ = some (.int .i64 cc) := (cell_at hx6 (p := 0) rfl).1
          have t1 : w6.cell? ⟨b15, 1, none⟩ = some (.int .i64 z) := (cell_at hx6 (p := 1) rfl).1
          obtain ⟨o0, o1⟩ := HC6.out.ao.get (c := cc) (by rw [HM.out.O8]; exact hcc8)
          obtain ⟨oz, hoz⟩ : ∃ z, z = O.getD cc 0 := ⟨_, rfl⟩
          rw [← hoz] at o0 hbl hlw HMt
          have hz0 : decide (z < 0) = false := decide_eq_false (by omega)
          have hd8 : decide (cc < 8) = true := decide_eq_true hcc8
          clear hw6 hb15 hk6 hx6 hoz HC5 HROW
          go_wp2_with fail
          refine (num _ _).mono ?_
          rintro e w' ⟨rfl, rfl⟩
          go_upto_region 27 with fail
          have HL7 : Hid (∀ r, Lp w q b b15 m1 (L.set cc 0) P G (O.set cc (oz + z)) T cc z E ad cp w4.heap.size 0 ((w6.drewN r).setCell ⟨b + 1 + 1, cc, none⟩ (.int .i64 (oz + z)))) := fun r => by
            refine ⟨?_, ev_kept HROW6.out (set_keeps31 HC6.out.ao r cc _), set_keeps40 HC6.out.ao r cc _ HX6.out⟩
            have h1 := HC6.out.setO r cc (oz + z)
            have e1 : G.set cc (G.getD cc 0 + ((0 : Nat) : Int)) = G := by rw [show G.getD cc 0 + ((0 : Nat) : Int) = G.getD cc 0 by omega, set_getD_same]
            have e2 : T.set cc (lastOf (T.getD cc 0) (E.take 0)) = T := set_getD_same T cc
            rw [e1, e2]
            exact h1
          clear HC6 HROW6 HX6
          refine QTail.wp_region_dtail 8 (by kernel_rfl) (by kernel_rfl) ?_
          simp only [List.take_succ_cons, List.take_zero, List.drop_succ_cons, List.drop_zero]
          repeat (go_big_quiet_step (fail))
          refine wpQuiet_nil ?_
          rintro _ ⟨n1, rfl⟩
          go_upto_region 28 with fail
          obtain ⟨w7, hw7⟩ : ∃ w7, w7 = (w6.drewN n1).setCell ⟨b + 1 + 1, cc, none⟩ (.int .i64 (oz + z)) := ⟨_, rfl⟩
          rw [← hw7]
          have HL0 : Hid (Lp w q b b15 m1 (L.set cc 0) P G (O.set cc (oz + z)) T cc z E ad cp w4.heap.size 0 w7) := by rw [hw7]; exact HL7.out n1
          clear hw7 HL7 t0 t1 o0 o1
          go_upto_region 29 with fail
          go_loopw [17] (fun sj wr => ∃ j : Nat, sj = .int .i64 j ∧ j ≤ E.length ∧ Hid (Lp w q b b15 m1 (L.set cc 0) P G (O.set cc (oz + z)) T cc z E ad cp w4.heap.size j wr)) (fun sj _ => E.length - (intOf sj).toNat)
          case atStart => exact ⟨0, rfl, by omega, HL0⟩
          case round =>
            clear HL0
            obtain ⟨j, rfl, hj, HL⟩ := hrel
            have k2 : wr.cell? ⟨b15, 2, none⟩ = some (.slice ad E.length cp) := (cell_at HL.out.box (p := 2) rfl).1
            by_cases hjl : j < E.length
            · have g1 : decide (j < E.length) = true := decide_eq_true hjl
              have g2 : decide ((j : Int) < E.length) = true := decide_eq_true (by omega)
              obtain ⟨ev, hev⟩ : ∃ ev, E[j]? = some ev := ⟨_, List.getElem?_eq_getElem hjl⟩
              obtain ⟨hlt1, hlt2⟩ := HEV.out j ev hev
              obtain ⟨g, hg, hgc⟩ : ∃ g, ad = some ⟨g, 0, none⟩ ∧ wr.cell? ⟨g, j * 6 + 1, none⟩ = some (.int .i64 ev.t) := by
                rcases HL.out.row.2 with ⟨hv, h0⟩ | ⟨g', cap, cur, hv, e2, e3, e4⟩
                · omega
                · simp only [Value.slice.injEq] at hv
                  refine ⟨g', hv.1, ?_⟩
                  have h1 := HL.out.row.cells (g := g') (by rw [hv.1]; rfl) (j * 6 + 1) (.int .i64 ev.t) (by rw [flat6_get E j ev 1 hev (by omega)]; rfl)
                  rwa [Addr.add_lit, Nat.zero_add] at h1
              obtain ⟨a7, b7⟩ := HL.out.acc.al.get (c := cc) (by rw [List.length_set, HM.out.T8]; exact hcc8)
              rw [set_getD T (by rw [HM.out.T8]; exact hcc8), if_pos rfl] at a7
              obtain ⟨lt, hlt⟩ : ∃ lt, lt = lastOf (T.getD cc 0) (E.take j) := ⟨_, rfl⟩
              rw [← hlt] at a7 hlt1
              have q1 : decide (ev.t ≤ lt) = false := decide_eq_false (by omega)
              have q2 : decide (n < ev.t) = false := decide_eq_false (by omega)
              obtain ⟨a5, b5⟩ := HL.out.acc.ag.get (c := cc) (by rw [List.length_set, HM.out.G8]; exact hcc8)
              rw [set_getD G (by rw [HM.out.G8]; exact hcc8), if_pos rfl] at a5
              obtain ⟨gz, hgz⟩ : ∃ gz, gz = G.getD cc 0 + (j : Int) := ⟨_, rfl⟩
              rw [← hgz] at a5
              have hgz0 : 0 ≤ gz ∧ gz ≤ 1000 := by omega
              have HN : Hid (∀ r, Lp w q b b15 m1 (L.set cc 0) P G (O.set cc (oz + z)) T cc z E ad cp w4.heap.size (j + 1) (((wr.drewN r).setCell ⟨b + 1 + 1 + 1, cc, none⟩ (.int .i64 ev.t)).setCell ⟨b + 1, cc, none⟩ (.int .i64 (gz + 1)))) := fun r => by
                have hA1 := HL.out.acc.setT r cc ev.t
                have hA2 := hA1.setG 0 cc (gz + 1)
                refine ⟨?_, ev_kept (ev_kept HL.out.row (set_keeps31 HL.out.acc.al r cc _)) (set_keeps31 hA1.ag 0 cc _), set_keeps40 hA1.ag 0 cc _ (set_keeps40 HL.out.acc.al r cc _ HL.out.box)⟩
                rw [List.set_set, List.set_set] at hA2
                have e1 : gz + 1 = G.getD cc 0 + ((j + 1 : Nat) : Int) := by omega
                have e2 : lastOf (T.getD cc 0) (E.take (j + 1)) = ev.t := by rw [List.take_add_one, hev, Option.toList_some, lastOf_snoc]
                rw [e2, ← e1]
                exact hA2
              subst hg
              clear hev hlt hgz HL
              go_wp2_with fail
              go_quiet (fail)
              go_wp2_with fail
              exact ⟨⟨j + 1, by go_num, by omega, HN.out _⟩, by simp [intOf]; omega⟩
            · have g1 : decide (j < E.length) = false := decide_eq_false hjl
              have g2 : decide ((j : Int) < E.length) = false := decide_eq_false (by omega)
              have HMf : Hid (AccM m1 (L.set cc 0) P (G.set cc (G.getD cc 0 + (E.length : Int))) (O.set cc (oz + z)) (T.set cc (lastOf (T.getD cc 0) E)) n (i + 1)) := HMt
              have HCf : Hid (Acc w q b m1 (L.set cc 0) P (G.set cc (G.getD cc 0 + (E.length : Int))) (O.set cc (oz + z)) (T.set cc (lastOf (T.getD cc 0) E)) wr) := by
                have e1 : j = E.length := by omega
                have h1 := HL.out.acc
                rw [e1, List.take_length] at h1
                exact h1
              clear HL
              go_wp2
              go_meet
              case rel => exact ⟨n, m1, _, P, _, _, _, rfl, HMf, HCf⟩
      case rest =>
        clear HM HC4
        obtain ⟨n', m', L', P', G', O', T', rfl, HM, HC⟩ := hcut
        go_upto_region 36 with fail
        go_loopw [18] (fun sk wr => ∃ k : Nat, sk = .int .i64 k ∧ k ≤ 8 ∧ Hid (Acc w q b m' L' P' G' O' T' wr)) (fun sk _ => 8 - (intOf sk).toNat)
        case atStart => exact ⟨0, rfl, by omega, HC⟩
        case round =>
          clear HC
          obtain ⟨k, rfl, hk8, HC⟩ := hrel
          by_cases hk : k < 8
          · have e1 : decide (k < 8) = true := decide_eq_true hk
            have e2 : decide ((k : Int) < 8) = true := decide_eq_true (by omega)
            have HPE := Go.Lib.hid (q_Pending HC.out.own hk)
            go_wp2_with fail
            refine HPE.out.mono ?_
            rintro e w5 ⟨rfl, hk5⟩
            have HC5 := Go.Lib.hid (HC.out.new hk5)
            clear hk5 HPE HC
            have hbal := HM.out.bal k hk
            have hlow := HM.out.low k hk
            rw [← pend_cnt] at hbal
            have hni := HM.out.ni
            have hp64 : (pend k m').1 ≤ 64 := by have h1 := pend_le k m'; have h2 := HC5.out.own.base.2.2.1; omega
            obtain ⟨pn, hpn⟩ : ∃ pn, pn = (pend k m').1 := ⟨_, rfl⟩
            rw [← hpn] at hbal hp64 ⊢
            obtain ⟨lz, hlz⟩ : ∃ lz, L'[k]? = some lz := ⟨_, List.getElem?_eq_getElem (by rw [HM.out.L8]; exact hk)⟩
            have hlg : L'.getD k 0 = lz := by rw [List.getD_eq_getElem?_getD, hlz]; rfl
            rw [hlg] at hbal hlow
            obtain ⟨a4, _⟩ := HC5.out.ap.get (c := k) (by rw [HM.out.P8]; exact hk)
            obtain ⟨a5, _⟩ := HC5.out.ag.get (c := k) (by rw [HM.out.G8]; exact hk)
            obtain ⟨a6, _⟩ := HC5.out.ao.get (c := k) (by rw [HM.out.O8]; exact hk)
            obtain ⟨pz, hpz⟩ : ∃ z, z = P'.getD k 0 := ⟨_, rfl⟩
            obtain ⟨gz, hgz⟩ : ∃ z, z = G'.getD k 0 := ⟨_, rfl⟩
            obtain ⟨oz, hoz⟩ : ∃ z, z = O'.getD k 0 := ⟨_, rfl⟩
            rw [← hpz] at hbal hlow a4
            rw [← hgz] at hbal hlow a5
            rw [← hoz] at hbal hlow a6
            have HLS := Go.Lib.hid (q_losses HC5.out.own hlz)
            have hbal2 : gz + oz + pn + lz = pz := by omega
            clear hpn hlz hlg hpz hgz hoz hbal
            go_wp2_with fail
            refine HLS.out.mono ?_
            rintro e w' ⟨rfl, rfl⟩
            clear HLS
            go_wp2_with fail
            have hb1 : (pz == gz + oz + pn + lz) = true := by simp; omega
            have hb2 : decide (pz = gz + oz + pn + lz) = true := decide_eq_true (by omega)
            go_quiet (refine Calls.quiet_of (num_q _ _))
            go_wp2_with fail
            have HN : Hid (∀ r, Acc w q b m' L' P' G' O' T' (w5.drewN r)) := fun r => HC5.out.new ((Keeps.refl _ _).drewN r)
            exact ⟨⟨k + 1, by go_num, by omega, HN.out _⟩, by simp [intOf]; omega⟩
          · have e1 : decide (k < 8) = false := decide_eq_false hk
            have e2 : decide ((k : Int) < 8) = false := decide_eq_false (by omega)
            have HM2 : Hid (AccM m' L' P' G' O' T' n' (i + 1)) := HM
            go_wp2_with fail
            exact ⟨⟨n', i + 1, m', L', P', G', O', T', rfl, by go_num, by omega, HM2, HC⟩, by simp [intOf]; omega⟩
    · have hno : (decide (i < len0) = false) ∨ (decide (i < len0) = true ∧ decide (i < 160) = false ∧ decide ((i : Int) < 160) = false) := by
        by_cases h1 : i < len0
        · exact .inr ⟨decide_eq_true h1, decide_eq_false (by omega), decide_eq_false (by omega)⟩
        · exact .inl (decide_eq_false h1)
      rcases hno with d1 | ⟨d1, d2, d3⟩
      all_goals
        go_wp2_with fail
        refine HW.out.mono ?_
        rintro e w' ⟨rfl, hkw⟩
        have HF := Go.Lib.hid (HC.out.keeps.trans hkw)
        clear hkw
        go_wp2_with fail
        go_ret
        exact ⟨rfl, HF.out⟩
end Go.Proofs.Ytldnnkceeeinlaa
