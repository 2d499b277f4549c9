/- 'Pending' and 'Ready'. No condition but the queue's own. -/
import Derived.Test.YtldnnkceeeinlaaBAct
import Derived.Test.YtldnnkceeeinlaaSendL
namespace Go.Proofs.Ytldnnkceeeinlaa
open Go.RowKit

theorem q_Pending {B q : Nat} {w : World} {m : List It} {lost : List Int} (hq : QL B w q m lost) {c : Nat} (hc8 : c < 8) :
    Calls Try.prog 15 #[.pointer (some ⟨q, 0, none⟩), .int .i64 c] w fun e w' => e = .returned (.tuple #[.int .i64 (pend c m).1, .int .i64 0]) ∧ Keeps [] w w' := by
  have HP := Go.Lib.hid (q_pending hq hc8)
  clear hq
  go_enter Try.func15, Try.ntmps15
  go_wp2_with fail
  refine (client_yes hc8 _).mono ?_
  rintro e w' ⟨rfl, rfl⟩
  go_wp2_with fail
  refine HP.out.mono ?_
  rintro e w' ⟨rfl, hk⟩
  have HK := Go.Lib.hid hk
  clear hk
  go_wp2
  go_ret2
  exact ⟨rfl, HK.out⟩

/-- Is a client to be told? -/
def rdyB (now : Int) (m : List It) (lost : List Int) (c : Nat) : Bool := decide (8 ≤ (pend c m).1) || decide (0 < (pend c m).1) && (decide ((pend c m).2 ≤ now) || decide (0 < lost.getD c 0))
def readyTo (now : Int) (m : List It) (lost : List Int) : Nat → List Int
  | 0 => []
  | k + 1 => if rdyB now m lost k then readyTo now m lost k ++ [(k : Int)] else readyTo now m lost k
theorem readyTo_len (now : Int) (m : List It) (lost : List Int) (k : Nat) : (readyTo now m lost k).length ≤ k := by
  induction k with
  | zero => exact Nat.le_refl _
  | succ k ih =>
    rw [readyTo]
    split
    · rw [List.length_append, List.length_singleton]; omega
    · omega

theorem mk_chan8 : ∀ w, (Instr.makeChan 83 (.int .i64 8)).run Try.prog w = .ok (.chan (some w.heap.size)) (w.alloc (.chan 8 #[] false 0 0 false)) := by
  intro w
  have hm : (Try.prog.info? 3).map (·.bytes) = some 8 := by kernel_rfl
  obtain ⟨i, hi, hb⟩ := Option.map_eq_some_iff.1 hm
  exact Go.Conc.run_makeChan (P := Try.prog) (w := w) Try.underlying83 hi .i64 8 (by omega) (by rw [hb]; omega)

/-- What the channel holds. -/
structure Ch (w : World) (c : Nat) (l : List Int) (W : World) : Prop where
  keeps : Keeps [] w W
  new : w.heap.size ≤ c
  chan : ∃ s r, W.heap[c]? = some (.chan 8 (ints l).toArray false s r false)
theorem Ch.moreK {w W W' : World} {c : Nat} {l : List Int} (h : Ch w c l W) (hk : Keeps [] W W') : Ch w c l W' := by
  obtain ⟨s, r, hc⟩ := h.chan
  exact ⟨h.keeps.trans hk, h.new, s, r, hk.heap hc (by simp)⟩
def chanLen (w : World) (c : Nat) : Nat := match w.heap[c]? with
  | some (.chan _ buf _ _ _ _) => buf.size
  | _ => 0
theorem Ch.len {w W : World} {c : Nat} {l : List Int} (h : Ch w c l W) : chanLen W c = l.length := by
  obtain ⟨s, r, hc⟩ := h.chan
  simp [chanLen, hc, ints]

set_option maxHeartbeats 1600000 in
set_option maxRecDepth 100000 in
theorem q_ready {B q : Nat} {w : World} {m : List It} {lost : List Int} (hq : QL B w q m lost) {now : Int} (h0 : 0 ≤ now) (h1 : now ≤ 1099511627776) :
    Calls Try.prog 16 #[.pointer (some ⟨q, 0, none⟩), .int .i64 now] w fun e w' => ∃ v, e = .returned (.tuple #[v, .int .i64 0]) ∧
      w'.ownsRow w.heap.size 3 1 v (readyTo now m lost 8).length (ints (readyTo now m lost 8)) ∧ Keeps [] w w' := by
  have HQ := Go.Lib.hid hq
  have hlost := hq.base.2.1
  have hm64 := hq.base.2.2.1
  have m1 := mk_chan8
  clear hq
  go_enter Try.func16, Try.ntmps16
  go_wp2_with fail
  refine (time_yes h0 h1 _).mono ?_
  rintro e w' ⟨rfl, rfl⟩
  go_upto_region 5 with fail
  obtain ⟨c, hc⟩ : ∃ c, c = w.heap.size := ⟨_, rfl⟩
  obtain ⟨w1, hw1⟩ : ∃ w1, w1 = w.alloc (.chan 8 #[] false 0 0 false) := ⟨_, rfl⟩
  rw [← hw1, ← hc]
  have HC0 : Hid (Ch w c (readyTo now m lost 0) w1) := ⟨by rw [hw1]; exact (Keeps.refl _ _).alloc _, by omega, 0, 0, by rw [hw1, hc]; exact heap_alloc_new _ _⟩
  clear hw1 hc m1
  go_loopw [16] (fun i wr => ∃ k : Nat, i = .int .i64 k ∧ k ≤ 8 ∧ Hid (Ch w c (readyTo now m lost k) wr)) (fun i _ => 8 - (intOf i).toNat)
  case atStart => exact ⟨0, rfl, by omega, HC0⟩
  case round =>
    clear HC0
    obtain ⟨k, rfl, hk, HC⟩ := hrel
    by_cases hlt : k < 8
    · have d1 : decide (k < 8) = true := decide_eq_true hlt
      have d2 : decide ((k : Int) < 8) = true := decide_eq_true (by omega)
      have HP := Go.Lib.hid (q_pending (HQ.out.new HC.out.keeps) hlt)
      go_wp2_with fail
      refine HP.out.mono ?_
      rintro e w2 ⟨rfl, hk2⟩
      have HC2 := Go.Lib.hid (HC.out.moreK hk2)
      clear hk2 HP HC
      obtain ⟨n, u, hnu⟩ : ∃ n u, pend k m = (n, u) := ⟨_, _, rfl⟩
      rw [hnu]
      have hn64 : n ≤ 64 := by have := pend_le k m; rw [hnu] at this; omega
      obtain ⟨z, hz⟩ : ∃ z, lost[k]? = some z := ⟨_, List.getElem?_eq_getElem (by omega)⟩
      have hr : rdyB now m lost k = (decide (8 ≤ n) || decide (0 < n) && (decide (u ≤ now) || decide (0 < z))) := by simp [rdyB, hnu, hz]
      obtain ⟨l, hql, hlm⟩ := HQ.out.new HC2.out.keeps
      obtain ⟨g, h, kk, hqq⟩ := hql
      obtain ⟨q0, q1⟩ := cell_at hqq.own (qA_get (g := g) hz)
      have HR := Go.Lib.hid hr
      clear hqq hlm hz hr hnu
      go_upto_region 8 with fail
      go_cut [44] from 24 to 44 (fun s44 wx => s44 = .bool (rdyB now m lost k) ∧ wx = w2)
      case first =>
        have dd : (decide (8 ≤ n) = true ∧ decide ((8 : Int) ≤ n) = true) ∨ (decide (8 ≤ n) = false ∧ decide ((8 : Int) ≤ n) = false) := by
          by_cases h : 8 ≤ n
          · exact .inl ⟨decide_eq_true h, decide_eq_true (by omega)⟩
          · exact .inr ⟨decide_eq_false h, decide_eq_false (by omega)⟩
        have de : (decide (0 < n) = true ∧ decide ((0 : Int) < n) = true) ∨ (decide (0 < n) = false ∧ decide ((0 : Int) < n) = false) := by
          by_cases h : 0 < n
          · exact .inl ⟨decide_eq_true h, decide_eq_true (by omega)⟩
          · exact .inr ⟨decide_eq_false h, decide_eq_false (by omega)⟩
        have df := Bool.eq_false_or_eq_true (decide (u ≤ now))
        have dg := Bool.eq_false_or_eq_true (decide (0 < z))
        rcases dd with ⟨a1, a2⟩ | ⟨a1, a2⟩
        · go_wp2
          go_meet
          case rel => exact ⟨by rw [HR.out, a1]; rfl, rfl⟩
        · rcases de with ⟨b1, b2⟩ | ⟨b1, b2⟩
          · rcases df with df | df
            · go_wp2
              go_meet
              case rel => exact ⟨by rw [HR.out, a1, b1, df]; rfl, rfl⟩
            · rcases dg with dg | dg
              · go_wp2
                go_meet
                case rel => exact ⟨by rw [HR.out, a1, b1, df, dg]; rfl, rfl⟩
              · go_wp2
                go_meet
                case rel => exact ⟨by rw [HR.out, a1, b1, df, dg]; rfl, rfl⟩
          · go_wp2
            go_meet
            case rel => exact ⟨by rw [HR.out, a1, b1]; rfl, rfl⟩
      case rest =>
        obtain ⟨rfl, rfl⟩ := hcut
        cases hrd : rdyB now m lost k with
        | false =>
          have HN : Hid (Ch w c (readyTo now m lost (k + 1)) wc) := by rw [readyTo, hrd]; exact HC2
          clear HC2
          go_wp2_with fail
          exact ⟨⟨k + 1, by go_num, by omega, HN⟩, by simp [intOf]; omega⟩
        | true =>
          go_upto_region 9 with fail
          obtain ⟨s, r, hch⟩ := HC2.out.chan
          have hroom : (ints (readyTo now m lost k)).toArray.size < 8 := by
            have := readyTo_len now m lost k
            simp [ints]; omega
          refine Sel.wp_send3 (v0 := .chan (some c)) (v1 := .int .i64 k) (c := c) (cap := 8) (buf := (ints (readyTo now m lost k)).toArray) (s := s) (r := r) (tm := false) (v := .int .i64 k) (z := .tuple #[]) rfl rfl rfl rfl
            (by simp [go_sem, execOp, Act.eval]) (by simp [go_sem, execOp, Act.eval, Act.put]) (by simp [go_sem, execOp, Go.Conc.scase, Act.eval, Act.put]) hch hroom ?_
          have HN : Hid (Ch w c (readyTo now m lost (k + 1)) (wc.setChan c 8 (ints (readyTo now m lost k) ++ [Value.int .i64 k]).toArray false (s + 1) r false)) := by
            refine ⟨HC2.out.keeps.step ((Keeps.refl [c] _).setChan (by simp) _ _ _ _ _ _) (by simp; exact HC2.out.new), HC2.out.new, s + 1, r, ?_⟩
            rw [Go.Conc.heap_setChan _ _ _ _ _ _ _ _ (lt_of_block hch), readyTo, hrd]
            simp [ints]
          clear HC2 hch
          go_wp2_with fail
          exact ⟨⟨k + 1, by go_num, by omega, HN⟩, by simp [intOf]; omega⟩
    · have d1 : decide (k < 8) = false := decide_eq_false hlt
      have d2 : decide ((k : Int) < 8) = false := decide_eq_false (by omega)
      have HC : Hid (Ch w c (readyTo now m lost 8) wr) := by
        have e : k = 8 := by omega
        subst e
        exact HC
      clear hk hlt
      go_upto_region 12 with fail
      obtain ⟨R, hR⟩ : ∃ R, R = readyTo now m lost 8 := ⟨_, rfl⟩
      rw [← hR] at HC
      have HR8 := Go.Lib.hid hR
      have hR8 : R.length ≤ 8 := by rw [hR]; exact readyTo_len _ _ _ _
      have hm : (Try.prog.info? 3).map (fun i => (i.zero, i.size, i.bytes)) = some (some (.int .i64 0), 1, 8) := by kernel_rfl
      obtain ⟨i0, hi, hz0, hz1, hz2⟩ := info_parts hm
      have HI := Go.Lib.hid hi
      have HZ0 := Go.Lib.hid hz0
      have HZ1 := Go.Lib.hid hz1
      have HZ2 := Go.Lib.hid hz2
      clear hR hm hi hz0 hz1 hz2
      have hbase := HC.out.keeps.size
      go_loopw [10] (fun v wx => ∃ (a b : List Int), Hid (R = a ++ b) ∧ Hid (Ch w c b wx) ∧ Hid (wx.ownsRow w.heap.size 3 1 v a.length (ints a))) (fun _ wx => chanLen wx c)
      case atStart => exact ⟨[], R, rfl, HC, World.ownsRow_nil _ _ _ _⟩
      case round =>
        clear HC
        obtain ⟨a, b, HAB, HC, HROW⟩ := hrel
        obtain ⟨s, r, hch⟩ := HC.out.chan
        have hal : a.length ≤ 8 := by
          have := congrArg List.length HAB.out
          rw [List.length_append] at this
          omega
        cases b with
        | nil =>
          have HRES : Hid (wr.ownsRow w.heap.size 3 1 u10 (readyTo now m lost 8).length (ints (readyTo now m lost 8))) := by
            rw [← HR8.out, HAB.out, List.append_nil]; exact HROW
          go_upto_region 13 with fail
          refine Sel.wp_recv_default (c := c) (cap := 8) (s := s) (r := r) (tm := false) (z := .int .i64 0) rfl rfl (by simp [go_sem, execOp, Go.Conc.rcase, Act.eval]) hch ?_
          go_wp2_with fail
          go_ret2
          exact ⟨_, rfl, HRES.out, HC.out.keeps⟩
        | cons x b =>
          go_upto_region 13 with fail
          refine Sel.wp_recv_ready (c := c) (cap := 8) (buf := (ints (x :: b)).toArray) (closed := false) (s := s) (r := r) (tm := false) (z := .int .i64 0) rfl rfl (by simp [go_sem, execOp, Go.Conc.rcase, Act.eval]) hch (by simp [ints]) ?_
          rw [show (ints (x :: b)).toArray.getD 0 undef = .int .i64 x from rfl, show (ints (x :: b)).toArray.extract 1 (ints (x :: b)).toArray.size = (ints b).toArray from by simp [ints, List.take_of_length_le]]
          obtain ⟨w2, hw2⟩ : ∃ w2, w2 = wr.setChan c 8 (ints b).toArray false s (r + 1) false := ⟨_, rfl⟩
          rw [← hw2]
          have hk2 : Keeps [c] wr w2 := by rw [hw2]; exact (Keeps.refl _ _).setChan (by simp) _ _ _ _ _ _
          have HC2 : Hid (Ch w c b w2) := ⟨HC.out.keeps.step hk2 (by simp; exact HC.out.new), HC.out.new, s, r + 1, by rw [hw2]; exact Go.Conc.heap_setChan _ _ _ _ _ _ _ _ (lt_of_block hch)⟩
          have HROW2 : Hid (w2.ownsRow w.heap.size 3 1 u10 a.length (ints a)) := by
            refine ⟨HROW.out.1, ?_⟩
            rcases HROW.out.2 with h6 | ⟨g', cap, cur, e1, e2, e3, e4⟩
            · exact .inl h6
            · exact .inr ⟨g', cap, cur, e1, e2, hk2.heap e3 (by simp; exact block_ne e3 hch (by simp)), e4⟩
          have hbb := HC2.out.keeps.size
          have hlen0 : chanLen wr c = b.length + 1 := by rw [HC.out.len]; rfl
          clear hw2 hk2 hch
          go_wp2_with (at_builtin; refine wpList_append_own _ rfl _ _ 25 rfl w.heap.size 3 i0 (.int .i64 0) 1 8 Try.underlying25 HI.out HZ0.out HZ1.out HZ2.out rfl (by decide) _ a.length _ rfl (HROW2.out.alloc _) ⟨w2.heap.size, 0, none⟩ 1 1 [.int .i64 x] rfl rfl ?c1 ?c2 ?c3 ?c4 ?c5 ?_)
          case c1 => exact cell_one_new _ _ _
          case c2 => simp [Value.oneCell']
          case c3 => unfold maxLen; omega
          case c4 => omega
          case c5 => simp; omega
          intro v' w3 hown hgrow _
          have hb : ∀ j, u10.ownBlock = some j → w.heap.size ≤ j ∧ j ≠ c := fun j e => by
            rcases HROW2.out.2 with ⟨rfl, _⟩ | ⟨g', cap, cur, rfl, e2, e3, e4⟩
            · simp [Value.ownBlock] at e
            · obtain rfl : g' = j := by simpa [Value.ownBlock] using e
              obtain ⟨s2, r2, hc2⟩ := HC2.out.chan
              exact ⟨e2, block_ne e3 hc2 (by simp)⟩
          have hka : Keeps [] w2 (w2.alloc (.cells #[.int .i64 x] 3)) := (Keeps.refl _ _).alloc _
          have HC3 : Hid (Ch w c b w3) := by
            have h1 := HC2.out.keeps.trans hka
            obtain ⟨s2, r2, hc2⟩ := HC2.out.chan
            refine ⟨⟨hgrow.os.trans h1.os, hgrow.tape.trans h1.tape, hgrow.output.trans h1.output, Nat.le_trans h1.size hgrow.size, fun j hj _ => (hgrow.block j (Nat.lt_of_lt_of_le hj h1.size) (fun e => by have := (hb j e.symm).1; omega)).trans (h1.block j hj (by simp))⟩, HC2.out.new, s2, r2, ?_⟩
            have hca := hka.heap hc2 (by simp)
            rw [hgrow.block c (lt_of_block hca) (fun e => (hb c e.symm).2 rfl)]
            exact hca
          have HROW3 : Hid (w3.ownsRow w.heap.size 3 1 v' (a ++ [x]).length (ints (a ++ [x]))) := Go.Lib.hid (by simpa [ints] using hown)
          have HAB2 : Hid (R = (a ++ [x]) ++ b) := by rw [List.append_assoc]; exact HAB.out
          have hlen1 : chanLen w3 c = b.length := HC3.out.len
          clear hown hgrow hb hka
          go_wp2_with fail
          go_roundw
          case rel => exact ⟨a ++ [x], b, HAB2, HC3, HROW3⟩
          case measure => rw [hlen1, hlen0]; omega
end Go.Proofs.Ytldnnkceeeinlaa
