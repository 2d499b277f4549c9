/- What is no form of a call: 'rising' and 'Put' say so; and the reference's 'MayPut', either way. No condition but the rows'. -/
import Derived.Test.YtldnnkceeeinlaaBWakes
namespace Go.Proofs.Ytldnnkceeeinlaa
open Go.RowKit

set_option maxHeartbeats 1600000 in
theorem rising_no {cl ws : List Int} {A D : Option Addr} {n m c0 c1 : Nat} (hn : n = cl.length) (hm : m = ws.length) (w : World) (hA : Nums w A cl) (hD : Nums w D ws) (hR : ¬ Rising cl ws) (h9 : cl.length ≤ 100) :
    Calls Try.prog 32 #[.slice A n c0, .slice D m c1] w fun e w' => e = .returned (.bool false) ∧ w = w' := by
  by_cases hnm : n = m
  · subst hnm
    have hnot : ¬ ∀ i, i < cl.length → OkAt cl ws i := fun h => hR ⟨by omega, h⟩
    have HA := Go.Lib.hid hA
    have HD := Go.Lib.hid hD
    have HO := Go.Lib.hid hnot
    have HN := Go.Lib.hid hn
    have HM := Go.Lib.hid hm
    have hm9 : n ≤ 100 := by omega
    clear hA hD hnot hn hm hR
    go_enter Try.func32, Try.ntmps32
    go_wp2_with fail
    go_loopw [14] (fun i wr => ∃ k : Nat, i = .int .i64 k ∧ k ≤ n ∧ Hid (∀ j, j < k → OkAt cl ws j) ∧ wr = w) (fun i _ => n - (intOf i).toNat)
    case atStart => exact ⟨0, rfl, Nat.zero_le _, fun j h => by omega, rfl⟩
    case round =>
      obtain ⟨k, rfl, hk, HK, rfl⟩ := hrel
      by_cases hlt : k < n
      · obtain ⟨c, hc⟩ : ∃ c, cl[k]? = some c := ⟨_, List.getElem?_eq_getElem (by have := HN.out; omega)⟩
        obtain ⟨x, hx⟩ : ∃ x, ws[k]? = some x := ⟨_, List.getElem?_eq_getElem (by have := HM.out; omega)⟩
        obtain ⟨a, rfl, a0⟩ := HA.out k c hc
        obtain ⟨d, rfl, b0⟩ := HD.out k x hx
        have d1 : decide (k < n) = true := decide_eq_true hlt
        by_cases hcr : 0 ≤ c ∧ c < 8
        · obtain ⟨h0, h8⟩ := hcr
          obtain ⟨cn, rfl⟩ : ∃ cn : Nat, c = cn := ⟨c.toNat, by omega⟩
          have hc8 : cn < 8 := by omega
          by_cases hprev : 0 < k
          · have d6 : decide (0 < k) = true := decide_eq_true hprev
            obtain ⟨y, hy⟩ : ∃ y, cl[k - 1]? = some y := ⟨_, List.getElem?_eq_getElem (by have := HN.out; omega)⟩
            obtain ⟨a', ha', p0⟩ := HA.out (k - 1) y hy
            obtain rfl : a = a' := by simpa using ha'
            by_cases hyc : y < cn
            · have d5 : decide ((cn : Int) ≤ y) = false := decide_eq_false (by omega)
              by_cases hx0 : x < 0
              · have d2 : decide (x < 0) = true := decide_eq_true hx0
                clear hc hx hy ha'
                go_wp2_with fail
                refine (client_yes hc8 _).mono ?_
                rintro e w' ⟨rfl, rfl⟩
                go_wp2
                go_ret
                exact ⟨rfl, rfl⟩
              · have d2 : decide (x < 0) = false := decide_eq_false hx0
                by_cases hx6 : 60000 < x
                · have d3 : decide (60000 < x) = true := decide_eq_true hx6
                  clear hc hx hy ha'
                  go_wp2_with fail
                  refine (client_yes hc8 _).mono ?_
                  rintro e w' ⟨rfl, rfl⟩
                  go_wp2
                  go_ret
                  exact ⟨rfl, rfl⟩
                · have d3 : decide (60000 < x) = false := decide_eq_false hx6
                  have HK2 : Hid (∀ j, j < k + 1 → OkAt cl ws j) := fun j hj => by
                    by_cases e : j = k
                    · subst e
                      exact ⟨cn, x, hc, hx, by omega, by omega, by omega, by omega, fun z _ hz => by rw [hy] at hz; obtain rfl := Option.some.inj hz; exact hyc⟩
                    · exact HK.out j (by omega)
                  clear hc hx hy ha'
                  go_wp2_with fail
                  refine (client_yes hc8 _).mono ?_
                  rintro e w' ⟨rfl, rfl⟩
                  go_wp2
                  exact ⟨⟨k + 1, by go_num, by omega, HK2, trivial⟩, by simp [intOf]; omega⟩
            · have d5 : decide ((cn : Int) ≤ y) = true := decide_eq_true (by omega)
              clear hc hx hy ha'
              go_wp2_with fail
              refine (client_yes hc8 _).mono ?_
              rintro e w' ⟨rfl, rfl⟩
              go_wp2
              go_ret
              exact ⟨rfl, rfl⟩
          · have d6 : decide (0 < k) = false := decide_eq_false hprev
            by_cases hx0 : x < 0
            · have d2 : decide (x < 0) = true := decide_eq_true hx0
              clear hc hx
              go_wp2_with fail
              refine (client_yes hc8 _).mono ?_
              rintro e w' ⟨rfl, rfl⟩
              go_wp2
              go_ret
              exact ⟨rfl, rfl⟩
            · have d2 : decide (x < 0) = false := decide_eq_false hx0
              by_cases hx6 : 60000 < x
              · have d3 : decide (60000 < x) = true := decide_eq_true hx6
                clear hc hx
                go_wp2_with fail
                refine (client_yes hc8 _).mono ?_
                rintro e w' ⟨rfl, rfl⟩
                go_wp2
                go_ret
                exact ⟨rfl, rfl⟩
              · have d3 : decide (60000 < x) = false := decide_eq_false hx6
                have HK2 : Hid (∀ j, j < k + 1 → OkAt cl ws j) := fun j hj => by
                  by_cases e : j = k
                  · subst e
                    exact ⟨cn, x, hc, hx, by omega, by omega, by omega, by omega, fun z h0 _ => by omega⟩
                  · exact HK.out j (by omega)
                clear hc hx
                go_wp2_with fail
                refine (client_yes hc8 _).mono ?_
                rintro e w' ⟨rfl, rfl⟩
                go_wp2
                exact ⟨⟨k + 1, by go_num, by omega, HK2, trivial⟩, by simp [intOf]; omega⟩
        · clear hc hx
          go_wp2_with fail
          refine (client_no (by omega) _).mono ?_
          rintro e w' ⟨rfl, rfl⟩
          go_wp2
          go_ret
          exact ⟨rfl, rfl⟩
      · exact absurd (fun i hi => HK.out i (by have := HN.out; omega)) HO.out
  · have e1 : ((n : Int) != m) = true := by simp; omega
    have e2 : (n != m) = true := by simp; omega
    have HX := Go.Lib.hid hnm
    clear hA hD hR hn hm hnm
    go_enter Try.func32, Try.ntmps32
    go_wp2
    go_ret
    exact ⟨rfl, rfl⟩

def MayPut (e : Ev) (cl ws : List Int) : Prop := Rising cl ws ∧ 0 ≤ e.t ∧ e.t ≤ 1099511627776

set_option maxHeartbeats 800000 in
theorem put_no {w : World} {e : Ev} {cl ws : List Int} {A D : Option Addr} {n m c0 c1 : Nat} (q : Nat) (hn : n = cl.length) (hm : m = ws.length) (hA : Nums w A cl) (hD : Nums w D ws) (hR : ¬ MayPut e cl ws) (h9 : cl.length ≤ 100) :
    Calls Try.prog 9 #[.pointer (some ⟨q, 0, none⟩), evA e, .slice A n c0, .slice D m c1] w fun e' w' => e' = .returned (.int .i64 1) ∧ Keeps [] w w' := by
  unfold evA
  go_enter Try.func9, Try.ntmps9
  go_upto_region 1 with fail
  obtain ⟨b5, hb5⟩ : ∃ b5, b5 = w.heap.size := ⟨_, rfl⟩
  obtain ⟨w0, hw0⟩ : ∃ w0, w0 = w.alloc (.cells (evs e).toArray 31) := ⟨_, rfl⟩
  rw [show (w.alloc (.cells #[.int .i64 e.s, .int .i64 e.t, .int .i64 e.v0, .int .i64 e.v1, .int .i64 e.v2, .int .i64 e.v3] 31)) = w0 from hw0.symm, ← hb5]
  have hk0 : Keeps [] w w0 := by rw [hw0]; exact (Keeps.refl _ _).alloc _
  have hx5 : w0.heap[b5]? = some (.cells (evs e).toArray 31 (0, 0)) := by rw [hw0, hb5]; exact heap_alloc_new _ _
  have e1 : w0.cell? ⟨b5, 1, none⟩ = some (.int .i64 e.t) := (cell_at hx5 rfl).1
  have HK0 := Go.Lib.hid hk0
  have hA0 := hA.keeps hk0 (by simp)
  have hD0 := hD.keeps hk0 (by simp)
  by_cases hri : Rising cl ws
  · have HRI := Go.Lib.hid (rising (c0 := c0) (c1 := c1) hn hm w0 hA0 hD0 hri h9)
    have htt : e.t < 0 ∨ 1099511627776 < e.t := by
      rcases Decidable.em (0 ≤ e.t ∧ e.t ≤ 1099511627776) with h | h
      · exact absurd ⟨hri, h.1, h.2⟩ hR
      · omega
    have HTI := Go.Lib.hid (time_no htt w0)
    clear htt
    clear hk0 hx5 hw0 hb5 hA hD hA0 hD0 hR hri hn hm
    go_wp2_with fail
    refine HRI.out.mono ?_
    rintro e' w' ⟨rfl, rfl⟩
    go_wp2_with fail
    refine HTI.out.mono ?_
    rintro e' w' ⟨rfl, rfl⟩
    go_wp2_with fail
    go_ret
    exact ⟨rfl, HK0.out⟩
  · have HRI := Go.Lib.hid (rising_no (c0 := c0) (c1 := c1) hn hm w0 hA0 hD0 hri h9)
    clear hk0 hx5 hw0 hb5 hA hD hA0 hD0 hR hri hn hm
    go_wp2_with fail
    refine HRI.out.mono ?_
    rintro e' w' ⟨rfl, rfl⟩
    go_wp2_with fail
    go_ret
    exact ⟨rfl, HK0.out⟩
end Go.Proofs.Ytldnnkceeeinlaa
