/- 'rising': are these clients, rising, each with a wait? No condition but the two rows'. -/
import Derived.Test.YtldnnkceeeinlaaBSmall
namespace Go.Proofs.Ytldnnkceeeinlaa
open Go.RowKit

/-- A row of numbers, wherever it lies. -/
def Nums (w : World) (A : Option Addr) (l : List Int) : Prop := ∀ i x, l[i]? = some x → ∃ a, A = some a ∧ w.cell? (a.add i) = some (.int .i64 x)
/-- One place of the two rows. -/
def OkAt (cl ws : List Int) (i : Nat) : Prop := ∃ c x, cl[i]? = some c ∧ ws[i]? = some x ∧ 0 ≤ c ∧ c < 8 ∧ 0 ≤ x ∧ x ≤ 60000 ∧ (∀ y, 0 < i → cl[i - 1]? = some y → y < c)
def Rising (cl ws : List Int) : Prop := cl.length = ws.length ∧ ∀ i, i < cl.length → OkAt cl ws i

set_option maxHeartbeats 1600000 in
theorem rising {cl ws : List Int} {A D : Option Addr} {n m c0 c1 : Nat} (hn : n = cl.length) (hm : m = ws.length) (w : World) (hA : Nums w A cl) (hD : Nums w D ws) (hR : Rising cl ws) (h9 : cl.length ≤ 100) :
    Calls Try.prog 32 #[.slice A n c0, .slice D m c1] w fun e w' => e = .returned (.bool true) ∧ w = w' := by
  obtain ⟨hlen, hok⟩ := hR
  obtain rfl : m = n := by omega
  have HA := Go.Lib.hid hA
  have HD := Go.Lib.hid hD
  have HO := Go.Lib.hid hok
  have HN := Go.Lib.hid hn
  have hm9 : m ≤ 100 := by omega
  clear hA hD hok hn hm hlen
  go_enter Try.func32, Try.ntmps32
  go_wp2_with fail
  go_loopw [14] (fun i wr => ∃ k : Nat, i = .int .i64 k ∧ k ≤ m ∧ wr = w) (fun i _ => m - (intOf i).toNat)
  case atStart => exact ⟨0, rfl, Nat.zero_le _, rfl⟩
  case round =>
    obtain ⟨k, rfl, hk, rfl⟩ := hrel
    by_cases hlt : k < m
    · obtain ⟨c, x, hc, hx, e0, e1, e2, e3, e4⟩ := HO.out k (by have := HN.out; omega)
      obtain ⟨a, rfl, a0⟩ := HA.out k c hc
      obtain ⟨d, rfl, b0⟩ := HD.out k x hx
      obtain ⟨cn, rfl⟩ : ∃ cn : Nat, c = cn := ⟨c.toNat, by omega⟩
      have hc8 : cn < 8 := by omega
      have d1 : decide (k < m) = true := decide_eq_true hlt
      have d2 : decide (x < 0) = false := decide_eq_false (by omega)
      have d3 : decide (60000 < x) = false := decide_eq_false (by omega)
      by_cases hk0 : 0 < k
      · obtain ⟨y, hy⟩ : ∃ y, cl[k - 1]? = some y := ⟨_, List.getElem?_eq_getElem (by have := HN.out; omega)⟩
        have hyc := e4 y hk0 hy
        obtain ⟨a', ha', p0⟩ := HA.out (k - 1) y hy
        obtain rfl : a = a' := by simpa using ha'
        have d5 : decide ((cn : Int) ≤ y) = false := decide_eq_false (by omega)
        have d6 : decide (0 < k) = true := decide_eq_true hk0
        clear hc hx e4 hy ha'
        go_wp2_with fail
        refine (client_yes hc8 _).mono ?_
        rintro e w' ⟨rfl, rfl⟩
        go_wp2
        exact ⟨⟨k + 1, by go_num, by omega, trivial⟩, by simp [intOf]; omega⟩
      · have d6 : decide (0 < k) = false := decide_eq_false hk0
        clear hc hx e4
        go_wp2_with fail
        refine (client_yes hc8 _).mono ?_
        rintro e w' ⟨rfl, rfl⟩
        go_wp2
        exact ⟨⟨k + 1, by go_num, by omega, trivial⟩, by simp [intOf]; omega⟩
    · obtain rfl : k = m := by omega
      go_wp2
      go_ret
      exact ⟨rfl, rfl⟩
end Go.Proofs.Ytldnnkceeeinlaa
