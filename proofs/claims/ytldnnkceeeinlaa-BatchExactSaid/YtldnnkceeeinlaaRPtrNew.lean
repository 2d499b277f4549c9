/- A new ring (Ptr): three new blocks, an empty list. No condition. -/
import Derived.Test.YtldnnkceeeinlaaRPtr
import Derived.RegionTactic
import Derived.BigRegion
import Derived.Conc.SmallLaws
import Derived.Laws.MakeOwn
namespace Go.Proofs.Ytldnnkceeeinlaa
namespace RPtr
open Go.RowKit

theorem mk_chan (n : Nat) (hn : n ≤ 256) : ∀ w, (Instr.makeChan 91 (.int .i64 n)).run Try.prog w = .ok (.chan (some w.heap.size)) (w.alloc (.chan n #[] false 0 0 false)) := by
  intro w
  have hm : (Try.prog.info? 94).map (·.bytes) = some 0 := by kernel_rfl
  obtain ⟨i, hi, hb⟩ := Option.map_eq_some_iff.1 hm
  exact Go.Conc.run_makeChan (P := Try.prog) (w := w) Try.underlying91 hi .i64 n (by omega) (by rw [hb]; omega)

theorem mk_slice (n : Nat) (hn : n ≤ 256) : ∀ w, (Instr.makeSlice 90 (.int .i64 n) (.int .i64 n)).run Try.prog w = .ok (.slice (some ⟨w.heap.size, 0, none⟩) n n) (w.alloc (.cells (madeCells (.pointer none : Value).cells (n * 1)) 71)) := by
  intro w
  have hm : (Try.prog.info? 71).map (fun i => (i.zero, i.size, i.bytes)) = some (some (.pointer none), 1, 8) := by kernel_rfl
  obtain ⟨i, hi, h⟩ := Option.map_eq_some_iff.1 hm
  simp only [Prod.mk.injEq] at h
  have := run_make (P := Try.prog) w 90 71 i (.pointer none) Try.underlying90 hi h.1 .i64 .i64 n n (by omega) (by omega) (by rw [h.2.2]; omega) (by omega)
  rw [h.2.1] at this
  simpa using this

theorem is_new {w : World} {g h c n : Nat} {buf arr : Array Value} (hn0 : 0 < n) (hn : n ≤ 256) (hgh : g ≠ h) (hg : w.heap[g]? = some (.cells #[.slice (some ⟨h, 0, none⟩) n n, .int .i64 0, .chan (some c)] 93 (0, 0)))
    (hh : w.heap[h]? = some (.cells arr 71 (0, 0))) (hs : arr.size = n * 1) (hb : buf = #[]) (hc : w.heap[c]? = some (.chan n buf false 0 0 false)) : Is w g h c n [] := by
  subst hb
  exact ⟨⟨0, _, _, _, _, hg, hh, hc, rfl, Holds.nil hs hn0⟩, hgh, hn⟩

set_option maxHeartbeats 1600000 in
theorem new_ok {n : Nat} (hn0 : 0 < n) (hn : n ≤ 256) (w : World) :
    Calls Try.prog 43 #[.int .i64 n] w fun e w' => ∃ g h c, e = .returned (.tuple #[.pointer (some ⟨g, 0, none⟩), .int .i64 0]) ∧ Is w' g h c n [] ∧ w.heap.size ≤ g ∧ w.heap.size ≤ h ∧ w.heap.size ≤ c ∧ Keeps [] w w' := by
  have h1 : ¬ ((n : Int) < 1) := by omega
  have h2 : ¬ ((n : Int) > 256) := by omega
  have d1 : decide ((n : Int) < 1) = false := decide_eq_false h1
  have d2 : decide ((256 : Int) < n) = false := decide_eq_false (by omega)
  have m1 := mk_chan n hn
  have m2 := mk_slice n hn
  go_enter Try.func43, Try.ntmps43
  go_wp2_with fail
  go_region
  all_goals
    go_wp2
    go_ret2
  · obtain ⟨a1, a2, a3⟩ := alloc3 w (.cells (madeCells #[.pointer none] (n)) 71) (.chan n #[] false 0 0 false) (.cells #[.slice (some ⟨w.heap.size, 0, none⟩) n n, .int .i64 0, .chan (some (w.heap.size + 1))] 93)
    exact ⟨w.heap.size + 1 + 1, w.heap.size, w.heap.size + 1, rfl, is_new (buf := #[]) hn0 hn (by omega) (by exact a3) (by exact a1) (by simp [size_madeCells]) rfl (by exact a2), by omega, by omega, by omega, ((((Keeps.refl _ _).alloc _).alloc _).alloc _).drew⟩
  · obtain ⟨a1, a2, a3⟩ := alloc3 w (.chan n #[] false 0 0 false) (.cells (madeCells #[.pointer none] (n)) 71) (.cells #[.slice (some ⟨w.heap.size + 1, 0, none⟩) n n, .int .i64 0, .chan (some w.heap.size)] 93)
    exact ⟨w.heap.size + 1 + 1, w.heap.size + 1, w.heap.size, rfl, is_new (buf := #[]) hn0 hn (by omega) (by exact a3) (by exact a2) (by simp [size_madeCells]) rfl (by exact a1), by omega, by omega, by omega, ((((Keeps.refl _ _).alloc _).alloc _).alloc _).drew⟩
end RPtr
end Go.Proofs.Ytldnnkceeeinlaa
