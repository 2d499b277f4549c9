/- The laws' scripts: acts, wherever they lie. No condition. -/
import Derived.Test.YtldnnkceeeinlaaBWakes
namespace Go.Proofs.Ytldnnkceeeinlaa
open Go.RowKit

/-- One act of a script. -/
structure Act where
  d : Int
  e : Ev
  cl : List Int
  ws : List Int
  n : Int
def fld (a : Addr) (k : Nat) : Addr := ⟨a.block, a.off + k, none⟩
structure ActAt (w : World) (a : Addr) (x : Act) : Prop where
  d : w.cell? a = some (.int .i64 x.d)
  s : w.cell? (fld a 1) = some (.int .i64 x.e.s)
  t : w.cell? (fld a 2) = some (.int .i64 x.e.t)
  v0 : w.cell? (fld a 3) = some (.int .i64 x.e.v0)
  v1 : w.cell? (fld a 4) = some (.int .i64 x.e.v1)
  v2 : w.cell? (fld a 5) = some (.int .i64 x.e.v2)
  v3 : w.cell? (fld a 6) = some (.int .i64 x.e.v3)
  cl : ∃ C c, w.cell? (fld a 7) = some (.slice C x.cl.length c) ∧ x.cl.length ≤ c ∧ Nums w C x.cl
  ws : ∃ C c, w.cell? (fld a 8) = some (.slice C x.ws.length c) ∧ x.ws.length ≤ c ∧ Nums w C x.ws
  n : w.cell? (fld a 9) = some (.int .i64 x.n)
theorem Nums.keeps0 {w w' : World} {A : Option Addr} {l : List Int} (h : Nums w A l) (hk : Keeps [] w w') : Nums w' A l := by
  intro i x hx
  obtain ⟨a, ha, hc⟩ := h i x hx
  exact ⟨a, ha, hk.cell hc (by simp)⟩
theorem ActAt.keeps {w w' : World} {a : Addr} {x : Act} (h : ActAt w a x) (hk : Keeps [] w w') : ActAt w' a x := by
  obtain ⟨C, c, h1, h2, h3⟩ := h.cl
  obtain ⟨D, d, k1, k2, k3⟩ := h.ws
  exact ⟨hk.cell h.d (by simp), hk.cell h.s (by simp), hk.cell h.t (by simp), hk.cell h.v0 (by simp), hk.cell h.v1 (by simp), hk.cell h.v2 (by simp), hk.cell h.v3 (by simp),
    ⟨C, c, hk.cell h1 (by simp), h2, h3.keeps0 hk⟩, ⟨D, d, hk.cell k1 (by simp), k2, k3.keeps0 hk⟩, hk.cell h.n (by simp)⟩
def Acts (w : World) (A : Option Addr) (l : List Act) : Prop := ∀ i x, l[i]? = some x → ∃ a, A = some a ∧ ActAt w (a.add (i * 10)) x
theorem Acts.keeps {w w' : World} {A : Option Addr} {l : List Act} (h : Acts w A l) (hk : Keeps [] w w') : Acts w' A l := by
  intro i x hx
  obtain ⟨a, ha, h1⟩ := h i x hx
  exact ⟨a, ha, h1.keeps hk⟩

/-- A row of just one event. -/
theorem row_one {M : Nat} {w : World} {v : Value} {e : Ev} {n : Nat} {xs : List Value} (h : w.ownsRow M 31 6 v n xs) (hn : n = 1) (hx : xs = evs e) : ∃ g cp, v = .slice (some ⟨g, 0, none⟩) (1 : Nat) cp ∧ (∀ j u, (evs e)[j]? = some u → w.cell? ⟨g, j, none⟩ = some u) := by
  subst hn hx
  rcases h.2 with ⟨rfl, h0⟩ | ⟨g', cap, cur, rfl, e2, e3, e4⟩
  · omega
  · refine ⟨_, _, rfl, fun j u hu => ?_⟩
    have := h.cells (g := g') rfl j u hu
    rwa [Addr.add_lit, Nat.zero_add] at this
end Go.Proofs.Ytldnnkceeeinlaa
