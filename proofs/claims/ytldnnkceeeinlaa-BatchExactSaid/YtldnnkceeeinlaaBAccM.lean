/- BatchAccounts, by the items alone. No condition but the numbers' bounds; no program. -/
import Derived.Test.YtldnnkceeeinlaaBWakes
namespace Go.Proofs.Ytldnnkceeeinlaa
open Go.RowKit

/-- Does an item wait for a client? -/
def wt (c : Nat) (x : It) : Bool := decide (0 ≤ x.u.getD c (-1))
theorem pend_cnt_from (c : Nat) (m : List It) : ∀ a : Nat × Int, (m.foldl (fun a x => pstep a (x.u.getD c (-1))) a).1 = a.1 + (m.filter (wt c)).length := by
  induction m with
  | nil => intro a; simp
  | cons x m ih =>
    intro a
    rw [List.foldl_cons, ih, List.filter_cons]
    by_cases h : 0 ≤ x.u.getD c (-1)
    · rw [if_pos (by simp only [wt, h, decide_true]), pstep, if_pos h, List.length_cons]
      simp only
      omega
    · rw [if_neg (by simp only [wt, h, decide_false]; simp), pstep, if_neg h]
theorem pend_cnt (c : Nat) (m : List It) : (pend c m).1 = (m.filter (wt c)).length := by
  have := pend_cnt_from c m (0, 0)
  simpa [pend] using this
theorem wt_waits {c : Nat} {x : It} (h : wt c x = true) : waitsB x = true := by
  have h0 : 0 ≤ x.u.getD c (-1) := by simpa [wt] using h
  cases hx : x.u[c]? with
  | none => rw [List.getD_eq_getElem?_getD, hx] at h0; simp at h0
  | some t =>
    rw [List.getD_eq_getElem?_getD, hx] at h0
    exact waits_yes hx h0
theorem sweep_wt (c : Nat) (m : List It) : (sweepM m).filter (wt c) = m.filter (wt c) := by
  rw [sweepM, List.filter_filter]
  refine List.filter_congr fun x _ => ?_
  cases h : wt c x with
  | false => rfl
  | true => rw [wt_waits h]; rfl

/-! ### a take, from the left -/
def takeR (c : Nat) : Nat → List It → List Ev × List It
  | _, [] => ([], [])
  | k, x :: t => if 0 < k ∧ 0 ≤ x.u.getD c (-1) then (x.e :: (takeR c (k - 1) t).1, ⟨x.e, x.u.set c (-1)⟩ :: (takeR c (k - 1) t).2) else ((takeR c k t).1, x :: (takeR c k t).2)
theorem takeM_from (c k : Nat) (m : List It) : ∀ s : List Ev × List It,
    m.foldl (fun s x => if s.1.length < k ∧ 0 ≤ x.u.getD c (-1) then (s.1 ++ [x.e], s.2 ++ [(⟨x.e, x.u.set c (-1)⟩ : It)]) else (s.1, s.2 ++ [x])) s = (s.1 ++ (takeR c (k - s.1.length) m).1, s.2 ++ (takeR c (k - s.1.length) m).2) := by
  induction m with
  | nil => intro s; simp [takeR]
  | cons x m ih =>
    intro s
    rw [List.foldl_cons, ih, takeR]
    by_cases h : s.1.length < k ∧ 0 ≤ x.u.getD c (-1)
    · rw [if_pos h, if_pos ⟨by omega, h.2⟩]
      simp only [List.length_append, List.length_singleton, List.append_assoc, List.singleton_append]
      rw [show k - (s.1.length + 1) = k - s.1.length - 1 by omega]
    · rw [if_neg h, if_neg (fun hh => h ⟨by omega, hh.2⟩)]
      simp only [List.append_assoc, List.singleton_append]
theorem takeM_eq (c k : Nat) (m : List It) : takeM c k m = takeR c k m := by
  have := takeM_from c k m ([], [])
  simpa [takeM] using this
theorem set_getD_self (u : List Int) (c : Nat) : (u.set c (-1)).getD c (-1) = -1 := by
  rw [List.getD_eq_getElem?_getD, List.getElem?_set]
  by_cases h : c < u.length
  · simp [h]
  · simp [h]
theorem set_getD_other (u : List Int) {c d : Nat} (h : d ≠ c) (y : Int) : (u.set c y).getD d (-1) = u.getD d (-1) := by
  rw [List.getD_eq_getElem?_getD, List.getElem?_set_ne (Ne.symm h), ← List.getD_eq_getElem?_getD]
theorem takeR_evs (c : Nat) (m : List It) : ∀ k, (takeR c k m).1 = ((m.filter (wt c)).take k).map (·.e) := by
  induction m with
  | nil => intro k; simp [takeR]
  | cons x m ih =>
    intro k
    rw [takeR, List.filter_cons]
    by_cases h : 0 ≤ x.u.getD c (-1)
    · rw [if_pos (show wt c x = true by simp only [wt, h, decide_true])]
      cases k with
      | zero => simp [ih]
      | succ k => rw [if_pos ⟨by omega, h⟩]; simp [ih]
    · rw [if_neg (fun hh => h hh.2), if_neg (show ¬ wt c x = true by simp only [wt, h, decide_false]; simp)]
      exact ih k
theorem takeR_rest (c : Nat) (m : List It) : ∀ k, (takeR c k m).2.filter (wt c) = (m.filter (wt c)).drop k := by
  induction m with
  | nil => intro k; simp [takeR]
  | cons x m ih =>
    intro k
    rw [takeR, List.filter_cons]
    by_cases h : 0 ≤ x.u.getD c (-1)
    · rw [if_pos (show wt c x = true by simp only [wt, h, decide_true])]
      cases k with
      | zero =>
        rw [if_neg (fun hh => by omega)]
        simp only
        rw [List.filter_cons, if_pos (show wt c x = true by simp only [wt, h, decide_true]), ih, List.drop_zero, List.drop_zero]
      | succ k =>
        rw [if_pos ⟨by omega, h⟩]
        simp only [List.filter_cons, Nat.add_sub_cancel, List.drop_succ_cons]
        rw [if_neg (by simp only [wt, set_getD_self]; decide), ih]
    · rw [if_neg (fun hh => h hh.2), if_neg (show ¬ wt c x = true by simp only [wt, h, decide_false]; simp)]
      simp only [List.filter_cons]
      rw [if_neg (show ¬ wt c x = true by simp only [wt, h, decide_false]; simp)]
      exact ih k
theorem takeR_es (c : Nat) (m : List It) : ∀ k, (takeR c k m).2.map (·.e) = m.map (·.e) := by
  induction m with
  | nil => intro k; simp [takeR]
  | cons x m ih => intro k; rw [takeR]; split <;> simp [ih]
theorem takeR_other (c d : Nat) (hd : d ≠ c) (m : List It) : ∀ k, ((takeR c k m).2.filter (wt d)).map (·.e) = (m.filter (wt d)).map (·.e) := by
  induction m with
  | nil => intro k; simp [takeR]
  | cons x m ih =>
    intro k
    rw [takeR]
    split
    · simp only [List.filter_cons]
      rw [show wt d ⟨x.e, x.u.set c (-1)⟩ = wt d x by simp only [wt, set_getD_other _ hd]]
      split <;> simp [ih]
    · simp only [List.filter_cons]
      split <;> simp [ih]

/-! ### the accounts -/
structure AccM (m : List It) (L P G O T : List Int) (n : Int) (i : Nat) : Prop where
  n0 : 0 ≤ n
  ni : n ≤ i
  bal : ∀ c, c < 8 → P.getD c 0 = G.getD c 0 + O.getD c 0 + ((m.filter (wt c)).length : Int) + L.getD c 0
  low : ∀ c, c < 8 → 0 ≤ G.getD c 0 ∧ 0 ≤ O.getD c 0 ∧ 0 ≤ L.getD c 0 ∧ P.getD c 0 ≤ i
  ord : (m.map (·.e.t)).Pairwise (· < ·)
  top : ∀ x ∈ m, x.e.t ≤ n
  last : ∀ c, c < 8 → T.getD c 0 ≤ n ∧ ∀ x ∈ m, wt c x = true → T.getD c 0 < x.e.t
  P8 : P.length = 8
  G8 : G.length = 8
  O8 : O.length = 8
  T8 : T.length = 8
  L8 : L.length = 8

theorem set_getD (l : List Int) {c d : Nat} (hc : c < l.length) (y : Int) : (l.set c y).getD d 0 = if d = c then y else l.getD d 0 := by
  rw [List.getD_eq_getElem?_getD, List.getElem?_set]
  by_cases h : c = d
  · subst h; simp [hc]
  · rw [if_neg h, if_neg (Ne.symm h), ← List.getD_eq_getElem?_getD]

/-- What the last of some events says. -/
def lastOf (t : Int) (l : List Ev) : Int := l.foldl (fun _ e => e.t) t
theorem lastOf_snoc (t : Int) (l : List Ev) (e : Ev) : lastOf t (l ++ [e]) = e.t := by simp [lastOf]

theorem AccM.wait {m : List It} {L P G O T : List Int} {n : Int} {i : Nat} (h : AccM m L P G O T n i) : AccM m L P G O T (n + 1) (i + 1) :=
  ⟨by have := h.n0; omega, by have := h.ni; omega, h.bal, fun c hc => by have := h.low c hc; omega, h.ord, fun x hx => by have := h.top x hx; omega, fun c hc => by
    obtain ⟨h1, h2⟩ := h.last c hc
    exact ⟨by omega, h2⟩, h.P8, h.G8, h.O8, h.T8, h.L8⟩
theorem AccM.later {m : List It} {L P G O T : List Int} {n : Int} {i : Nat} (h : AccM m L P G O T n i) : AccM m L P G O T n (i + 1) :=
  ⟨h.n0, by have := h.ni; omega, h.bal, fun c hc => by have := h.low c hc; omega, h.ord, h.top, h.last, h.P8, h.G8, h.O8, h.T8, h.L8⟩

theorem lastOf_lt (A B : List Ev) : ∀ t0 : Int, ((A ++ B).map (·.t)).Pairwise (· < ·) → (∀ e ∈ A ++ B, t0 < e.t) → ∀ x ∈ B, lastOf t0 A < x.t := by
  induction A with
  | nil => intro t0 _ h x hx; exact h x hx
  | cons a A ih =>
    intro t0 hp h x hx
    rw [List.cons_append, List.map_cons, List.pairwise_cons] at hp
    exact ih a.t hp.2 (fun e he => hp.1 e.t (List.mem_map_of_mem he)) x hx
theorem lastOf_le (A : List Ev) : ∀ t0 n : Int, t0 ≤ n → (∀ e ∈ A, e.t ≤ n) → lastOf t0 A ≤ n := by
  induction A with
  | nil => intro t0 n h _; exact h
  | cons a A ih => intro t0 n h hA; exact ih a.t n (hA a (by simp)) (fun e he => hA e (List.mem_cons_of_mem _ he))

/-- What waits for a client: in order, behind the last one told. -/
theorem AccM.waits {m : List It} {L P G O T : List Int} {n : Int} {i : Nat} (h : AccM m L P G O T n i) {c : Nat} (hc : c < 8) :
    (((m.filter (wt c)).map (·.e)).map (·.t)).Pairwise (· < ·) ∧ ∀ e ∈ (m.filter (wt c)).map (·.e), T.getD c 0 < e.t ∧ e.t ≤ n := by
  refine ⟨?_, fun e he => ?_⟩
  · rw [List.map_map]
    exact h.ord.sublist (List.filter_sublist.map _)
  · obtain ⟨x, hx, rfl⟩ := List.mem_map.1 he
    obtain ⟨h1, h2⟩ := List.mem_filter.1 hx
    exact ⟨(h.last c hc).2 x h1 h2, h.top x h1⟩

/-- A take: the events come in order, behind the last one told. -/
theorem AccM.evs {m : List It} {L P G O T : List Int} {n : Int} {i : Nat} (h : AccM m L P G O T n i) {c : Nat} (hc : c < 8) (k : Nat) :
    ∀ j e, (takeM c k m).1[j]? = some e → lastOf (T.getD c 0) ((takeM c k m).1.take j) < e.t ∧ e.t ≤ n := by
  rw [takeM_eq, takeR_evs]
  obtain ⟨h1, h2⟩ := h.waits hc
  intro j e he
  obtain ⟨V, hV⟩ : ∃ V, V = (m.filter (wt c)).map (·.e) := ⟨_, rfl⟩
  rw [List.map_take, ← hV] at he ⊢
  rw [← hV] at h1 h2
  have hm : e ∈ (V.take k).drop j := by
    refine List.mem_of_getElem? (i := 0) ?_
    rw [List.getElem?_drop]
    exact he
  have hsub : ((V.take k).map (·.t)).Pairwise (· < ·) := h1.sublist ((List.take_sublist _ _).map _)
  have hin : ∀ e ∈ V.take k, e ∈ V := fun e he => List.mem_of_mem_take he
  refine ⟨lastOf_lt ((V.take k).take j) ((V.take k).drop j) _ (by rw [List.take_append_drop]; exact hsub) (by rw [List.take_append_drop]; exact fun e he => (h2 e (hin e he)).1) e hm, (h2 e (hin e (List.mem_of_mem_drop hm))).2⟩

theorem AccM.take {m : List It} {L P G O T : List Int} {n : Int} {i : Nat} (h : AccM m L P G O T n i) {c : Nat} (hc : c < 8) (k : Nat) :
    AccM (sweepM (takeM c k m).2) (L.set c 0) P (G.set c (G.getD c 0 + ((takeM c k m).1.length : Int))) (O.set c (O.getD c 0 + L.getD c 0)) (T.set c (lastOf (T.getD c 0) (takeM c k m).1)) n (i + 1) := by
  have hev := h.evs hc k
  rw [takeM_eq] at hev ⊢
  have hcnt : ∀ d, d < 8 → ((sweepM (takeR c k m).2).filter (wt d)).length + (if d = c then (takeR c k m).1.length else 0) = (m.filter (wt d)).length := fun d hd => by
    rw [sweep_wt]
    split
    · rename_i e
      subst e
      rw [takeR_rest, takeR_evs, List.length_map, List.length_take, List.length_drop]
      omega
    · rename_i e
      have := congrArg List.length (takeR_other c d e m k)
      simpa using this
  have hes := takeR_es c m k
  refine ⟨h.n0, by have := h.ni; omega, fun d hd => ?_, fun d hd => ?_, ?_, fun x hx => ?_, fun d hd => ⟨?_, fun x hx hw => ?_⟩, h.P8, by rw [List.length_set]; exact h.G8, by rw [List.length_set]; exact h.O8, by rw [List.length_set]; exact h.T8, by rw [List.length_set]; exact h.L8⟩
  · have h1 := h.bal d hd
    have h2 := hcnt d hd
    rw [set_getD G (by rw [h.G8]; exact hc), set_getD O (by rw [h.O8]; exact hc), set_getD L (by rw [h.L8]; exact hc)]
    by_cases e : d = c
    · subst e
      simp only [if_true] at h2 ⊢
      omega
    · simp only [if_neg e] at h2 ⊢
      omega
  · have h1 := h.low d hd
    have h2 := h.low c hc
    rw [set_getD G (by rw [h.G8]; exact hc), set_getD O (by rw [h.O8]; exact hc), set_getD L (by rw [h.L8]; exact hc)]
    by_cases e : d = c
    · simp only [if_pos e]; omega
    · simp only [if_neg e]; omega
  · have h1 : ((takeR c k m).2.map (·.e.t)).Pairwise (· < ·) := by
      have : (takeR c k m).2.map (·.e.t) = m.map (·.e.t) := by
        have := congrArg (List.map (fun e : Ev => e.t)) hes
        simpa [List.map_map, Function.comp_def] using this
      rw [this]; exact h.ord
    exact h1.sublist (List.filter_sublist.map _)
  · have h1 : x.e ∈ m.map (·.e) := by rw [← hes]; exact List.mem_map_of_mem (List.mem_filter.1 hx).1
    obtain ⟨y, hy, e⟩ := List.mem_map.1 h1
    rw [← e]
    exact h.top y hy
  · rw [set_getD T (by rw [h.T8]; exact hc)]
    split
    · refine lastOf_le _ _ _ (h.last c hc).1 (fun e he => ?_)
      rw [takeR_evs, List.map_take] at he
      exact ((h.waits hc).2 e (List.mem_of_mem_take he)).2
    · exact (h.last d hd).1
  · have hxm : x ∈ (takeR c k m).2 := (List.mem_filter.1 hx).1
    rw [set_getD T (by rw [h.T8]; exact hc)]
    split
    · rename_i e
      subst e
      obtain ⟨h1, h2⟩ := h.waits hc
      have hr : x ∈ (m.filter (wt d)).drop k := by
        rw [← takeR_rest]
        exact List.mem_filter.2 ⟨hxm, hw⟩
      have hmap : x.e ∈ ((m.filter (wt d)).map (·.e)).drop k := by
        rw [← List.map_drop]
        exact List.mem_map_of_mem hr
      rw [takeR_evs, List.map_take]
      exact lastOf_lt _ (((m.filter (wt d)).map (·.e)).drop k) _ (by rw [List.take_append_drop]; exact h1) (by rw [List.take_append_drop]; exact fun e he => (h2 e he).1) x.e hmap
    · rename_i e
      have h1 : x.e ∈ ((takeR c k m).2.filter (wt d)).map (·.e) := List.mem_map_of_mem (List.mem_filter.2 ⟨hxm, hw⟩)
      rw [takeR_other c d e m k] at h1
      exact ((h.waits hd).2 x.e h1).1

/-- What a client is told of with one more event put. -/
theorem AccM.put {m : List It} {L P P' G O T : List Int} {n : Int} {i : Nat} (h : AccM m L P G O T n i) (hm : m.length ≤ 64) {x : It} (hx : x.e.t = n + 1) (hP8 : P'.length = 8)
    (hP : ∀ c, c < 8 → P'.getD c 0 = P.getD c 0 + (if wt c x = true then 1 else 0)) : AccM (putM m x) (lostM m L) P' G O T (n + 1) (i + 1) := by
  have key : ∀ m0 L0, AccM m0 L0 P G O T n i → AccM (m0 ++ [x]) L0 P' G O T (n + 1) (i + 1) := fun m0 L0 h => by
    refine ⟨by have := h.n0; omega, by have := h.ni; omega, fun c hc => ?_, fun c hc => ?_, ?_, fun y hy => ?_, fun c hc => ⟨?_, fun y hy hw => ?_⟩, hP8, h.G8, h.O8, h.T8, h.L8⟩
    · have h1 := h.bal c hc
      have h2 := hP c hc
      rw [List.filter_append, List.length_append, List.filter_cons]
      split
      · rename_i e; rw [if_pos e] at h2; simp only [List.filter_nil, List.length_cons, List.length_nil]; omega
      · rename_i e; rw [if_neg e] at h2; simp only [List.filter_nil, List.length_nil]; omega
    · have h1 := h.low c hc
      have h2 := hP c hc
      split at h2 <;> omega
    · rw [List.map_append, List.pairwise_append]
      refine ⟨h.ord, by simp, fun a ha b hb => ?_⟩
      obtain ⟨y, hy, rfl⟩ := List.mem_map.1 ha
      obtain rfl : b = x.e.t := by simpa using hb
      have := h.top y hy
      omega
    · rcases List.mem_append.1 hy with h1 | h1
      · have := h.top y h1; omega
      · obtain rfl : y = x := by simpa using h1
        omega
    · have := (h.last c hc).1; omega
    · rcases List.mem_append.1 hy with h1 | h1
      · exact (h.last c hc).2 y h1 hw
      · obtain rfl : y = x := by simpa using h1
        have := (h.last c hc).1
        omega
  rw [putM, lostM]
  split
  · exact key m L h
  · rename_i hfull
    cases m with
    | nil => simp at hfull
    | cons y t =>
      refine key t _ ?_
      simp only [List.head?_cons, Option.map_some, Option.getD_some]
      have hb : ∀ c, c < 8 → (bump y.u L).getD c 0 = L.getD c 0 + (if wt c y = true then 1 else 0) := fun c hc => by
        rw [bump, List.getD_eq_getElem?_getD, bumpTo_get]
        obtain ⟨z, hz⟩ : ∃ z, L[c]? = some z := ⟨_, List.getElem?_eq_getElem (by rw [h.L8]; exact hc)⟩
        rw [List.getD_eq_getElem?_getD, hz]
        by_cases e : 0 ≤ y.u.getD c (-1)
        · rw [if_pos ⟨hc, e⟩, if_pos (show wt c y = true by simp only [wt, e, decide_true])]; simp [hz]
        · rw [if_neg (fun hh => e hh.2), if_neg (show ¬ wt c y = true by simp only [wt, e, decide_false]; simp)]; simp [hz]
      have ho := h.ord
      rw [List.map_cons, List.pairwise_cons] at ho
      refine ⟨h.n0, h.ni, fun c hc => ?_, fun c hc => ?_, ho.2, fun z hz => h.top z (List.mem_cons_of_mem _ hz), fun c hc => ⟨(h.last c hc).1, fun z hz => (h.last c hc).2 z (List.mem_cons_of_mem _ hz)⟩, h.P8, h.G8, h.O8, h.T8, by rw [bump, bumpTo_len]; exact h.L8⟩
      · have h1 := h.bal c hc
        rw [List.filter_cons] at h1
        rw [hb c hc]
        split at h1
        · rename_i e; rw [if_pos e]; simp only [List.length_cons] at h1; omega
        · rename_i e; rw [if_neg e]; omega
      · have h1 := h.low c hc
        rw [hb c hc]
        split <;> omega

/-- Till when the clients of a list wait. -/
theorem uFill_get (t : Int) (cl : List Int) (hcl : ∀ x ∈ cl, 0 ≤ x) (c : Nat) (hc : c < 8) : ∀ k, k ≤ cl.length → (uFill t cl (List.replicate cl.length 60000) k).getD c (-1) = if (c : Int) ∈ cl.take k then t + 60000 else -1 := by
  intro k
  induction k with
  | zero =>
    intro _
    rcases (show c = 0 ∨ c = 1 ∨ c = 2 ∨ c = 3 ∨ c = 4 ∨ c = 5 ∨ c = 6 ∨ c = 7 by omega) with rfl | rfl | rfl | rfl | rfl | rfl | rfl | rfl <;> rfl
  | succ k ih =>
    intro hk
    obtain ⟨y, hy⟩ : ∃ y, cl[k]? = some y := ⟨_, List.getElem?_eq_getElem (by omega)⟩
    have hy0 := hcl y (List.mem_of_getElem? hy)
    have hr : (List.replicate cl.length (60000 : Int))[k]? = some 60000 := by rw [List.getElem?_replicate, if_pos (by omega)]
    rw [uFill, List.getD_eq_getElem?_getD (l := cl), hy, List.getD_eq_getElem?_getD (l := List.replicate _ _), hr, List.take_add_one, hy]
    simp only [Option.getD_some, Option.toList_some, List.mem_append, List.mem_singleton]
    rw [List.getD_eq_getElem?_getD, List.getElem?_set]
    by_cases e : y.toNat = c
    · rw [if_pos e, if_pos (by rw [uFill_len]; omega), if_pos (.inr (by omega))]
      rfl
    · rw [if_neg e, ← List.getD_eq_getElem?_getD, ih (by omega)]
      have : ((c : Int) ∈ cl.take k ∨ (c : Int) = y) ↔ (c : Int) ∈ cl.take k := ⟨fun h => h.elim id (fun h => absurd h (by omega)), .inl⟩
      simp only [this]
theorem uOf_wt (t : Int) (ht : 0 ≤ t) (e : Ev) (cl : List Int) (hcl : ∀ x ∈ cl, 0 ≤ x) (c : Nat) (hc : c < 8) : (wt c ⟨e, uOf t cl (List.replicate cl.length 60000)⟩ = true) ↔ (c : Int) ∈ cl := by
  rw [wt, uOf, uFill_get t cl hcl c hc _ (Nat.le_refl _), List.take_length]
  by_cases h : (c : Int) ∈ cl
  · simp [h]; omega
  · simp [h]
end Go.Proofs.Ytldnnkceeeinlaa
