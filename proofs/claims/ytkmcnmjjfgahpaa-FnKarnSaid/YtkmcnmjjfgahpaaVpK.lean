/-
  FnKarn: what is seen, all of it; the least and the greatest.
-/
import Derived.Test.YtkmcnmjjfgahpaaVyL
import Derived.Test.YtkmcnmjjfgahpaaVaE
open Go Go.VS
namespace Go.VxW

def allSeen (l : List Seen) : Bool := l.all seenB && decide (l.length ≤ 60)
theorem iAll {l : List Seen} (hl : l.length < 2 ^ 47) : impl_areSeen l = some (allSeen l) := by
  unfold impl_areSeen allSeen
  rw [whl_lg l (impl_areSeen_l0 l) (fun k (_ : Unit) => k) (fun _ x s => if seenB x then .next s else .done (.done false)) (fun _ => .next ()) (fun k hk s => by
    simp only [impl_areSeen_l0, Int.ofNat_lt, hk, decide_true, cond_true, idx_lt, Option.bind_some, iSeen]
    rw [w64 (by omega)]
    cases seenB l[k] <;> rfl) (fun s => by simp [impl_areSeen_l0]) (), lgo_all seenB _ (fun _ _ _ => rfl), Option.bind_some]
  cases l.all seenB <;> simp <;> omega

def seeAllF (n : Int) (l : List Seen) : Guess := l.foldl seeF ⟨8 * n, 2 * n, 1, 0⟩
def allOk (n : Int) (l : List Seen) : Bool := inB n 1 1000 && allSeen l
theorem iSeeAll (n : Int) {l : List Seen} (hl : l.length < 2 ^ 47) : impl_SeeAll n l = some (if allOk n l then seeAllF n l else ⟨0, 0, 0, 0⟩, allOk n l) := by
  unfold impl_SeeAll impl_NewGuess allOk
  rw [iIn]
  cases hn : inB n 1 1000
  · rfl
  · have := inB_iff.1 hn
    simp only [Option.bind_some, Bool.not_true, cond_false, iAll hl, Bool.true_and]
    cases allSeen l
    · rfl
    · simp only [Bool.not_true, cond_false, if_true]
      rw [w64 (x := 8 * n) (by omega), w64 (x := 2 * n) (by omega)]
      rw [whl_lg l (impl_SeeAll_l0 l) (fun k (s : Guess) => (k, s.Mean, s.Swing, s.Many, s.Back)) (fun _ x s => .next (seeF s x)) (fun s => (s.Mean, s.Swing, s.Many, s.Back)) (fun k hk s => by
        simp only [impl_SeeAll_l0, Int.ofNat_lt, hk, decide_true, cond_true, idx_lt, Option.bind_some, iSee]
        rw [w64 (by omega)]
        rfl) (fun s => by simp [impl_SeeAll_l0]) ⟨8 * n, 2 * n, 1, 0⟩, lgo_fold (fun s x => seeF s x) (fun _ _ _ => rfl)]
      rfl
theorem sSeeAll (n : Int) {l : List Seen} (hl : l.length < 2 ^ 47) : spec_SeeAll n l = some (if allOk n l then seeAllF n l else ⟨0, 0, 0, 0⟩, allOk n l) := by
  unfold spec_SeeAll spec_NewGuess allOk allSeen
  rw [sIn]
  cases hn : inB n 1 1000
  · rfl
  · have := inB_iff.1 hn
    simp only [Option.bind_some, Bool.not_true, cond_false, Bool.true_and]
    by_cases h6 : l.length ≤ 60
    · rw [show decide (60 < (l.length : Int)) = false by simp; omega, show decide (l.length ≤ 60) = true by simpa using h6]
      simp only [cond_false, Bool.and_true]
      rw [w64 (x := 8 * n) (by omega), w64 (x := 2 * n) (by omega)]
      rw [whl_lg l (spec_SeeAll_l0 l) (fun k (s : Guess) => (k, s.Mean, s.Swing, s.Many, s.Back)) (fun _ x s => if seenB x then .next (seeF s x) else .done (.done (⟨0, 0, 0, 0⟩, false))) (fun s => .next (s.Mean, s.Swing, s.Many, s.Back)) (fun k hk s => by
        simp only [spec_SeeAll_l0, Int.ofNat_lt, hk, decide_true, cond_true, idx_lt, Option.bind_some, sSee, sSeen]
        rw [w64 (by omega)]
        cases seenB l[k] <;> rfl) (fun s => by simp [spec_SeeAll_l0]) ⟨8 * n, 2 * n, 1, 0⟩, Option.bind_some]
      unfold seeAllF
      generalize (⟨8 * n, 2 * n, 1, 0⟩ : Guess) = g
      have key : ∀ (l : List Seen) (k : Nat) (g : Guess), lgo (fun (_ : Nat) x s => if seenB x then LR.next (seeF s x) else .done (.done ((⟨0, 0, 0, 0⟩ : Guess), false))) (fun s => LR.next (s.Mean, s.Swing, s.Many, s.Back)) k l g =
          if l.all seenB then LR.next ((l.foldl seeF g).Mean, (l.foldl seeF g).Swing, (l.foldl seeF g).Many, (l.foldl seeF g).Back) else .done (⟨0, 0, 0, 0⟩, false) := by
        intro l
        induction l with
        | nil => intro k g; rfl
        | cons x xs ih =>
          intro k g
          simp only [lgo, List.all_cons, List.foldl_cons]
          by_cases h : seenB x = true
          · simp only [h, if_true, Bool.true_and]; exact ih _ _
          · simp [h]
      rw [key]
      cases l.all seenB <;> rfl
    · rw [show decide (60 < (l.length : Int)) = true by simp; omega, show decide (l.length ≤ 60) = false by simpa using h6]
      simp

/-- The least and the greatest, so far. -/
def rgF (s : Int × Int × Bool) (x : Seen) : Int × Int × Bool :=
  if x.Lost || x.Twice then s else if s.2.2 then (if x.Took < s.1 then x.Took else s.1, if x.Took > s.2.1 then x.Took else s.2.1, true) else (x.Took, x.Took, true)
def rangeF (l : List Seen) : Int × Int × Bool := l.foldl rgF (0, 0, false)
theorem iRange {l : List Seen} (hl : l.length < 2 ^ 47) : impl_RangeOf l = some (if allSeen l then rangeF l else (0, 0, false)) := by
  unfold impl_RangeOf
  rw [iAll hl, Option.bind_some]
  cases allSeen l
  · rfl
  · simp only [Bool.not_true, cond_false, if_true]
    rw [whl_lg l (impl_RangeOf_l0 l) (fun k (s : Int × Int × Bool) => (s.1, s.2.1, s.2.2, k)) (fun _ x s => .next (rgF s x)) (fun s => (s.1, s.2.1, s.2.2)) (fun k hk s => by
      obtain ⟨a, b, c⟩ := s
      simp only [impl_RangeOf_l0, Int.ofNat_lt, hk, decide_true, cond_true, idx_lt, Option.bind_some]
      rw [w64 (by omega)]
      unfold rgF
      cases l[k].Lost <;> cases l[k].Twice <;> cases c <;> simp [LR.mapN]) (fun s => by simp [impl_RangeOf_l0]) (0, 0, false), lgo_fold rgF (fun _ _ _ => rfl)]
    rfl
theorem sMost (a b : Int) : spec_l1Most a b = some (if a < b then b else a) := by
  unfold spec_l1Most
  by_cases h : a < b
  · rw [if_pos h, show decide (b < a) = false by simp; omega]; rfl
  · by_cases h2 : b < a
    · rw [if_neg h, show decide (b < a) = true by simpa using h2]; rfl
    · rw [if_neg h, show decide (b < a) = false by simpa using h2]; simp only [cond_false]; congr 1; omega
theorem seenB_took {s : Seen} (h : seenB s = true) : 0 ≤ s.Took ∧ s.Took ≤ 1000 := by
  unfold seenB at h
  exact inB_iff.1 (by revert h; cases inB s.Took 0 1000 <;> simp)
/-- The reference's words for it. -/
def toS (s : Int × Int × Bool) : Int × Int := if s.2.2 then (s.1, s.2.1) else (-1, -1)
theorem sRange {l : List Seen} (hl : l.length < 2 ^ 47) : spec_RangeOf l = some (if allSeen l then rangeF l else (0, 0, false)) := by
  unfold spec_RangeOf
  have key := whl_lgo l (spec_RangeOf_l0 l) (fun k (s : Int × Int × Bool) => ((toS s).1, (toS s).2, k)) (fun _ x s => if seenB x then .next (rgF s x) else .done (.done (0, 0, false))) (fun s => .next (toS s)) (fun _ s => s.2.2 = true → 0 ≤ s.1 ∧ 0 ≤ s.2.1) (fun k hk s hi => by
      obtain ⟨a, b, c⟩ := s
      simp only [spec_RangeOf_l0, Int.ofNat_lt, hk, decide_true, cond_true, idx_lt, Option.bind_some, sSeen, sMost]
      rw [w64 (by omega)]
      cases hs : seenB l[k]
      · simp [LR.mapN]
      · have := seenB_took hs
        unfold rgF toS
        simp only at hi ⊢
        cases l[k].Lost <;> cases l[k].Twice <;> cases c <;> simp at hi ⊢
        all_goals grind [LR.mapN]) (fun s _ => by simp [spec_RangeOf_l0]) (0, 0, false) (by simp)
  rw [show ((-1, -1, 0) : Int × Int × Int) = ((toS (0, 0, false)).1, (toS (0, 0, false)).2, 0) from rfl, key, Option.bind_some]
  have key2 : ∀ (l : List Seen) (k : Nat) (g : Int × Int × Bool), lgo (fun (_ : Nat) x s => if seenB x then LR.next (rgF s x) else .done (.done (0, 0, false))) (fun s => LR.next (toS s)) k l g =
      if l.all seenB then LR.next (toS (l.foldl rgF g)) else .done ((0 : Int), (0 : Int), false) := by
    intro l
    induction l with
    | nil => intro k g; rfl
    | cons x xs ih =>
      intro k g
      simp only [lgo, List.all_cons, List.foldl_cons]
      by_cases h : seenB x = true
      · simp only [h, if_true, Bool.true_and]; exact ih _ _
      · simp [h]
  have key3 : ∀ (l : List Seen) (g : Int × Int × Bool), l.all seenB = true → (g.2.2 = true → 0 ≤ g.1 ∧ 0 ≤ g.2.1) → ((l.foldl rgF g).2.2 = true → 0 ≤ (l.foldl rgF g).1 ∧ 0 ≤ (l.foldl rgF g).2.1) ∧ ((g = (0, 0, false) ∨ g.2.2 = true) → (l.foldl rgF g) = (0, 0, false) ∨ (l.foldl rgF g).2.2 = true) := by
    intro l
    induction l with
    | nil => intro g _ h; exact ⟨h, fun h => h⟩
    | cons x xs ih =>
      intro g ha hg
      simp only [List.all_cons, Bool.and_eq_true] at ha
      have ht := seenB_took ha.1
      have := ih (rgF g x) ha.2 (by
        unfold rgF
        grind)
      refine ⟨this.1, fun h => this.2 ?_⟩
      unfold rgF
      grind
  rw [key2]
  unfold allSeen rangeF
  cases ha : l.all seenB
  · rfl
  · obtain ⟨k1, k2⟩ := key3 l (0, 0, false) ha (by simp)
    have k2 := k2 (.inl rfl)
    generalize l.foldl rgF (0, 0, false) = g at k1 k2
    obtain ⟨a, b, c⟩ := g
    simp only [if_true, Bool.true_and]
    unfold toS
    by_cases h6 : l.length ≤ 60
    · rw [show decide (60 < (l.length : Int)) = false by simp; omega, show decide (l.length ≤ 60) = true by simpa using h6]
      cases c <;> simp at k1 k2 ⊢
      · grind
      · rw [show decide (a < 0) = false by simp; omega]; rfl
    · rw [show decide (60 < (l.length : Int)) = true by simp; omega, show decide (l.length ≤ 60) = false by simpa using h6]
      cases c <;> simp

/-- Between the least and the greatest. -/
theorem mean_in : ∀ (l : List Seen) (g : Guess) (lo hi : Int), 0 ≤ lo → hi ≤ 1000 → l.all seenB = true → goodB g = true → 8 * lo ≤ g.Mean → g.Mean ≤ 8 * hi + 7 → (∀ x ∈ l, x.Lost = false → x.Twice = false → lo ≤ x.Took ∧ x.Took ≤ hi) → goodB (l.foldl seeF g) = true ∧ 8 * lo ≤ (l.foldl seeF g).Mean ∧ (l.foldl seeF g).Mean ≤ 8 * hi + 7
  | [], g, lo, hi, _, _, _, hg, h1, h2, _ => ⟨hg, h1, h2⟩
  | x :: xs, g, lo, hi, hl0, hh, ha, hg, h1, h2, h3 => by
    simp only [List.all_cons, Bool.and_eq_true] at ha
    have hx := h3 x (by simp)
    have hm := (goodB_iff.1 hg).1
    have hstep : 8 * lo ≤ (seeF g x).Mean ∧ (seeF g x).Mean ≤ 8 * hi + 7 := by
      unfold seeF
      split
      · exact ⟨h1, h2⟩
      · split
        · exact ⟨h1, h2⟩
        · rename_i a b
          have := hx (by simpa using a) (by simpa using b)
          have e : Int.tdiv g.Mean 8 = g.Mean / 8 := Int.tdiv_eq_ediv_of_nonneg hm.1
          have ht := seenB_took ha.1
          simp only [dF, e]
          rw [w64 (x := g.Mean / 8) (by omega), w64 (x := x.Took - g.Mean / 8) (by omega), w64 (by omega)]
          omega
    exact mean_in xs (seeF g x) lo hi hl0 hh ha.2 (see_good hg ha.1) hstep.1 hstep.2 (fun y hy => h3 y (by simp [hy]))

/-- What was sent twice or lost does not move it. -/
def movesB (x : Seen) : Bool := !x.Twice && !x.Lost
theorem few_alike : ∀ (l : List Seen) (g h : Guess), g.Mean = h.Mean → g.Swing = h.Swing → ((l.filter movesB).foldl seeF g).Mean = (l.foldl seeF h).Mean ∧ ((l.filter movesB).foldl seeF g).Swing = (l.foldl seeF h).Swing
  | [], _, _, h1, h2 => ⟨h1, h2⟩
  | x :: xs, g, h, h1, h2 => by
    simp only [List.filter_cons, List.foldl_cons]
    cases hm : movesB x
    · simp only [Bool.false_eq_true, if_false]
      refine few_alike xs g (seeF h x) ?_ ?_
      all_goals
        unfold seeF
        unfold movesB at hm
        cases ha : x.Lost <;> cases hb : x.Twice <;> simp [ha, hb] at hm ⊢ <;> assumption
    · simp only [if_true, List.foldl_cons]
      refine few_alike xs (seeF g x) (seeF h x) ?_ ?_
      all_goals
        unfold seeF dF
        unfold movesB at hm
        cases x.Lost <;> cases x.Twice <;> simp at hm ⊢ <;> simp only [h1, h2]

/-- The range tells of all that moves it. -/
theorem range_ok : ∀ (l : List Seen) (g : Int × Int × Bool), ((l.foldl rgF g).2.2 = false → g.2.2 = false ∧ ∀ x ∈ l, movesB x = false) ∧ ((l.foldl rgF g).2.2 = true → (g.2.2 = true → (l.foldl rgF g).1 ≤ g.1 ∧ g.2.1 ≤ (l.foldl rgF g).2.1) ∧ ∀ x ∈ l, movesB x = true → (l.foldl rgF g).1 ≤ x.Took ∧ x.Took ≤ (l.foldl rgF g).2.1)
  | [], g => by simp
  | x :: xs, g => by
    have ih := range_ok xs (rgF g x)
    simp only [List.foldl_cons, List.forall_mem_cons]
    generalize List.foldl rgF (rgF g x) xs = r at ih
    have e : rgF g x = if movesB x = false then g else if g.2.2 then (if x.Took < g.1 then x.Took else g.1, if x.Took > g.2.1 then x.Took else g.2.1, true) else (x.Took, x.Took, true) := by
      unfold rgF movesB
      cases x.Lost <;> cases x.Twice <;> simp
    rw [e] at ih
    obtain ⟨i1, i2⟩ := ih
    constructor
    · intro h
      have := i1 h
      grind
    · intro h
      have := i2 h
      grind
theorem range_in (l : List Seen) (ha : l.all seenB = true) : ∀ (g : Int × Int × Bool), (g.2.2 = true → 0 ≤ g.1 ∧ g.2.1 ≤ 1000 ∧ g.1 ≤ g.2.1) → ((l.foldl rgF g).2.2 = true → 0 ≤ (l.foldl rgF g).1 ∧ (l.foldl rgF g).2.1 ≤ 1000 ∧ (l.foldl rgF g).1 ≤ (l.foldl rgF g).2.1) := by
  induction l with
  | nil => intro g h; exact h
  | cons x xs ih =>
    intro g h
    simp only [List.all_cons, Bool.and_eq_true] at ha
    have ht := seenB_took ha.1
    refine ih ha.2 (rgF g x) ?_
    unfold rgF
    grind
end Go.VxW
