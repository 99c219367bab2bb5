/-
  FnRounds: shares that grow and halve; the law.
-/
import Derived.Test.YtdgiianbihfkoaaVpU
import Derived.Test.YtdgiianbihfkoaaVpT
open Go Go.VS
namespace Go.VxW

/-! sums and maps -/
def sumL : List Int → Int
  | [] => 0
  | x :: xs => x + sumL xs
theorem sumL_fold (l : List Int) (s : Int) : l.foldl (· + ·) s = s + sumL l := by
  induction l generalizing s with
  | nil => simp [sumL]
  | cons x xs ih => simp only [List.foldl_cons, sumL]; rw [ih]; omega
theorem sum_go {l : List Int} (hl : l.length ≤ 1048576) (hb : ∀ x ∈ l, -1000000000000 ≤ x ∧ x ≤ 1000000000000) {f : Int × Int → Option (LR (Int × Int) Int)}
    (hs : ∀ (k : Nat) (hk : k < l.length) (s : Int), f (s, k) = some (.next (IntKind.i64.wrap (s + l[k]), (k : Int) + 1))) (hz : ∀ s, f (s, l.length) = some (.done s)) : whl f (0, 0) = some (sumL l) := by
  have := whl_lgo l f (fun k s => (s, k)) (fun _ x s => .next (s + x)) (fun s => s) (fun k s => -1000000000000 * (k : Int) ≤ s ∧ s ≤ 1000000000000 * k) (fun k hk s hi => by
    have hx := hb _ (List.getElem_mem hk)
    rw [hs k hk, w64 (by omega)]
    refine ⟨rfl, fun s' h => ?_⟩
    simp only [LR.next.injEq] at h
    omega) (fun s _ => hz s) 0 (by simp)
  rw [this, lgo_fold (· + ·) (fun _ _ _ => rfl), sumL_fold]
  simp
theorem fold_app {α β : Type} (h : α → β) (l : List α) (a : List β) : l.foldl (fun a x => a ++ [h x]) a = a ++ l.map h := by
  induction l generalizing a with
  | nil => simp
  | cons x xs ih => simp [ih]
theorem map_go {α : Type} {l : List α} (_hl : l.length ≤ 1048576) {h : α → Int} {f : Int × List Int → Option (LR (Int × List Int) (List Int))}
    (hs : ∀ (k : Nat) (hk : k < l.length) (a : List Int), a.length = k → f (k, a) = some (.next ((k : Int) + 1, a ++ [h l[k]]))) (hz : ∀ a, f (l.length, a) = some (.done a)) : whl f (0, []) = some (l.map h) := by
  have := whl_lgo l f (fun k a => (k, a)) (fun _ x a => .next (a ++ [h x])) (fun a => a) (fun k a => a.length = k) (fun k hk a hi => by
    rw [hs k hk a hi]
    refine ⟨rfl, fun s' h => ?_⟩
    simp only [LR.next.injEq] at h
    subst h
    simp [hi]) (fun s _ => hz s) [] (by simp)
  rw [this, lgo_fold (fun a x => a ++ [h x]) (fun _ _ _ => rfl), fold_app]
  simp

/-! shares -/
def goodS (s : Shares) : Bool := inB (s.Wins.length : Int) 1 5 && (s.Wins.all (inB · 1 10000) && inB s.Room 1 40000)
theorem iGoodS {s : Shares} (hl : s.Wins.length ≤ 1048576) : impl_GoodShares s = some (goodS s) := by
  unfold impl_GoodShares goodS
  rw [iIn, iIn, cf_int (by omega) (fun x => !inB x 1 10000) (fun x _ => by simp [impl_GoodShares_1, iIn])]
  have : (!s.Wins.any fun x => !inB x 1 10000) = s.Wins.all (inB · 1 10000) := by simp [List.all_eq_not_any_not]
  simp only [Option.bind_some]
  rw [this]
  cases inB (s.Wins.length : Int) 1 5 <;> cases s.Wins.all (inB · 1 10000) <;> rfl
theorem sGoodS {s : Shares} (hl : s.Wins.length ≤ 1048576) : spec_GoodShares s = some (goodS s) := by
  unfold spec_GoodShares goodS
  rw [sIn, sIn, sAll hl]
  cases inB (s.Wins.length : Int) 1 5 <;> cases s.Wins.all (inB · 1 10000) <;> rfl
theorem goodS_iff {s : Shares} : goodS s = true ↔ (1 ≤ s.Wins.length ∧ s.Wins.length ≤ 5) ∧ (∀ x ∈ s.Wins, 1 ≤ x ∧ x ≤ 10000) ∧ 1 ≤ s.Room ∧ s.Room ≤ 40000 := by
  unfold goodS
  simp only [Bool.and_eq_true, inB_iff, List.all_eq_true]
  constructor
  · rintro ⟨h1, h2, h3⟩; exact ⟨by omega, h2, h3⟩
  · rintro ⟨h1, h2, h3⟩; exact ⟨by omega, h2, h3⟩
def growW (x : Int) : Int := IntKind.i64.wrap (x + 1)
def halveW (x : Int) : Int := if IntKind.i64.wrap (Int.tdiv x 2) < 1 then 1 else IntKind.i64.wrap (Int.tdiv x 2)
def halveI (x : Int) : Int := if x / 2 < 1 then 1 else x / 2
def growS (s : Shares) : Shares := ⟨s.Wins.map growW, s.Room⟩
def halveS (s : Shares) : Shares := ⟨s.Wins.map halveW, s.Room⟩
theorem growW_in {x : Int} (h : 1 ≤ x ∧ x ≤ 10000) : growW x = x + 1 := by unfold growW; rw [w64 (by omega)]
theorem halveW_in {x : Int} (h : 1 ≤ x ∧ x ≤ 10000) : halveW x = halveI x := by
  unfold halveW halveI
  rw [Int.tdiv_eq_ediv_of_nonneg (by omega), w64 (by omega)]
theorem good_halve {s : Shares} (h : goodS s = true) : goodS (halveS s) = true := by
  rw [goodS_iff] at h ⊢
  unfold halveS
  refine ⟨by simpa using h.1, ?_, h.2.2⟩
  intro x hx
  obtain ⟨y, hy, rfl⟩ := List.mem_map.1 hx
  have := h.2.1 y hy
  rw [halveW_in this]
  unfold halveI
  split <;> omega
def sTell (s : Shares) : Shares × Bool := if goodS s then (s, true) else (⟨[], 0⟩, false)
def chg (s x : Shares) : Shares × Bool := if goodS s then sTell x else (⟨[], 0⟩, false)
theorem iChanged {s : Shares} {h : Int → Int} {g : Int → Option Int} (hl : s.Wins.length ≤ 1048576) (hg : ∀ x, g x = some (h x)) : impl_Shares_changed s g = some (chg s ⟨s.Wins.map h, s.Room⟩) := by
  unfold impl_Shares_changed chg sTell
  rw [map_go hl (h := h) (fun k hk a ha => by
    simp only [impl_Shares_changed_l0]
    rw [dec_t (by omega), idx_lt hk]
    simp only [cond_true, Option.bind_some, hg]
    rw [app_in (by simp <;> omega) (by omega), w64 (by omega)]
    rfl) (fun a => by simp [impl_Shares_changed_l0])]
  simp only [Option.bind_some]
  rw [iGoodS hl, iGoodS (by simpa using hl)]
  cases goodS s <;> cases goodS ⟨s.Wins.map h, s.Room⟩ <;> rfl
theorem iGrow {s : Shares} (hl : s.Wins.length ≤ 1048576) : impl_GrowAll s = some (chg s (growS s)) := by
  unfold impl_GrowAll growS
  rw [iChanged hl (h := growW) (g := impl_GrowAll_1) (fun x => rfl)]; rfl
theorem iHalve {s : Shares} (hl : s.Wins.length ≤ 1048576) : impl_HalveAll s = some (chg s (halveS s)) := by
  unfold impl_HalveAll halveS
  rw [iChanged hl (h := halveW) (g := impl_HalveAll_1) (fun x => rfl)]; rfl
theorem sGrow {s : Shares} (hl : s.Wins.length ≤ 1048576) : spec_l10Grow s = some (growS s) := by
  unfold spec_l10Grow growS
  rw [map_go hl (h := growW) (fun k hk a ha => by
    simp only [spec_l10Grow_l0]
    rw [dec_t (by omega), idx_lt hk]
    simp only [cond_true, Option.bind_some]
    rw [app_in (by simp <;> omega) (by omega)]
    simp only [Option.bind_some]
    rw [w64 (x := (k : Int) + 1) (by omega)]
    rfl) (fun a => by simp [spec_l10Grow_l0])]
  rfl
theorem sHalve {s : Shares} (hl : s.Wins.length ≤ 1048576) : spec_l10Halve s = some (halveS s) := by
  unfold spec_l10Halve halveS
  rw [map_go hl (h := halveW) (fun k hk a ha => by
    simp only [spec_l10Halve_l0, sMost]
    rw [dec_t (by omega), idx_lt hk]
    simp only [cond_true, Option.bind_some]
    rw [app_in (by simp <;> omega) (by omega)]
    simp only [Option.bind_some]
    rw [w64 (x := (k : Int) + 1) (by omega)]
    rfl) (fun a => by simp [spec_l10Halve_l0])]
  rfl
def roundS (s : Shares) : Shares × Bool := if s.Room < sumL s.Wins then (halveS s, true) else (growS s, false)
def roundF (s : Shares) : Shares × Bool × Bool := if goodS s && goodS (roundS s).1 then ((roundS s).1, (roundS s).2, true) else (⟨[], 0⟩, false, false)
theorem sums {s : Shares} (hl : s.Wins.length ≤ 1048576) (hb : ∀ x ∈ s.Wins, 1 ≤ x ∧ x ≤ 10000) : impl_sum s.Wins = some (sumL s.Wins) ∧ spec_l1Sum s.Wins = some (sumL s.Wins) ∧ laws_sumOf s.Wins = some (sumL s.Wins) := by
  have hb' : ∀ x ∈ s.Wins, -1000000000000 ≤ x ∧ x ≤ 1000000000000 := fun x hx => by have := hb x hx; omega
  refine ⟨?_, ?_, ?_⟩
  · unfold impl_sum
    rw [sum_go hl hb' (fun k hk s => by simp only [impl_sum_l0]; rw [dec_t (by omega), idx_lt hk, w64 (x := (k : Int) + 1) (by omega)]; rfl) (fun s => by simp [impl_sum_l0])]; rfl
  · unfold spec_l1Sum
    rw [sum_go hl hb' (fun k hk s => by simp only [spec_l1Sum_l0]; rw [dec_t (by omega), idx_lt hk, w64 (x := (k : Int) + 1) (by omega)]; rfl) (fun s => by simp [spec_l1Sum_l0])]; rfl
  · unfold laws_sumOf
    rw [sum_go hl hb' (fun k hk s => by simp only [laws_sumOf_l0]; rw [dec_t (by omega), idx_lt hk, w64 (x := (k : Int) + 1) (by omega)]; rfl) (fun s => by simp [laws_sumOf_l0])]; rfl
theorem sRoundS {s : Shares} (h : goodS s = true) : spec_l10Round s = some (roundS s) := by
  have hg := goodS_iff.1 h
  unfold spec_l10Round roundS
  rw [(sums (by omega) hg.2.1).2.1, sGrow (by omega), sHalve (by omega)]
  simp only [Option.bind_some]
  by_cases hc : s.Room < sumL s.Wins
  · rw [dec_t hc, if_pos hc]; rfl
  · rw [dec_f hc, if_neg hc]; rfl
theorem iRound {s : Shares} (hl : s.Wins.length ≤ 1048576) : impl_RoundOf s = some (roundF s) := by
  unfold impl_RoundOf roundF
  rw [iGoodS hl, iGrow hl, iHalve hl]
  unfold chg
  cases h : goodS s
  · rfl
  · have hg := goodS_iff.1 h
    simp only [Option.bind_some, cond_true, (sums hl hg.2.1).1, Bool.true_and, if_true]
    unfold roundS sTell
    by_cases hc : s.Room < sumL s.Wins
    · rw [dec_t hc, if_pos hc, good_halve h]; rfl
    · rw [dec_f hc, if_neg hc]
      cases goodS (growS s) <;> rfl
theorem roundS_len (s : Shares) : (roundS s).1.Wins.length = s.Wins.length := by unfold roundS growS halveS; split <;> simp
theorem sRound {s : Shares} (hl : s.Wins.length ≤ 1048576) : spec_RoundOf s = some (roundF s) := by
  unfold spec_RoundOf roundF spec_l10Tell
  rw [sGoodS hl]
  cases h : goodS s
  · rfl
  · simp only [Option.bind_some, Bool.not_true, cond_false, sRoundS h, Bool.true_and]
    rw [sGoodS (by rw [roundS_len]; omega)]
    cases goodS (roundS s).1 <;> rfl
def roundsF : Nat → Shares → Int → Option (Shares × Int)
  | 0, s, n => some (s, n)
  | j + 1, s, n => if goodS (roundS s).1 then roundsF j (roundS s).1 (if (roundS s).2 then n + 1 else n) else none
theorem iRounds_go {m : Nat} (hm : m ≤ 40) : ∀ (j k : Nat) (s : Shares) (n : Int), k + j = m → goodS s = true → 0 ≤ n → n ≤ k →
    whl (impl_RoundsOf_l0 m) (n, (k : Int), s.Wins, s.Room) = some (match roundsF j s n with | some r => .next (r.2, r.1.Wins, r.1.Room) | none => .done (⟨[], 0⟩, 0, false)) := by
  intro j
  induction j with
  | zero =>
    intro k s n h1 h2 h3 h4
    rw [whl_eq]
    simp only [impl_RoundsOf_l0]
    rw [dec_f (by omega)]; rfl
  | succ j ih =>
    intro k s n h1 h2 h3 h4
    have hg := goodS_iff.1 h2
    rw [whl_eq]
    simp only [impl_RoundsOf_l0, roundsF]
    rw [dec_t (by omega), iRound (s := ⟨s.Wins, s.Room⟩) (by dsimp only; omega)]
    simp only [cond_true, Option.bind_some, roundF, h2, Bool.true_and]
    cases hr : goodS (roundS s).1
    · rfl
    · simp only [if_true, Bool.not_true, cond_false]
      rw [w64 (x := n + 1) (by omega), w64 (x := (k : Int) + 1) (by omega)]
      have := ih (k + 1) (roundS s).1 (if (roundS s).2 then n + 1 else n) (by omega) hr (by split <;> omega) (by split <;> omega)
      rw [show ((k + 1 : Nat) : Int) = (k : Int) + 1 by omega] at this
      rw [← this]
      cases (roundS s).2 <;> rfl
theorem sRounds_go : ∀ (j : Nat) (s : Shares) (n : Int), j ≤ 40 → goodS s = true → 0 ≤ n → n ≤ 40 - j →
    whl spec_RoundsOf_l0 ((j : Int), n, s.Wins, s.Room) = some (match roundsF j s n with | some r => .next (r.2, r.1.Wins, r.1.Room) | none => .done (⟨[], 0⟩, 0, false)) := by
  intro j
  induction j with
  | zero =>
    intro s n h1 h2 h3 h4
    rw [whl_eq]
    rfl
  | succ j ih =>
    intro s n h1 h2 h3 h4
    have hg := goodS_iff.1 h2
    rw [whl_eq]
    simp only [spec_RoundsOf_l0, roundsF]
    rw [dec_t (by omega), sRoundS (s := ⟨s.Wins, s.Room⟩) h2]
    simp only [cond_true, Option.bind_some]
    rw [sGoodS (by rw [roundS_len]; dsimp only; omega)]
    simp only [Option.bind_some]
    cases hr : goodS (roundS s).1
    · rfl
    · simp only [if_true, Bool.not_true, cond_false]
      have := ih (roundS s).1 (if (roundS s).2 then n + 1 else n) (by omega) hr (by split <;> omega) (by split <;> omega)
      rw [w64 (x := ((j + 1 : Nat) : Int) - 1) (by omega), show ((j + 1 : Nat) : Int) - 1 = j by omega, ← this]
      unfold spec_l1Bit
      cases (roundS s).2
      · simp only [cond_false, Option.bind_some]; rw [w64 (by omega)]; simp
      · simp only [cond_true, Option.bind_some]; rw [w64 (by omega)]; rfl
def roundsLF (s : Shares) (m : Int) : Shares × Int × Bool := if goodS s && inB m 0 40 then (match roundsF m.toNat s 0 with | some r => (r.1, r.2, true) | none => (⟨[], 0⟩, 0, false)) else (⟨[], 0⟩, 0, false)
theorem iRounds {s : Shares} {m : Int} (hl : s.Wins.length ≤ 1048576) : impl_RoundsOf s m = some (roundsLF s m) := by
  unfold impl_RoundsOf roundsLF
  rw [iGoodS hl, iIn]
  cases h : goodS s
  · rfl
  cases hm : inB m 0 40
  · rfl
  rw [inB_iff] at hm
  obtain ⟨k, rfl⟩ := Int.eq_ofNat_of_zero_le hm.1
  simp only [Option.bind_some, Bool.not_true, cond_false, slices_Clone_int]
  rw [app_in (by simp <;> omega) (by omega)]
  simp only [Option.bind_some, List.nil_append]
  have := iRounds_go (m := k) (by omega) k 0 s 0 (by omega) h (by omega) (by omega)
  rw [show ((0 : Nat) : Int) = 0 from rfl] at this
  rw [this]
  simp only [Int.toNat_natCast]
  cases roundsF k s 0 <;> rfl
theorem sRounds {s : Shares} {m : Int} (hl : s.Wins.length ≤ 1048576) : spec_RoundsOf s m = some (roundsLF s m) := by
  unfold spec_RoundsOf roundsLF
  rw [sGoodS hl, sIn]
  cases h : goodS s
  · rfl
  cases hm : inB m 0 40
  · rfl
  rw [inB_iff] at hm
  obtain ⟨k, rfl⟩ := Int.eq_ofNat_of_zero_le hm.1
  simp only [Option.bind_some, Bool.not_true, cond_false]
  rw [app_in (by simp <;> omega) (by omega)]
  simp only [Option.bind_some, List.nil_append]
  rw [sRounds_go k s 0 (by omega) h (by omega) (by omega)]
  simp only [Int.toNat_natCast]
  cases roundsF k s 0 <;> rfl

/-! the spread -/
def maxL (m : Int) (l : List Int) : Int := l.foldl (fun m x => if x > m then x else m) m
def minL (m : Int) (l : List Int) : Int := l.foldl (fun m x => if x < m then x else m) m
theorem maxL_map {h : Int → Int} (hm : ∀ a b, a ≤ b → h a ≤ h b) (m : Int) (l : List Int) : maxL (h m) (l.map h) = h (maxL m l) := by
  induction l generalizing m with
  | nil => rfl
  | cons x xs ih =>
    simp only [maxL, List.map_cons, List.foldl_cons] at ih ⊢
    rw [← ih]
    congr 1
    by_cases hx : x > m
    · have := hm m x (by omega)
      rw [if_pos hx]; split <;> omega
    · have := hm x m (by omega)
      rw [if_neg hx, if_neg (by omega)]
theorem minL_map {h : Int → Int} (hm : ∀ a b, a ≤ b → h a ≤ h b) (m : Int) (l : List Int) : minL (h m) (l.map h) = h (minL m l) := by
  induction l generalizing m with
  | nil => rfl
  | cons x xs ih =>
    simp only [minL, List.map_cons, List.foldl_cons] at ih ⊢
    rw [← ih]
    congr 1
    by_cases hx : x < m
    · have := hm x m (by omega)
      rw [if_pos hx]; split <;> omega
    · have := hm m x (by omega)
      rw [if_neg hx, if_neg (by omega)]
theorem maxL_in {lo hi : Int} (m : Int) (l : List Int) (hm : lo ≤ m ∧ m ≤ hi) (hl : ∀ x ∈ l, lo ≤ x ∧ x ≤ hi) : m ≤ maxL m l ∧ maxL m l ≤ hi := by
  induction l generalizing m with
  | nil => simpa [maxL] using hm.2
  | cons x xs ih =>
    simp only [maxL, List.foldl_cons] at ih ⊢
    have hx := hl x (by simp)
    by_cases hc : x > m
    · have := ih x hx (fun y hy => hl y (by simp [hy]))
      rw [if_pos hc]; omega
    · have := ih m hm (fun y hy => hl y (by simp [hy]))
      rw [if_neg hc]; omega
theorem minL_in {lo hi : Int} (m : Int) (l : List Int) (hm : lo ≤ m ∧ m ≤ hi) (hl : ∀ x ∈ l, lo ≤ x ∧ x ≤ hi) : lo ≤ minL m l ∧ minL m l ≤ m := by
  induction l generalizing m with
  | nil => simpa [minL] using hm.1
  | cons x xs ih =>
    simp only [minL, List.foldl_cons] at ih ⊢
    have hx := hl x (by simp)
    by_cases hc : x < m
    · have := ih x hx (fun y hy => hl y (by simp [hy]))
      rw [if_pos hc]; omega
    · have := ih m hm (fun y hy => hl y (by simp [hy]))
      rw [if_neg hc]; omega
def spreadL : List Int → Int
  | [] => 0
  | x :: xs => maxL x xs - minL x xs
theorem iMax {x : Int} {xs : List Int} (hl : xs.length ≤ 1048576) : slices_Max_int (x :: xs) = some (maxL x xs) := by
  unfold slices_Max_int
  rw [dec_f (by simp only [List.length_cons]; omega)]
  have h0 : idx (x :: xs) 0 = some x := rfl
  simp only [cond_false, Option.bind_some, h0]
  have := whl_lgo_aux (x :: xs) (slices_Max_int_l0 (x :: xs)) (fun k s => (s, k)) (fun _ y s => .next (if y > s then y else s)) (fun s => s) (fun _ _ => True) (fun k hk s _ => by
    simp only [slices_Max_int_l0]
    rw [dec_t (by omega), idx_lt hk]
    simp only [cond_true, Option.bind_some]
    rw [List.length_cons] at hk
    rw [w64 (by omega)]
    exact ⟨rfl, fun _ _ => trivial⟩) (fun s _ => by simp [slices_Max_int_l0]) xs.length 1 (by simp <;> omega) x trivial
  rw [show ((1 : Nat) : Int) = 1 from rfl] at this
  rw [this, lgo_fold (fun (s y : Int) => if y > s then y else s) (fun _ _ _ => rfl)]
  rfl
theorem iMin {x : Int} {xs : List Int} (hl : xs.length ≤ 1048576) : slices_Min_int (x :: xs) = some (minL x xs) := by
  unfold slices_Min_int
  rw [dec_f (by simp only [List.length_cons]; omega)]
  have h0 : idx (x :: xs) 0 = some x := rfl
  simp only [cond_false, Option.bind_some, h0]
  have := whl_lgo_aux (x :: xs) (slices_Min_int_l0 (x :: xs)) (fun k s => (s, k)) (fun _ y s => .next (if y < s then y else s)) (fun s => s) (fun _ _ => True) (fun k hk s _ => by
    simp only [slices_Min_int_l0]
    rw [dec_t (by omega), idx_lt hk]
    simp only [cond_true, Option.bind_some]
    rw [List.length_cons] at hk
    rw [w64 (by omega)]
    exact ⟨rfl, fun _ _ => trivial⟩) (fun s _ => by simp [slices_Min_int_l0]) xs.length 1 (by simp <;> omega) x trivial
  rw [show ((1 : Nat) : Int) = 1 from rfl] at this
  rw [this, lgo_fold (fun (s y : Int) => if y < s then y else s) (fun _ _ _ => rfl)]
  rfl
theorem spread_in {s : Shares} (h : goodS s = true) : 0 ≤ spreadL s.Wins ∧ spreadL s.Wins ≤ 10000 := by
  have hg := goodS_iff.1 h
  cases hw : s.Wins with
  | nil => rw [hw] at hg; simp at hg
  | cons x xs =>
    rw [hw] at hg
    have hx := hg.2.1 x (by simp)
    have hxs : ∀ y ∈ xs, 1 ≤ y ∧ y ≤ 10000 := fun y hy => hg.2.1 y (by simp [hy])
    have := maxL_in x xs hx hxs
    have := minL_in x xs hx hxs
    simp only [spreadL]; omega
theorem iSpread {s : Shares} (h : goodS s = true) : impl_SpreadOf s = some (spreadL s.Wins, true) := by
  have hg := goodS_iff.1 h
  have hi := spread_in h
  unfold impl_SpreadOf
  rw [iGoodS (by omega), h]
  simp only [Option.bind_some, Bool.not_true, cond_false]
  cases hw : s.Wins with
  | nil => rw [hw] at hg; simp at hg
  | cons x xs =>
    rw [hw] at hg hi
    simp only [List.length_cons] at hg
    rw [iMax (by omega), iMin (by omega)]
    simp only [Option.bind_some]
    simp only [spreadL] at hi ⊢
    rw [w64 (by omega)]
theorem spread_map {h : Int → Int} (hm : ∀ a b, a ≤ b → h a ≤ h b) {l : List Int} (hl : l ≠ []) : ∃ lo hi, spreadL l = hi - lo ∧ lo ≤ hi ∧ spreadL (l.map h) = h hi - h lo := by
  cases l with
  | nil => simp at hl
  | cons x xs =>
    refine ⟨minL x xs, maxL x xs, rfl, ?_, ?_⟩
    · have h1 : ∀ (l : List Int) (m : Int), m ≤ maxL m l ∧ minL m l ≤ m := by
        intro l
        induction l with
        | nil => intro m; simp [maxL, minL]
        | cons y ys ih =>
          intro m
          simp only [maxL, minL, List.foldl_cons] at ih ⊢
          constructor
          · by_cases hc : y > m
            · have := (ih y).1
              rw [if_pos hc]; omega
            · rw [if_neg hc]; exact (ih m).1
          · by_cases hc : y < m
            · have := (ih y).2
              rw [if_pos hc]; omega
            · rw [if_neg hc]; exact (ih m).2
      have := h1 xs x
      omega
    · simp only [List.map_cons, spreadL]
      rw [maxL_map hm, minL_map hm]
def halfN : Nat → Int → Int
  | 0, m => m
  | n + 1, m => (halfN n m + 1) / 2
theorem half_go {n : Nat} (hn : n ≤ 1000) : ∀ (j k : Nat) (m : Int), k + j = n → 0 ≤ m → m ≤ 10000 → ∃ r, whl (laws_FnRounds_l0 n) (m, (k : Int)) = some r ∧ r = halfN j m := by
  intro j
  induction j with
  | zero =>
    intro k m h1 h2 h3
    rw [whl_eq]
    simp only [laws_FnRounds_l0]
    rw [dec_f (by omega)]
    exact ⟨m, rfl, rfl⟩
  | succ j ih =>
    intro k m h1 h2 h3
    rw [whl_eq]
    simp only [laws_FnRounds_l0]
    rw [dec_t (by omega), w64 (x := m + 1) (by omega), Int.tdiv_eq_ediv_of_nonneg (by omega), w64 (x := (m + 1) / 2) (by omega), w64 (by omega), show (k : Int) + 1 = ((k + 1 : Nat) : Int) by omega]
    obtain ⟨r, e, hr⟩ := ih (k + 1) ((m + 1) / 2) (by omega) (by omega) (by omega)
    refine ⟨r, e, ?_⟩
    rw [hr]
    have : ∀ (j : Nat) (m : Int), halfN j ((m + 1) / 2) = (halfN j m + 1) / 2 := by
      intro j
      induction j with
      | zero => intro m; rfl
      | succ j ih => intro m; simp only [halfN]; rw [ih]
    rw [this]; rfl
theorem rounds_spread {s0 : Shares} : ∀ (j : Nat) (s : Shares) (n : Nat) (r : Shares × Int), goodS s = true → spreadL s.Wins ≤ halfN n (spreadL s0.Wins) → roundsF j s n = some r → goodS r.1 = true ∧ 0 ≤ r.2 ∧ r.2 ≤ n + j ∧ spreadL r.1.Wins ≤ halfN r.2.toNat (spreadL s0.Wins) := by
  intro j
  induction j with
  | zero =>
    intro s n r hg hs h
    simp only [roundsF, Option.some.injEq] at h
    subst h
    exact ⟨hg, by dsimp only; omega, by dsimp only; omega, by simpa using hs⟩
  | succ j ih =>
    intro s n r hg hs h
    simp only [roundsF] at h
    split at h
    · rename_i hr
      have g := goodS_iff.1 hg
      have hne : s.Wins ≠ [] := by intro e; rw [e] at g; simp at g
      by_cases hc : s.Room < sumL s.Wins
      · have e : roundS s = (halveS s, true) := by unfold roundS; rw [if_pos hc]
        rw [e] at h hr
        simp only [if_true] at h
        have hm : (halveS s).Wins = s.Wins.map halveI := List.map_congr_left fun x hx => halveW_in (g.2.1 x hx)
        obtain ⟨lo, hi, e1, e2, e3⟩ := spread_map (h := halveI) (fun a b hab => by unfold halveI; split <;> split <;> omega) hne
        have := ih (halveS s) (n + 1) r hr (by
          rw [hm, e3]
          simp only [halfN]
          unfold halveI
          split <;> split <;> omega) (by simpa using h)
        refine ⟨this.1, this.2.1, by omega, this.2.2.2⟩
      · have e : roundS s = (growS s, false) := by unfold roundS; rw [if_neg hc]
        rw [e] at h hr
        simp only [Bool.false_eq_true, if_false] at h
        have hm : (growS s).Wins = s.Wins.map (· + 1) := List.map_congr_left fun x hx => growW_in (g.2.1 x hx)
        obtain ⟨lo, hi, e1, e2, e3⟩ := spread_map (h := (· + 1)) (fun a b hab => by omega) hne
        have := ih (growS s) n r hr (by rw [hm, e3]; omega) h
        refine ⟨this.1, this.2.1, by omega, this.2.2.2⟩
    · simp at h

/-! what is drawn -/
theorem shares_t {c : L1Cur} {b : Int} (h : Cur c b) (hb : b ≤ 2000000000000000000) : Tot (spec_l1Cur_shares c) fun r => r.1.Wins.length ≤ 5 ∧ Cur r.2 (b + 100) := by
  unfold spec_l1Cur_shares
  refine Tot.then (pick_t (by assumption) (by omega)) ?_
  rintro ⟨x, c_x⟩ ⟨x_0, x_1, x_c⟩
  dsimp only at x_0 x_1 x_c ⊢
  have x_2 := x_1 (by omega)
  refine Tot.then (pick_t (by assumption) (by omega)) ?_
  rintro ⟨y, c_y⟩ ⟨y_0, y_1, y_c⟩
  dsimp only at y_0 y_1 y_c ⊢
  have y_2 := y_1 (by omega)
  rw [w64 (x := 1 + y) (by omega)]
  refine Tot.then (P := fun r => (1 ≤ r.2.2.2.length ∧ r.2.2.2.length ≤ 5) ∧ Cur ⟨r.1, r.2.1, r.2.2.1⟩ (b + 50)) (Tot.whl (fun s => s.1.toNat) (fun s => ((0 ≤ s.1 ∧ s.1 ≤ 4) ∧ 1 ≤ s.2.2.2.2.length + s.1.toNat ∧ s.2.2.2.2.length + s.1.toNat ≤ 5) ∧ Cur ⟨s.2.1, s.2.2.1, s.2.2.2.1⟩ (b + 10 + 2 * (5 - s.1))) ?_ ⟨⟨(by first | omega | (dsimp only; omega)), by simp only [List.length_nil]; omega, by simp only [List.length_nil]; omega⟩, y_c.mono (by first | omega | (dsimp only; omega))⟩) ?_
  · rintro ⟨n, co, a, se, l⟩ ⟨⟨h1, h2, h3⟩, hc0⟩
    dsimp only at h1 h2 h3 hc0 ⊢
    unfold spec_l1Cur_shares_l0
    dsimp only
    refine Tot.cnd (fun hc => ?_) (fun hc => ?_)
    · simp only [decide_eq_true_eq] at hc
      refine Tot.then (pick_t (by assumption) (by omega)) ?_
      rintro ⟨z, c_z⟩ ⟨z_0, z_1, z_c⟩
      dsimp only at z_0 z_1 z_c ⊢
      rw [app_in (by simp <;> omega) (by omega)]
      simp only [Option.bind_some]
      rw [w64 (x := n - 1) (by omega)]
      exact .ret ⟨⟨⟨(by first | omega | (dsimp only; omega)), by simp only [List.length_append, List.length_singleton]; omega, by simp only [List.length_append, List.length_singleton]; omega⟩, z_c.mono (by first | omega | (dsimp only; omega))⟩, (by first | omega | (dsimp only; omega))⟩
    · simp only [decide_eq_false_iff_not, Int.not_lt] at hc
      exact .ret ⟨⟨(by first | omega | (dsimp only; omega)), (by first | omega | (dsimp only; omega))⟩, hc0.mono (by first | omega | (dsimp only; omega))⟩
  · rintro ⟨co, a, se, l⟩ ⟨h1, hc0⟩
    dsimp only at h1 hc0 ⊢
    refine Tot.then (pick_t (by assumption) (by omega)) ?_
    rintro ⟨z, c_z⟩ ⟨z_0, z_1, z_c⟩
    dsimp only at z_0 z_1 z_c ⊢
    refine Tot.then (P := fun r => r.2.2.2.1.length ≤ 5 ∧ Cur ⟨r.1, r.2.1, r.2.2.1⟩ (b + 100)) ?_ ?_
    · refine Tot.then (P := fun r => r.2.2.2.1.length ≤ 5 ∧ Cur ⟨r.1, r.2.1, r.2.2.1⟩ (b + 100)) ?_ ?_
      · refine Tot.cnd (fun hc => ?_) (fun hc => ?_)
        · refine Tot.then (among_t (by assumption) (by omega) (by simp)) ?_
          rintro ⟨w, c_w⟩ ⟨w_m, w_c⟩
          dsimp only at w_m w_c ⊢
          rw [idx_in (by omega) (by omega)]
          simp only [Option.bind_some]
          exact .ret ⟨by simp only [List.length_set]; omega, w_c.mono (by omega)⟩
        · refine Tot.then (P := fun r => Cur ⟨r.1, r.2.1, r.2.2.1⟩ (b + 100)) ?_ ?_
          · refine Tot.cnd (fun hc => ?_) (fun hc => ?_)
            · refine Tot.then (among_t (by assumption) (by omega) (by simp)) ?_
              rintro ⟨w, c_w⟩ ⟨w_m, w_c⟩
              dsimp only at w_m w_c ⊢
              exact .ret (w_c.mono (by omega))
            · exact .ret (z_c.mono (by omega))
          · rintro ⟨co', a', se', ro⟩ hc'
            exact .ret ⟨(by first | omega | (dsimp only; omega)), hc'⟩
      · rintro ⟨co', a', se', l', ro⟩ hc'
        exact .ret hc'
    · rintro ⟨co', a', se', l', ro⟩ hc'
      exact .ret hc'
theorem drawRounds {l : List Int} (hl : l.length ≤ 1048576) (hb : ∀ x ∈ l, 0 ≤ x ∧ x ≤ 255) : Tot (spec_DrawRoundsOf l) fun r => r.1.Wins.length ≤ 5 := by
  unfold spec_DrawRoundsOf
  have h := cur0 hl hb
  refine Tot.then (shares_t (by assumption) (by omega)) ?_
  rintro ⟨s, c_s⟩ ⟨s_p, s_c⟩
  dsimp only at s_p s_c ⊢
  refine Tot.then (among_t (by assumption) (by omega) (by simp)) ?_
  rintro ⟨m, c_m⟩ ⟨m_m, m_c⟩
  dsimp only at m_m m_c ⊢
  exact .ret s_p
theorem drawRound {l : List Int} (hl : l.length ≤ 1048576) (hb : ∀ x ∈ l, 0 ≤ x ∧ x ≤ 255) : Tot (spec_DrawRoundOf l) fun r => r.Wins.length ≤ 5 := by
  unfold spec_DrawRoundOf spec_DrawGoodShares
  have h := cur0 hl hb
  refine Tot.bind (Tot.bind ?_)
  refine (shares_t h (by omega)).use ?_
  rintro ⟨s, c⟩ ⟨h1, _⟩
  exact .ret (.ret h1)
theorem sameSh {s : Shares} (hl : s.Wins.length ≤ 1048576) : laws_sameShares s s = some true := by
  unfold laws_sameShares
  rw [sameI hl]
  simp
theorem pureRounds (a b : List Int) (ha : a.length < 2 ^ 47) (hb : b.length < 2 ^ 47) (ka : ∀ x ∈ a, 0 ≤ x ∧ x ≤ 255) (kb : ∀ x ∈ b, 0 ≤ x ∧ x ≤ 255) : laws_FnRounds a b = some true := by
  unfold laws_FnRounds
  rw [w64 (by omega)]
  by_cases h : (1048576 : Int) < (a.length : Int) + (b.length : Int)
  · rw [dec_t h]; rfl
  rw [dec_f h]
  simp only [cond_false]
  obtain ⟨⟨s, m⟩, e1, n1⟩ := drawRounds (l := a) (by omega) ka
  obtain ⟨y, e2, n2⟩ := drawRound (l := b) (by omega) kb
  dsimp only at n1
  simp only [e1, e2, Option.bind_some]
  rw [iRounds (by omega), sRounds (by omega), iRound (by omega), sRound (by omega)]
  simp only [Option.bind_some, beq_self_eq_true, Bool.not_true, cond_false, cond_true, bne_self_eq_false]
  have hlen : (roundsLF s m).1.Wins.length ≤ 5 := by
    unfold roundsLF
    split
    · rename_i hc
      simp only [Bool.and_eq_true] at hc
      cases hr : roundsF m.toNat s 0 with
      | none => simp
      | some r =>
        have := (rounds_spread (s0 := s) m.toNat s 0 r hc.1 (by simp [halfN]) (by simpa using hr)).1
        exact (goodS_iff.1 this).1.2
    · simp
  have hlen2 : (roundF y).1.Wins.length ≤ 5 := by
    unfold roundF
    split
    · dsimp only; rw [roundS_len]; exact n2
    · simp
  rw [sameSh (s := (roundsLF s m).1) (by omega), sameSh (s := (roundF y).1) (by omega)]
  simp only [Option.bind_some, Bool.not_true, cond_false, cond_true]
  have hlast : (bif !(roundF y).2.2 then some true else (laws_sumOf y.Wins).bind fun b105 => some ((roundF y).2.1 == decide (y.Room < b105))) = some true := by
    unfold roundF
    cases hg : goodS y
    · rfl
    · cases hr : goodS (roundS y).1
      · rfl
      · have g := goodS_iff.1 hg
        simp only [Bool.and_self, if_true, Bool.not_true, cond_false]
        rw [(sums (by omega) g.2.1).2.2]
        unfold roundS
        by_cases hc : y.Room < sumL y.Wins
        · simp [hc]
        · simp [hc]
  cases hk : (roundsLF s m).2.2
  · simp only [cond_false, Option.bind_some]
    exact hlast
  · have hh : ∃ r, goodS s = true ∧ (0 ≤ m ∧ m ≤ 40) ∧ roundsF m.toNat s 0 = some r ∧ roundsLF s m = (r.1, r.2, true) := by
      unfold roundsLF at hk ⊢
      cases hc : (goodS s && inB m 0 40)
      · rw [hc] at hk; simp at hk
      · rw [hc] at hk
        simp only [Bool.and_eq_true, inB_iff] at hc
        cases hr : roundsF m.toNat s 0 with
        | none => rw [hr] at hk; simp at hk
        | some r => exact ⟨r, hc.1, hc.2, rfl, rfl⟩
    obtain ⟨r, g1, g2, g3, g4⟩ := hh
    have q := rounds_spread (s0 := s) m.toNat s 0 r g1 (by simp [halfN]) (by simpa using g3)
    rw [g4]
    simp only [cond_true]
    rw [iSpread g1, iSpread q.1]
    simp only [Option.bind_some, Bool.not_true, cond_false]
    obtain ⟨k, hk2⟩ := Int.eq_ofNat_of_zero_le q.2.1
    have hsp := spread_in g1
    obtain ⟨z, e, hz⟩ := half_go (n := k) (by omega) k 0 (spreadL s.Wins) (by omega) hsp.1 hsp.2
    rw [show ((0 : Nat) : Int) = 0 from rfl] at e
    rw [hk2, e]
    have q4 := q.2.2.2
    rw [hk2, Int.toNat_natCast] at q4
    simp only [Option.bind_some]
    rw [dec_f (by omega), iGoodS (by have := (goodS_iff.1 q.1).1; omega), q.1]
    simp only [cond_false, Option.bind_some, Bool.not_true]
    exact hlast
end Go.VxW
