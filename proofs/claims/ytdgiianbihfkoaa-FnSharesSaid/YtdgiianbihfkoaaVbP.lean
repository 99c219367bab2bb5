/-
  The plain law and all that it needs.
-/
import Derived.Test.YtdgiianbihfkoaaVyGF
import Derived.Test.YtdgiianbihfkoaaVaF


open Go Go.VS
namespace Go.VxW
structure Cur (c : L1Cur) (b : Int) : Prop where
  len : c.Code.length ≤ 1048576
  bytes : ∀ x ∈ c.Code, 0 ≤ x ∧ x ≤ 255
  lo : 0 ≤ c.At
  hi : c.At ≤ b
theorem Cur.mono {c : L1Cur} {b d : Int} (h : Cur c b) (hd : b ≤ d) : Cur c d := ⟨h.len, h.bytes, h.lo, by have := h.hi; omega⟩
theorem and255 (k : Int) : 0 ≤ andL .u64 k 255 ∧ andL .u64 k 255 ≤ 255 := by
  have h : (BitVec.ofInt IntKind.u64.bits k &&& BitVec.ofInt IntKind.u64.bits 255).toNat ≤ 255 := by
    rw [BitVec.toNat_and]
    exact Nat.and_le_right
  unfold andL
  rw [IntWalk.u64_in _ (by omega)]
  omega
theorem next_ok {c : L1Cur} {b : Int} (h : Cur c b) (hb : b ≤ 4611686018427387904) : ∃ x d, spec_l1Cur_next c = some (x, d) ∧ (0 ≤ x ∧ x ≤ 255) ∧ Cur d (b + 1) := by
  obtain ⟨h1, h2, h3, h4⟩ := h
  unfold spec_l1Cur_next
  rw [w64 (x := c.At + 1) (by omega)]
  have e : ∃ x5, (bif (decide (c.At < (c.Code.length : Int))) then (idx c.Code c.At).bind fun b10 => some ((IntKind.i64.wrap b10)) else some (0)) = some x5 ∧ 0 ≤ x5 ∧ x5 ≤ 255 := by
    by_cases hc : c.At < c.Code.length
    · rw [show decide (c.At < (c.Code.length : Int)) = true by simpa using hc]
      obtain ⟨n, hn⟩ := Int.eq_ofNat_of_zero_le h3
      rw [hn, idx_lt (show n < c.Code.length by omega)]
      have := h2 _ (List.getElem_mem (show n < c.Code.length by omega))
      simp only [cond_true, Option.bind_some]
      rw [w64 (by omega)]
      exact ⟨_, rfl, this⟩
    · rw [show decide (c.At < (c.Code.length : Int)) = false by simpa using hc]
      exact ⟨0, rfl, by omega, by omega⟩
  obtain ⟨x5, e1, e2⟩ := e
  rw [e1, Option.bind_some]
  cases decide (c.At + 1 ≤ (c.Code.length : Int))
  · refine ⟨_, _, rfl, ?_, ⟨h1, h2, by simp only; omega, by simp only; omega⟩⟩
    have := and255 (shrL .u64 (IntKind.u64.wrap ((IntKind.u64.wrap ((IntKind.u64.wrap (c.Seed * 6364136223846793005)) + (IntKind.u64.wrap x5))) + 1442695040888963407)) 40)
    rw [w64 (by omega)]
    exact this
  · exact ⟨_, _, rfl, e2, ⟨h1, h2, by simp only; omega, by simp only; omega⟩⟩
theorem md_ok {x n : Int} (hx : 0 ≤ x) (hn : 1 < n) : ∃ r, md x n = some r ∧ 0 ≤ r ∧ r < n := by
  unfold md
  rw [if_neg (by omega)]
  refine ⟨_, rfl, ?_, ?_⟩
  · rw [Int.tmod_eq_emod_of_nonneg hx]; exact Int.emod_nonneg _ (by omega)
  · rw [Int.tmod_eq_emod_of_nonneg hx]; exact Int.emod_lt_of_pos _ (by omega)
theorem pick_ok {c : L1Cur} {b n : Int} (h : Cur c b) (hb : b ≤ 4000000000000000000) : ∃ x d, spec_l1Cur_pick c n = some (x, d) ∧ (0 ≤ x ∧ (1 ≤ n → x < n)) ∧ Cur d (b + 2) := by
  unfold spec_l1Cur_pick
  by_cases hn : n ≤ 1
  · rw [show decide (n ≤ 1) = true by simpa using hn]
    exact ⟨0, c, rfl, ⟨by omega, by omega⟩, h.mono (by omega)⟩
  · rw [show decide (n ≤ 1) = false by simpa using hn]
    obtain ⟨x, d, e1, e2, e3⟩ := next_ok h (by omega)
    simp only [cond_false]
    rw [e1, Option.bind_some]
    cases decide (200 < n)
    · simp only [cond_false, Option.bind_some]
      obtain ⟨r, r1, r2, r3⟩ := md_ok (x := x) e2.1 (show 1 < n by omega)
      rw [r1]
      exact ⟨r, _, rfl, ⟨r2, fun _ => r3⟩, e3.mono (by omega)⟩
    · simp only [cond_true]
      obtain ⟨y, d', f1, f2, f3⟩ := next_ok e3 (by omega)
      rw [f1]
      simp only [Option.bind_some]
      rw [w64 (x := x * 256) (by omega), w64 (by omega)]
      obtain ⟨r, r1, r2, r3⟩ := md_ok (x := x * 256 + y) (by omega) (show 1 < n by omega)
      rw [r1]
      exact ⟨r, _, rfl, ⟨r2, fun _ => r3⟩, f3.mono (by omega)⟩
theorem one_ok {c : L1Cur} {b n : Int} (h : Cur c b) (hb : b ≤ 4000000000000000000) : ∃ x d, spec_l1Cur_one c n = some (x, d) ∧ Cur d (b + 2) := by
  obtain ⟨x, d, e1, _, e3⟩ := pick_ok (n := n) h hb
  unfold spec_l1Cur_one
  rw [e1]
  exact ⟨_, _, rfl, e3⟩
theorem among_ok {c : L1Cur} {b : Int} {l : List Int} (h : Cur c b) (hb : b ≤ 4000000000000000000) (hl : l ≠ []) : ∃ x d, spec_l1Cur_among c l = some (x, d) ∧ x ∈ l ∧ Cur d (b + 2) := by
  obtain ⟨x, d, e1, e2, e3⟩ := pick_ok (n := (l.length : Int)) h hb
  have hl' : 1 ≤ l.length := by cases l with | nil => exact absurd rfl hl | cons _ _ => simp
  unfold spec_l1Cur_among
  rw [e1]
  obtain ⟨n, rfl⟩ := Int.eq_ofNat_of_zero_le e2.1
  have hn : n < l.length := by have := e2.2 (by omega); omega
  simp only [Option.bind_some]
  rw [idx_lt hn]
  exact ⟨_, _, rfl, List.getElem_mem hn, e3⟩
theorem cur0 {l : List Int} (hl : l.length ≤ 1048576) (hb : ∀ x ∈ l, 0 ≤ x ∧ x ≤ 255) : Cur ⟨l, 0, 0⟩ 0 := ⟨hl, hb, by simp, by simp⟩
def inB (n a b : Int) : Bool := decide (a ≤ n) && decide (n ≤ b)
theorem sIn (n a b : Int) : spec_l1In n a b = some (inB n a b) := by
  unfold spec_l1In inB; cases decide (a ≤ n) <;> rfl
theorem iIn (n a b : Int) : impl_in n a b = some (inB n a b) := by
  unfold impl_in inB; cases decide (a ≤ n) <;> rfl
theorem inB_iff {n a b : Int} : inB n a b = true ↔ a ≤ n ∧ n ≤ b := by simp [inB]
def leastF (a b : Int) : Int := if a < b then a else b
theorem sLeast (a b : Int) : spec_l1Least a b = some (leastF a b) := by
  unfold spec_l1Least leastF
  by_cases h : a < b
  · rw [show decide (a < b) = true by simpa using h, if_pos h]; rfl
  · rw [show decide (a < b) = false by simpa using h, if_neg h]; rfl
theorem sAll {l : List Int} (hl : l.length ≤ 1048576) (a b : Int) : spec_l1All l a b = some (l.all (inB · a b)) := by
  unfold spec_l1All
  rw [whl_lg l (spec_l1All_l0 l a b) (fun k (_ : Unit) => k) (fun _ x s => if inB x a b then .next s else .done (.done false)) (fun _ => .next ()) (fun k hk s => by
    simp only [spec_l1All_l0]
    rw [dec_t (by omega), idx_lt hk, w64 (by omega)]
    simp only [cond_true, Option.bind_some, sIn]
    cases inB l[k] a b <;> rfl) (fun s => by simp [spec_l1All_l0]) (), lgo_all _ _ (fun _ _ _ => rfl)]
  cases l.all (inB · a b) <;> rfl
theorem ixf_int {l : List Int} (hl : l.length < 2 ^ 60) {g : Int → Option Bool} (p : Int → Bool) (hg : ∀ x ∈ l, g x = some (p x)) : slices_IndexFunc_int l g = some (ixF p l) := by
  unfold slices_IndexFunc_int
  rw [ixf_go p (f := slices_IndexFunc_int_l0 l g) (fun _ => rfl) hl hg]
  have := ixF_ge p l
  by_cases h : ixF p l < 0
  · rw [if_pos h]; simp; omega
  · rw [if_neg h]; rfl
theorem cf_int {l : List Int} (hl : l.length < 2 ^ 60) {g : Int → Option Bool} (p : Int → Bool) (hg : ∀ x ∈ l, g x = some (p x)) : slices_ContainsFunc_int l g = some (l.any p) := by
  unfold slices_ContainsFunc_int
  rw [ixf_int hl p hg, Option.bind_some, ixF_any]
theorem sMost (a b : Int) : spec_l1Most a b = some (if b < a then a else b) := by
  unfold spec_l1Most
  by_cases h : b < a
  · rw [dec_t h, if_pos h]; rfl
  · rw [dec_f h, if_neg h]; rfl
def sumL : List Int → Int
  | [] => 0
  | x :: xs => x + sumL xs
theorem sumL_fold (l : List Int) (s : Int) : l.foldl (· + ·) s = s + sumL l := by
  induction l generalizing s with
  | nil => simp [sumL]
  | cons x xs ih => simp only [List.foldl_cons, sumL]; rw [ih]; omega
theorem sum_go {l : List Int} (hl : l.length ≤ 1048576) (hb : ∀ x ∈ l, -1000000000000 ≤ x ∧ x ≤ 1000000000000) {f : Int × Int → Option (LR (Int × Int) Int)}
    (hs : ∀ (k : Nat) (hk : k < l.length) (s : Int), f (s, k) = some (.next (IntKind.i64.wrap (s + l[k]), (k : Int) + 1))) (hz : ∀ s, f (s, l.length) = some (.done s)) : whl f (0, 0) = some (sumL l) := by
  have := whl_lgo l f (fun k s => (s, k)) (fun _ x s => .next (s + x)) (fun s => s) (fun k s => -1000000000000 * (k : Int) ≤ s ∧ s ≤ 1000000000000 * k) (fun k hk s hi => by
    have hx := hb _ (List.getElem_mem hk)
    rw [hs k hk, w64 (by omega)]
    refine ⟨rfl, fun s' h => ?_⟩
    simp only [LR.next.injEq] at h
    omega) (fun s _ => hz s) 0 (by simp)
  rw [this, lgo_fold (· + ·) (fun _ _ _ => rfl), sumL_fold]
  simp
theorem fold_app {α β : Type} (h : α → β) (l : List α) (a : List β) : l.foldl (fun a x => a ++ [h x]) a = a ++ l.map h := by
  induction l generalizing a with
  | nil => simp
  | cons x xs ih => simp [ih]
theorem map_go {α : Type} {l : List α} (_hl : l.length ≤ 1048576) {h : α → Int} {f : Int × List Int → Option (LR (Int × List Int) (List Int))}
    (hs : ∀ (k : Nat) (hk : k < l.length) (a : List Int), a.length = k → f (k, a) = some (.next ((k : Int) + 1, a ++ [h l[k]]))) (hz : ∀ a, f (l.length, a) = some (.done a)) : whl f (0, []) = some (l.map h) := by
  have := whl_lgo l f (fun k a => (k, a)) (fun _ x a => .next (a ++ [h x])) (fun a => a) (fun k a => a.length = k) (fun k hk a hi => by
    rw [hs k hk a hi]
    refine ⟨rfl, fun s' h => ?_⟩
    simp only [LR.next.injEq] at h
    subst h
    simp [hi]) (fun s _ => hz s) [] (by simp)
  rw [this, lgo_fold (fun a x => a ++ [h x]) (fun _ _ _ => rfl), fold_app]
  simp
theorem sameI {l : List Int} (hl : l.length ≤ 1048576) : laws_sameInts l l = some true := by
  unfold laws_sameInts
  rw [eqS_go (l := l) (fun k hk => by
    simp only [laws_sameInts_l0]
    rw [dec_t (by omega), idx_lt hk, w64 (by omega)]
    simp) (by simp [laws_sameInts_l0])]
  simp
theorem pick_t {c : L1Cur} {b n : Int} (h : Cur c b) (hb : b ≤ 4000000000000000000) : Tot (spec_l1Cur_pick c n) fun r => 0 ≤ r.1 ∧ (1 ≤ n → r.1 < n) ∧ Cur r.2 (b + 2) := by
  obtain ⟨x, d, e, ⟨h1, h2⟩, h3⟩ := pick_ok (n := n) h hb
  exact ⟨_, e, h1, h2, h3⟩
theorem one_t {c : L1Cur} {b n : Int} (h : Cur c b) (hb : b ≤ 4000000000000000000) : Tot (spec_l1Cur_one c n) fun r => Cur r.2 (b + 2) := by
  obtain ⟨x, d, e, h3⟩ := one_ok (n := n) h hb
  exact ⟨_, e, h3⟩
theorem among_t {c : L1Cur} {b : Int} {l : List Int} (h : Cur c b) (hb : b ≤ 4000000000000000000) (hl : l ≠ []) : Tot (spec_l1Cur_among c l) fun r => r.1 ∈ l ∧ Cur r.2 (b + 2) := by
  obtain ⟨x, d, e, h2, h3⟩ := among_ok h hb hl
  exact ⟨_, e, h2, h3⟩
def goodS (s : Shares) : Bool := inB (s.Wins.length : Int) 1 5 && (s.Wins.all (inB · 1 10000) && inB s.Room 1 40000)
theorem iGoodS {s : Shares} (hl : s.Wins.length ≤ 1048576) : impl_GoodShares s = some (goodS s) := by
  unfold impl_GoodShares goodS
  rw [iIn, iIn, cf_int (by omega) (fun x => !inB x 1 10000) (fun x _ => by simp [impl_GoodShares_1, iIn])]
  have : (!s.Wins.any fun x => !inB x 1 10000) = s.Wins.all (inB · 1 10000) := by simp [List.all_eq_not_any_not]
  simp only [Option.bind_some]
  rw [this]
  cases inB (s.Wins.length : Int) 1 5 <;> cases s.Wins.all (inB · 1 10000) <;> rfl
theorem sGoodS {s : Shares} (hl : s.Wins.length ≤ 1048576) : spec_GoodShares s = some (goodS s) := by
  unfold spec_GoodShares goodS
  rw [sIn, sIn, sAll hl]
  cases inB (s.Wins.length : Int) 1 5 <;> cases s.Wins.all (inB · 1 10000) <;> rfl
theorem goodS_iff {s : Shares} : goodS s = true ↔ (1 ≤ s.Wins.length ∧ s.Wins.length ≤ 5) ∧ (∀ x ∈ s.Wins, 1 ≤ x ∧ x ≤ 10000) ∧ 1 ≤ s.Room ∧ s.Room ≤ 40000 := by
  unfold goodS
  simp only [Bool.and_eq_true, inB_iff, List.all_eq_true]
  constructor
  · rintro ⟨h1, h2, h3⟩; exact ⟨by omega, h2, h3⟩
  · rintro ⟨h1, h2, h3⟩; exact ⟨by omega, h2, h3⟩
def growW (x : Int) : Int := IntKind.i64.wrap (x + 1)
def halveW (x : Int) : Int := if IntKind.i64.wrap (Int.tdiv x 2) < 1 then 1 else IntKind.i64.wrap (Int.tdiv x 2)
def halveI (x : Int) : Int := if x / 2 < 1 then 1 else x / 2
def growS (s : Shares) : Shares := ⟨s.Wins.map growW, s.Room⟩
def halveS (s : Shares) : Shares := ⟨s.Wins.map halveW, s.Room⟩
theorem growW_in {x : Int} (h : 1 ≤ x ∧ x ≤ 10000) : growW x = x + 1 := by unfold growW; rw [w64 (by omega)]
theorem halveW_in {x : Int} (h : 1 ≤ x ∧ x ≤ 10000) : halveW x = halveI x := by
  unfold halveW halveI
  rw [Int.tdiv_eq_ediv_of_nonneg (by omega), w64 (by omega)]
theorem good_halve {s : Shares} (h : goodS s = true) : goodS (halveS s) = true := by
  rw [goodS_iff] at h ⊢
  unfold halveS
  refine ⟨by simpa using h.1, ?_, h.2.2⟩
  intro x hx
  obtain ⟨y, hy, rfl⟩ := List.mem_map.1 hx
  have := h.2.1 y hy
  rw [halveW_in this]
  unfold halveI
  split <;> omega
def sTell (s : Shares) : Shares × Bool := if goodS s then (s, true) else (⟨[], 0⟩, false)
def chg (s x : Shares) : Shares × Bool := if goodS s then sTell x else (⟨[], 0⟩, false)
theorem iChanged {s : Shares} {h : Int → Int} {g : Int → Option Int} (hl : s.Wins.length ≤ 1048576) (hg : ∀ x, g x = some (h x)) : impl_Shares_changed s g = some (chg s ⟨s.Wins.map h, s.Room⟩) := by
  unfold impl_Shares_changed chg sTell
  rw [map_go hl (h := h) (fun k hk a ha => by
    simp only [impl_Shares_changed_l0]
    rw [dec_t (by omega), idx_lt hk]
    simp only [cond_true, Option.bind_some, hg]
    rw [app_in (by simp <;> omega) (by omega), w64 (by omega)]
    rfl) (fun a => by simp [impl_Shares_changed_l0])]
  simp only [Option.bind_some]
  rw [iGoodS hl, iGoodS (by simpa using hl)]
  cases goodS s <;> cases goodS ⟨s.Wins.map h, s.Room⟩ <;> rfl
theorem iGrow {s : Shares} (hl : s.Wins.length ≤ 1048576) : impl_GrowAll s = some (chg s (growS s)) := by
  unfold impl_GrowAll growS
  rw [iChanged hl (h := growW) (g := impl_GrowAll_1) (fun x => rfl)]; rfl
theorem iHalve {s : Shares} (hl : s.Wins.length ≤ 1048576) : impl_HalveAll s = some (chg s (halveS s)) := by
  unfold impl_HalveAll halveS
  rw [iChanged hl (h := halveW) (g := impl_HalveAll_1) (fun x => rfl)]; rfl
theorem sGrow {s : Shares} (hl : s.Wins.length ≤ 1048576) : spec_l10Grow s = some (growS s) := by
  unfold spec_l10Grow growS
  rw [map_go hl (h := growW) (fun k hk a ha => by
    simp only [spec_l10Grow_l0]
    rw [dec_t (by omega), idx_lt hk]
    simp only [cond_true, Option.bind_some]
    rw [app_in (by simp <;> omega) (by omega)]
    simp only [Option.bind_some]
    rw [w64 (x := (k : Int) + 1) (by omega)]
    rfl) (fun a => by simp [spec_l10Grow_l0])]
  rfl
theorem sHalve {s : Shares} (hl : s.Wins.length ≤ 1048576) : spec_l10Halve s = some (halveS s) := by
  unfold spec_l10Halve halveS
  rw [map_go hl (h := halveW) (fun k hk a ha => by
    simp only [spec_l10Halve_l0, sMost]
    rw [dec_t (by omega), idx_lt hk]
    simp only [cond_true, Option.bind_some]
    rw [app_in (by simp <;> omega) (by omega)]
    simp only [Option.bind_some]
    rw [w64 (x := (k : Int) + 1) (by omega)]
    rfl) (fun a => by simp [spec_l10Halve_l0])]
  rfl
theorem sums {s : Shares} (hl : s.Wins.length ≤ 1048576) (hb : ∀ x ∈ s.Wins, 1 ≤ x ∧ x ≤ 10000) : impl_sum s.Wins = some (sumL s.Wins) ∧ spec_l1Sum s.Wins = some (sumL s.Wins) ∧ laws_sumOf s.Wins = some (sumL s.Wins) := by
  have hb' : ∀ x ∈ s.Wins, -1000000000000 ≤ x ∧ x ≤ 1000000000000 := fun x hx => by have := hb x hx; omega
  refine ⟨?_, ?_, ?_⟩
  · unfold impl_sum
    rw [sum_go hl hb' (fun k hk s => by simp only [impl_sum_l0]; rw [dec_t (by omega), idx_lt hk, w64 (x := (k : Int) + 1) (by omega)]; rfl) (fun s => by simp [impl_sum_l0])]; rfl
  · unfold spec_l1Sum
    rw [sum_go hl hb' (fun k hk s => by simp only [spec_l1Sum_l0]; rw [dec_t (by omega), idx_lt hk, w64 (x := (k : Int) + 1) (by omega)]; rfl) (fun s => by simp [spec_l1Sum_l0])]; rfl
  · unfold laws_sumOf
    rw [sum_go hl hb' (fun k hk s => by simp only [laws_sumOf_l0]; rw [dec_t (by omega), idx_lt hk, w64 (x := (k : Int) + 1) (by omega)]; rfl) (fun s => by simp [laws_sumOf_l0])]; rfl
def maxL (m : Int) (l : List Int) : Int := l.foldl (fun m x => if x > m then x else m) m
def minL (m : Int) (l : List Int) : Int := l.foldl (fun m x => if x < m then x else m) m
theorem maxL_map {h : Int → Int} (hm : ∀ a b, a ≤ b → h a ≤ h b) (m : Int) (l : List Int) : maxL (h m) (l.map h) = h (maxL m l) := by
  induction l generalizing m with
  | nil => rfl
  | cons x xs ih =>
    simp only [maxL, List.map_cons, List.foldl_cons] at ih ⊢
    rw [← ih]
    congr 1
    by_cases hx : x > m
    · have := hm m x (by omega)
      rw [if_pos hx]; split <;> omega
    · have := hm x m (by omega)
      rw [if_neg hx, if_neg (by omega)]
theorem minL_map {h : Int → Int} (hm : ∀ a b, a ≤ b → h a ≤ h b) (m : Int) (l : List Int) : minL (h m) (l.map h) = h (minL m l) := by
  induction l generalizing m with
  | nil => rfl
  | cons x xs ih =>
    simp only [minL, List.map_cons, List.foldl_cons] at ih ⊢
    rw [← ih]
    congr 1
    by_cases hx : x < m
    · have := hm x m (by omega)
      rw [if_pos hx]; split <;> omega
    · have := hm m x (by omega)
      rw [if_neg hx, if_neg (by omega)]
theorem maxL_in {lo hi : Int} (m : Int) (l : List Int) (hm : lo ≤ m ∧ m ≤ hi) (hl : ∀ x ∈ l, lo ≤ x ∧ x ≤ hi) : m ≤ maxL m l ∧ maxL m l ≤ hi := by
  induction l generalizing m with
  | nil => simpa [maxL] using hm.2
  | cons x xs ih =>
    simp only [maxL, List.foldl_cons] at ih ⊢
    have hx := hl x (by simp)
    by_cases hc : x > m
    · have := ih x hx (fun y hy => hl y (by simp [hy]))
      rw [if_pos hc]; omega
    · have := ih m hm (fun y hy => hl y (by simp [hy]))
      rw [if_neg hc]; omega
theorem minL_in {lo hi : Int} (m : Int) (l : List Int) (hm : lo ≤ m ∧ m ≤ hi) (hl : ∀ x ∈ l, lo ≤ x ∧ x ≤ hi) : lo ≤ minL m l ∧ minL m l ≤ m := by
  induction l generalizing m with
  | nil => simpa [minL] using hm.1
  | cons x xs ih =>
    simp only [minL, List.foldl_cons] at ih ⊢
    have hx := hl x (by simp)
    by_cases hc : x < m
    · have := ih x hx (fun y hy => hl y (by simp [hy]))
      rw [if_pos hc]; omega
    · have := ih m hm (fun y hy => hl y (by simp [hy]))
      rw [if_neg hc]; omega
def spreadL : List Int → Int
  | [] => 0
  | x :: xs => maxL x xs - minL x xs
theorem iMax {x : Int} {xs : List Int} (hl : xs.length ≤ 1048576) : slices_Max_int (x :: xs) = some (maxL x xs) := by
  unfold slices_Max_int
  rw [dec_f (by simp only [List.length_cons]; omega)]
  have h0 : idx (x :: xs) 0 = some x := rfl
  simp only [cond_false, Option.bind_some, h0]
  have := whl_lgo_aux (x :: xs) (slices_Max_int_l0 (x :: xs)) (fun k s => (s, k)) (fun _ y s => .next (if y > s then y else s)) (fun s => s) (fun _ _ => True) (fun k hk s _ => by
    simp only [slices_Max_int_l0]
    rw [dec_t (by omega), idx_lt hk]
    simp only [cond_true, Option.bind_some]
    rw [List.length_cons] at hk
    rw [w64 (by omega)]
    exact ⟨rfl, fun _ _ => trivial⟩) (fun s _ => by simp [slices_Max_int_l0]) xs.length 1 (by simp <;> omega) x trivial
  rw [show ((1 : Nat) : Int) = 1 from rfl] at this
  rw [this, lgo_fold (fun (s y : Int) => if y > s then y else s) (fun _ _ _ => rfl)]
  rfl
theorem iMin {x : Int} {xs : List Int} (hl : xs.length ≤ 1048576) : slices_Min_int (x :: xs) = some (minL x xs) := by
  unfold slices_Min_int
  rw [dec_f (by simp only [List.length_cons]; omega)]
  have h0 : idx (x :: xs) 0 = some x := rfl
  simp only [cond_false, Option.bind_some, h0]
  have := whl_lgo_aux (x :: xs) (slices_Min_int_l0 (x :: xs)) (fun k s => (s, k)) (fun _ y s => .next (if y < s then y else s)) (fun s => s) (fun _ _ => True) (fun k hk s _ => by
    simp only [slices_Min_int_l0]
    rw [dec_t (by omega), idx_lt hk]
    simp only [cond_true, Option.bind_some]
    rw [List.length_cons] at hk
    rw [w64 (by omega)]
    exact ⟨rfl, fun _ _ => trivial⟩) (fun s _ => by simp [slices_Min_int_l0]) xs.length 1 (by simp <;> omega) x trivial
  rw [show ((1 : Nat) : Int) = 1 from rfl] at this
  rw [this, lgo_fold (fun (s y : Int) => if y < s then y else s) (fun _ _ _ => rfl)]
  rfl
theorem spread_in {s : Shares} (h : goodS s = true) : 0 ≤ spreadL s.Wins ∧ spreadL s.Wins ≤ 10000 := by
  have hg := goodS_iff.1 h
  cases hw : s.Wins with
  | nil => rw [hw] at hg; simp at hg
  | cons x xs =>
    rw [hw] at hg
    have hx := hg.2.1 x (by simp)
    have hxs : ∀ y ∈ xs, 1 ≤ y ∧ y ≤ 10000 := fun y hy => hg.2.1 y (by simp [hy])
    have := maxL_in x xs hx hxs
    have := minL_in x xs hx hxs
    simp only [spreadL]; omega
theorem iSpread {s : Shares} (h : goodS s = true) : impl_SpreadOf s = some (spreadL s.Wins, true) := by
  have hg := goodS_iff.1 h
  have hi := spread_in h
  unfold impl_SpreadOf
  rw [iGoodS (by omega), h]
  simp only [Option.bind_some, Bool.not_true, cond_false]
  cases hw : s.Wins with
  | nil => rw [hw] at hg; simp at hg
  | cons x xs =>
    rw [hw] at hg hi
    simp only [List.length_cons] at hg
    rw [iMax (by omega), iMin (by omega)]
    simp only [Option.bind_some]
    simp only [spreadL] at hi ⊢
    rw [w64 (by omega)]
theorem spread_map {h : Int → Int} (hm : ∀ a b, a ≤ b → h a ≤ h b) {l : List Int} (hl : l ≠ []) : ∃ lo hi, spreadL l = hi - lo ∧ lo ≤ hi ∧ spreadL (l.map h) = h hi - h lo := by
  cases l with
  | nil => simp at hl
  | cons x xs =>
    refine ⟨minL x xs, maxL x xs, rfl, ?_, ?_⟩
    · have h1 : ∀ (l : List Int) (m : Int), m ≤ maxL m l ∧ minL m l ≤ m := by
        intro l
        induction l with
        | nil => intro m; simp [maxL, minL]
        | cons y ys ih =>
          intro m
          simp only [maxL, minL, List.foldl_cons] at ih ⊢
          constructor
          · by_cases hc : y > m
            · have := (ih y).1
              rw [if_pos hc]; omega
            · rw [if_neg hc]; exact (ih m).1
          · by_cases hc : y < m
            · have := (ih y).2
              rw [if_pos hc]; omega
            · rw [if_neg hc]; exact (ih m).2
      have := h1 xs x
      omega
    · simp only [List.map_cons, spreadL]
      rw [maxL_map hm, minL_map hm]
theorem shares_t {c : L1Cur} {b : Int} (h : Cur c b) (hb : b ≤ 2000000000000000000) : Tot (spec_l1Cur_shares c) fun r => r.1.Wins.length ≤ 5 ∧ Cur r.2 (b + 100) := by
  unfold spec_l1Cur_shares
  refine Tot.then (pick_t (by assumption) (by omega)) ?_
  rintro ⟨x, c_x⟩ ⟨x_0, x_1, x_c⟩
  dsimp only at x_0 x_1 x_c ⊢
  have x_2 := x_1 (by omega)
  refine Tot.then (pick_t (by assumption) (by omega)) ?_
  rintro ⟨y, c_y⟩ ⟨y_0, y_1, y_c⟩
  dsimp only at y_0 y_1 y_c ⊢
  have y_2 := y_1 (by omega)
  rw [w64 (x := 1 + y) (by omega)]
  refine Tot.then (P := fun r => (1 ≤ r.2.2.2.length ∧ r.2.2.2.length ≤ 5) ∧ Cur ⟨r.1, r.2.1, r.2.2.1⟩ (b + 50)) (Tot.whl (fun s => s.1.toNat) (fun s => ((0 ≤ s.1 ∧ s.1 ≤ 4) ∧ 1 ≤ s.2.2.2.2.length + s.1.toNat ∧ s.2.2.2.2.length + s.1.toNat ≤ 5) ∧ Cur ⟨s.2.1, s.2.2.1, s.2.2.2.1⟩ (b + 10 + 2 * (5 - s.1))) ?_ ⟨⟨(by first | omega | (dsimp only; omega)), by simp only [List.length_nil]; omega, by simp only [List.length_nil]; omega⟩, y_c.mono (by first | omega | (dsimp only; omega))⟩) ?_
  · rintro ⟨n, co, a, se, l⟩ ⟨⟨h1, h2, h3⟩, hc0⟩
    dsimp only at h1 h2 h3 hc0 ⊢
    unfold spec_l1Cur_shares_l0
    dsimp only
    refine Tot.cnd (fun hc => ?_) (fun hc => ?_)
    · simp only [decide_eq_true_eq] at hc
      refine Tot.then (pick_t (by assumption) (by omega)) ?_
      rintro ⟨z, c_z⟩ ⟨z_0, z_1, z_c⟩
      dsimp only at z_0 z_1 z_c ⊢
      rw [app_in (by simp <;> omega) (by omega)]
      simp only [Option.bind_some]
      rw [w64 (x := n - 1) (by omega)]
      exact .ret ⟨⟨⟨(by first | omega | (dsimp only; omega)), by simp only [List.length_append, List.length_singleton]; omega, by simp only [List.length_append, List.length_singleton]; omega⟩, z_c.mono (by first | omega | (dsimp only; omega))⟩, (by first | omega | (dsimp only; omega))⟩
    · simp only [decide_eq_false_iff_not, Int.not_lt] at hc
      exact .ret ⟨⟨(by first | omega | (dsimp only; omega)), (by first | omega | (dsimp only; omega))⟩, hc0.mono (by first | omega | (dsimp only; omega))⟩
  · rintro ⟨co, a, se, l⟩ ⟨h1, hc0⟩
    dsimp only at h1 hc0 ⊢
    refine Tot.then (pick_t (by assumption) (by omega)) ?_
    rintro ⟨z, c_z⟩ ⟨z_0, z_1, z_c⟩
    dsimp only at z_0 z_1 z_c ⊢
    refine Tot.then (P := fun r => r.2.2.2.1.length ≤ 5 ∧ Cur ⟨r.1, r.2.1, r.2.2.1⟩ (b + 100)) ?_ ?_
    · refine Tot.then (P := fun r => r.2.2.2.1.length ≤ 5 ∧ Cur ⟨r.1, r.2.1, r.2.2.1⟩ (b + 100)) ?_ ?_
      · refine Tot.cnd (fun hc => ?_) (fun hc => ?_)
        · refine Tot.then (among_t (by assumption) (by omega) (by simp)) ?_
          rintro ⟨w, c_w⟩ ⟨w_m, w_c⟩
          dsimp only at w_m w_c ⊢
          rw [idx_in (by omega) (by omega)]
          simp only [Option.bind_some]
          exact .ret ⟨by simp only [List.length_set]; omega, w_c.mono (by omega)⟩
        · refine Tot.then (P := fun r => Cur ⟨r.1, r.2.1, r.2.2.1⟩ (b + 100)) ?_ ?_
          · refine Tot.cnd (fun hc => ?_) (fun hc => ?_)
            · refine Tot.then (among_t (by assumption) (by omega) (by simp)) ?_
              rintro ⟨w, c_w⟩ ⟨w_m, w_c⟩
              dsimp only at w_m w_c ⊢
              exact .ret (w_c.mono (by omega))
            · exact .ret (z_c.mono (by omega))
          · rintro ⟨co', a', se', ro⟩ hc'
            exact .ret ⟨(by first | omega | (dsimp only; omega)), hc'⟩
      · rintro ⟨co', a', se', l', ro⟩ hc'
        exact .ret hc'
    · rintro ⟨co', a', se', l', ro⟩ hc'
      exact .ret hc'
theorem sameSh {s : Shares} (hl : s.Wins.length ≤ 1048576) : laws_sameShares s s = some true := by
  unfold laws_sameShares
  rw [sameI hl]
  simp
theorem mulb {a b A B : Int} (ha : 0 ≤ a ∧ a ≤ A) (hb : 0 ≤ b ∧ b ≤ B) : 0 ≤ a * b ∧ a * b ≤ A * B :=
  ⟨Int.mul_nonneg ha.1 hb.1, Int.mul_le_mul ha.2 hb.2 hb.1 (by omega)⟩
def sqL (l : List Int) : Int := sumL (l.map fun x => x * x)
theorem sumL_in {B : Int} : ∀ (l : List Int), (∀ x ∈ l, 0 ≤ x ∧ x ≤ B) → 0 ≤ sumL l ∧ sumL l ≤ l.length * B
  | [], _ => by simp [sumL]
  | x :: xs, h => by
    have h1 := h x (by simp)
    have h2 := sumL_in xs (fun y hy => h y (by simp [hy]))
    simp only [sumL, List.length_cons]
    rw [show ((xs.length + 1 : Nat) : Int) * B = xs.length * B + B by rw [show ((xs.length + 1 : Nat) : Int) = (xs.length : Int) + 1 by omega, Int.add_mul, Int.one_mul]]
    omega
theorem sums_in {s : Shares} (h : goodS s = true) : (0 ≤ sumL s.Wins ∧ sumL s.Wins ≤ 50000) ∧ (0 ≤ sqL s.Wins ∧ sqL s.Wins ≤ 500000000) ∧ (0 ≤ sumL s.Wins * sumL s.Wins ∧ sumL s.Wins * sumL s.Wins ≤ 2500000000) ∧ 0 ≤ (s.Wins.length : Int) * sqL s.Wins ∧ (s.Wins.length : Int) * sqL s.Wins ≤ 2500000000 := by
  have g := goodS_iff.1 h
  have h1 := sumL_in s.Wins (B := 10000) (fun x hx => by have := g.2.1 x hx; omega)
  have h2 := sumL_in (s.Wins.map fun x => x * x) (B := 100000000) (fun y hy => by
    obtain ⟨x, hx, rfl⟩ := List.mem_map.1 hy
    have := g.2.1 x hx
    exact mulb (A := 10000) (B := 10000) (by omega) (by omega))
  rw [List.length_map] at h2
  have a1 : 0 ≤ sumL s.Wins ∧ sumL s.Wins ≤ 50000 := by omega
  have a2 : 0 ≤ sqL s.Wins ∧ sqL s.Wins ≤ 500000000 := by unfold sqL; omega
  exact ⟨a1, a2, mulb a1 a1, mulb (A := 5) (B := 500000000) (by omega) a2⟩
def fairLF (s : Shares) : Int × Int × Bool := if goodS s then (sumL s.Wins * sumL s.Wins, s.Wins.length * sqL s.Wins, true) else (0, 0, false)
theorem sq_go {s : Shares} (h : goodS s = true) {f : Int × Int → Option (LR (Int × Int) Int)}
    (hs : ∀ (k : Nat) (hk : k < s.Wins.length) (t : Int), f (t, k) = some (.next (IntKind.i64.wrap (t + IntKind.i64.wrap (s.Wins[k] * s.Wins[k])), IntKind.i64.wrap ((k : Int) + 1)))) (hz : ∀ t, f (t, s.Wins.length) = some (.done t)) : whl f (0, 0) = some (sqL s.Wins) := by
  have g := goodS_iff.1 h
  have hsq : ∀ x ∈ s.Wins, 0 ≤ x * x ∧ x * x ≤ 100000000 := fun x hx => by
    have := g.2.1 x hx
    exact mulb (A := 10000) (B := 10000) (by omega) (by omega)
  refine sum_go (l := s.Wins.map fun x => x * x) (by simp <;> omega) (fun y hy => by
    obtain ⟨x, hx, rfl⟩ := List.mem_map.1 hy
    have := hsq x hx
    omega) (fun k hk t => ?_) (fun t => by rw [List.length_map]; exact hz t)
  have hk' : k < s.Wins.length := by simpa using hk
  have := hsq _ (List.getElem_mem hk')
  rw [hs k hk', w64 (x := s.Wins[k] * s.Wins[k]) (by omega), w64 (x := (k : Int) + 1) (by omega), List.getElem_map]
theorem iFair {s : Shares} (hl : s.Wins.length ≤ 1048576) : impl_FairnessOf s = some (fairLF s) := by
  unfold impl_FairnessOf fairLF
  rw [iGoodS hl]
  cases h : goodS s
  · rfl
  · have g := goodS_iff.1 h
    have hi := sums_in h
    simp only [Option.bind_some, Bool.not_true, cond_false, if_true]
    rw [sq_go h (fun k hk t => by simp only [impl_FairnessOf_l0]; rw [dec_t (by omega), idx_lt hk]; rfl) (fun t => by simp [impl_FairnessOf_l0]), (sums hl g.2.1).1]
    simp only [Option.bind_some]
    rw [w64 (by omega), w64 (by omega)]
theorem sFair0 {s : Shares} (h : goodS s = true) : spec_l10Fairness s = some (sumL s.Wins * sumL s.Wins, s.Wins.length * sqL s.Wins) := by
  have g := goodS_iff.1 h
  have hi := sums_in h
  unfold spec_l10Fairness
  rw [(sums (by omega) g.2.1).2.1, sq_go h (fun k hk t => by simp only [spec_l10Fairness_l0]; rw [dec_t (by omega), idx_lt hk]; rfl) (fun t => by simp [spec_l10Fairness_l0])]
  simp only [Option.bind_some]
  rw [w64 (by omega), w64 (by omega)]
theorem sFair {s : Shares} (hl : s.Wins.length ≤ 1048576) : spec_FairnessOf s = some (fairLF s) := by
  unfold spec_FairnessOf fairLF
  rw [sGoodS hl]
  cases h : goodS s
  · rfl
  · simp only [Option.bind_some, Bool.not_true, cond_false, sFair0 h]; rfl
def fairerLF (a b : Shares) : Bool × Bool := if goodS a && (goodS b && decide (a.Wins.length = b.Wins.length)) then
  (decide (sumL b.Wins * sumL b.Wins * (a.Wins.length * sqL a.Wins) < sumL a.Wins * sumL a.Wins * (b.Wins.length * sqL b.Wins)), true) else (false, false)
theorem iFairer {a b : Shares} (ha : a.Wins.length ≤ 1048576) (hb : b.Wins.length ≤ 1048576) : impl_IsFairer a b = some (fairerLF a b) ∧ spec_IsFairer a b = some (fairerLF a b) := by
  unfold impl_IsFairer spec_IsFairer fairerLF
  rw [iFair ha, iFair hb, sGoodS ha, sGoodS hb]
  unfold fairLF
  cases h1 : goodS a
  · cases goodS b <;> exact ⟨rfl, rfl⟩
  cases h2 : goodS b
  · exact ⟨rfl, rfl⟩
  have i1 := sums_in h1
  have i2 := sums_in h2
  have m1 := mulb i2.2.2.1 i1.2.2.2
  have m2 := mulb i1.2.2.1 i2.2.2.2
  simp only [if_true, Option.bind_some, Bool.not_true, cond_false, Bool.true_and]
  by_cases hl : a.Wins.length = b.Wins.length
  · rw [show ((a.Wins.length : Int) != (b.Wins.length : Int)) = false by simp [hl], dec_t hl]
    simp only [cond_false, if_true]
    rw [sFair0 h1, sFair0 h2]
    simp only [Option.bind_some]
    rw [w64 (by omega), w64 (by omega)]
    exact ⟨rfl, rfl⟩
  · rw [show ((a.Wins.length : Int) != (b.Wins.length : Int)) = true from bne_iff_ne.2 (by omega), dec_f hl]
    exact ⟨rfl, rfl⟩
def gap (l : List Int) : Int := l.length * sqL l - sumL l * sumL l
def dev (x : Int) (l : List Int) : Int := sumL (l.map fun w => (w - x) * (w - x))
theorem dev_eq (x : Int) : ∀ (l : List Int), dev x l = sqL l - 2 * x * sumL l + l.length * (x * x)
  | [] => by simp [dev, sqL, sumL]
  | w :: ws => by
    have ih := dev_eq x ws
    unfold dev sqL at ih ⊢
    simp only [List.map_cons, sumL, List.length_cons]
    rw [ih, show ((ws.length + 1 : Nat) : Int) = (ws.length : Int) + 1 by omega]
    grind
theorem dev_nn (x : Int) : ∀ (l : List Int), 0 ≤ dev x l ∧ (dev x l = 0 → ∀ w ∈ l, w = x)
  | [] => by simp [dev, sumL]
  | w :: ws => by
    obtain ⟨h1, h2⟩ := dev_nn x ws
    have hs : 0 ≤ (w - x) * (w - x) := by
      rcases Int.le_total 0 (w - x) with h | h
      · exact Int.mul_nonneg h h
      · exact Int.mul_nonneg_of_nonpos_of_nonpos h h
    have e : dev x (w :: ws) = (w - x) * (w - x) + dev x ws := by simp [dev, sumL]
    rw [e]
    refine ⟨by omega, fun h0 y hy => ?_⟩
    simp only [List.mem_cons] at hy
    rcases hy with rfl | hy
    · have : (y - x) * (y - x) = 0 := by omega
      rcases Int.mul_eq_zero.1 this with h | h <;> omega
    · exact h2 (by omega) y hy
theorem gap_cons (x : Int) (xs : List Int) : gap (x :: xs) = gap xs + dev x xs := by
  rw [dev_eq]
  unfold gap sqL
  simp only [List.map_cons, sumL, List.length_cons]
  rw [show ((xs.length + 1 : Nat) : Int) = (xs.length : Int) + 1 by omega]
  grind
theorem gap_nn : ∀ (l : List Int), 0 ≤ gap l
  | [] => by simp [gap, sqL, sumL]
  | x :: xs => by
    have := gap_nn xs
    have := (dev_nn x xs).1
    rw [gap_cons]; omega
theorem gap_zero {x : Int} {xs : List Int} : gap (x :: xs) = 0 ↔ ∀ w ∈ xs, w = x := by
  rw [gap_cons]
  have h1 := gap_nn xs
  have h2 := dev_nn x xs
  constructor
  · intro h; exact h2.2 (by omega)
  · intro h
    have e1 : dev x xs = 0 := by
      unfold dev
      rw [List.map_congr_left (g := fun _ => 0) (fun w hw => by rw [h w hw]; simp)]
      clear h h1 h2
      induction xs with
      | nil => rfl
      | cons y ys ih => simp only [List.map_cons, sumL]; omega
    have e2 : ∀ (l : List Int), (∀ w ∈ l, w = x) → gap l = 0 := by
      intro l
      induction l with
      | nil => intro _; simp [gap, sqL, sumL]
      | cons y ys ih =>
        intro hl
        rw [gap_cons, ih (fun w hw => hl w (by simp [hw]))]
        have hy := hl y (by simp)
        unfold dev
        rw [List.map_congr_left (g := fun _ => 0) (fun w hw => by rw [hl w (by simp [hw]), hy]; simp)]
        clear ih hl
        induction ys with
        | nil => rfl
        | cons z zs ih => simp only [List.map_cons, sumL]; omega
    rw [e1, e2 xs h]; rfl
theorem mm_mem : ∀ (xs : List Int) (m : Int), (∀ y ∈ xs, minL m xs ≤ y ∧ y ≤ maxL m xs) ∧ minL m xs ≤ m ∧ m ≤ maxL m xs
  | [], m => by simp [minL, maxL]
  | x :: xs, m => by
    obtain ⟨a1, a2, a3⟩ := mm_mem xs (if x > m then x else m)
    obtain ⟨b1, b2, b3⟩ := mm_mem xs (if x < m then x else m)
    have e1 : maxL m (x :: xs) = maxL (if x > m then x else m) xs := rfl
    have e2 : minL m (x :: xs) = minL (if x < m then x else m) xs := rfl
    rw [e1, e2]
    have h1 : x ≤ (if x > m then x else m) ∧ m ≤ (if x > m then x else m) := by split <;> omega
    have h2 : (if x < m then x else m) ≤ x ∧ (if x < m then x else m) ≤ m := by split <;> omega
    refine ⟨?_, by omega, by omega⟩
    intro y hy
    simp only [List.mem_cons] at hy
    rcases hy with rfl | hy
    · omega
    · exact ⟨(b1 y hy).1, (a1 y hy).2⟩
theorem spread_zero {x : Int} {xs : List Int} : spreadL (x :: xs) = 0 ↔ ∀ w ∈ xs, w = x := by
  have h := mm_mem xs x
  simp only [spreadL]
  constructor
  · intro h0 w hw
    have := h.1 w hw
    omega
  · intro h0
    have h1 := maxL_in (lo := x) (hi := x) x xs ⟨by omega, by omega⟩ (fun y hy => by rw [h0 y hy]; omega)
    have h2 := minL_in (lo := x) (hi := x) x xs ⟨by omega, by omega⟩ (fun y hy => by rw [h0 y hy]; omega)
    omega
theorem sSpread {s : Shares} (h : goodS s = true) : spec_l10Spread s = some (spreadL s.Wins) := by
  have g := goodS_iff.1 h
  have hi := spread_in h
  unfold spec_l10Spread
  have h0 : 0 < s.Wins.length := by omega
  have e0 : idx s.Wins 0 = some s.Wins[0] := idx_lt h0
  rw [e0]
  simp only [Option.bind_some]
  rw [whl_lg s.Wins _ (fun k (t : Int × Int) => (t.1, t.2, k)) (fun _ y t => .next (if y < t.1 then y else t.1, if y > t.2 then y else t.2)) (fun t => t) (fun k hk t => by
    simp only [spec_l10Spread_l0, sLeast, sMost]
    rw [dec_t (by omega), idx_lt hk, w64 (by omega)]
    simp only [cond_true, Option.bind_some, LR.mapN, Option.some.injEq, LR.next.injEq, Prod.mk.injEq, and_true, leastF]
    constructor <;> split <;> split <;> omega) (fun t => by simp [spec_l10Spread_l0]) (s.Wins[0], s.Wins[0]), lgo_fold (fun (t : Int × Int) y => (if y < t.1 then y else t.1, if y > t.2 then y else t.2)) (fun _ _ _ => rfl)]
  have hf : ∀ (l : List Int) (a b : Int), l.foldl (fun (t : Int × Int) y => (if y < t.1 then y else t.1, if y > t.2 then y else t.2)) (a, b) = (minL a l, maxL b l) := by
    intro l
    induction l with
    | nil => intro a b; rfl
    | cons y ys ih => intro a b; simp only [List.foldl_cons]; rw [ih]; rfl
  simp only [Option.bind_some, hf]
  have key : ∀ (l : List Int) (h0 : 0 < l.length), maxL l[0] l - minL l[0] l = spreadL l := by
    intro l h0
    cases l with
    | nil => simp at h0
    | cons x xs =>
      simp only [List.getElem_cons_zero]
      have e1 : maxL x (x :: xs) = maxL x xs := by show maxL (if x > x then x else x) xs = _; simp
      have e2 : minL x (x :: xs) = minL x xs := by show minL (if x < x then x else x) xs = _; simp
      rw [e1, e2]; rfl
  rw [key s.Wins h0, w64 (by omega)]
def spreadLF (s : Shares) : Int × Bool := if goodS s then (spreadL s.Wins, true) else (0, false)
theorem iSpreadA {s : Shares} (hl : s.Wins.length ≤ 1048576) : impl_SpreadOf s = some (spreadLF s) ∧ spec_SpreadOf s = some (spreadLF s) := by
  unfold spreadLF
  cases h : goodS s
  · unfold impl_SpreadOf spec_SpreadOf
    rw [iGoodS hl, sGoodS hl, h]
    exact ⟨rfl, rfl⟩
  · rw [iSpread h]
    unfold spec_SpreadOf
    rw [sGoodS hl, h]
    simp only [Option.bind_some, Bool.not_true, cond_false, sSpread h]
    exact ⟨rfl, rfl⟩
theorem sGrowA {s : Shares} (hl : s.Wins.length ≤ 1048576) : spec_GrowAll s = some (chg s (growS s)) := by
  unfold spec_GrowAll chg sTell spec_l10Tell
  rw [sGoodS hl, sGrow hl]
  cases goodS s
  · rfl
  · simp only [Option.bind_some, Bool.not_true, cond_false]
    rw [sGoodS (by simpa [growS] using hl)]
    cases goodS (growS s) <;> rfl
theorem sHalveA {s : Shares} (hl : s.Wins.length ≤ 1048576) : spec_HalveAll s = some (chg s (halveS s)) := by
  unfold spec_HalveAll chg sTell spec_l10Tell
  rw [sGoodS hl, sHalve hl]
  cases goodS s
  · rfl
  · simp only [Option.bind_some, Bool.not_true, cond_false]
    rw [sGoodS (by simpa [halveS] using hl)]
    cases goodS (halveS s) <;> rfl
theorem chg_len {s x : Shares} (h : x.Wins.length ≤ 5) : (chg s x).1.Wins.length ≤ 5 := by
  unfold chg sTell
  split
  · split
    · exact h
    · simp
  · simp
theorem drawGrow {l : List Int} (hl : l.length ≤ 1048576) (hb : ∀ x ∈ l, 0 ≤ x ∧ x ≤ 255) : Tot (spec_DrawGrowAll l) fun r => r.Wins.length ≤ 5 := by
  unfold spec_DrawGrowAll spec_DrawGoodShares
  have h := cur0 hl hb
  refine Tot.bind (Tot.bind ?_)
  refine (shares_t h (by omega)).use ?_
  rintro ⟨s, c⟩ ⟨h1, _⟩
  exact .ret (.ret h1)
theorem drawFairer {l : List Int} (hl : l.length ≤ 1048576) (hb : ∀ x ∈ l, 0 ≤ x ∧ x ≤ 255) : Tot (spec_DrawIsFairer l) fun r => r.1.Wins.length ≤ 5 ∧ r.2.Wins.length ≤ 5 := by
  unfold spec_DrawIsFairer
  have h := cur0 hl hb
  refine Tot.then (shares_t (by assumption) (by omega)) ?_
  rintro ⟨s, c_s⟩ ⟨s_p, s_c⟩
  dsimp only at s_p s_c ⊢
  rw [sGrowA (by omega)]
  have hg : (chg s (growS s)).1.Wins.length ≤ 5 := chg_len (by simpa [growS] using s_p)
  simp only [Option.bind_some]
  refine Tot.then (P := fun r => Cur ⟨r.2.1, r.2.2.1, r.2.2.2⟩ 200) ?_ ?_
  · refine Tot.cnd (fun hc => ?_) (fun hc => ?_)
    · refine Tot.then (one_t (by assumption) (by omega)) ?_
      rintro ⟨y, c_y⟩ y_c
      dsimp only at y_c ⊢
      exact .ret (y_c.mono (by omega))
    · exact .ret (s_c.mono (by omega))
  · rintro ⟨t, co, a, se⟩ hc0
    dsimp only at hc0 ⊢
    refine Tot.cnd (fun hc => ?_) (fun hc => ?_)
    · exact .ret ⟨hg, s_p⟩
    · refine Tot.then (shares_t (by assumption) (by omega)) ?_
      rintro ⟨u, c_u⟩ ⟨u_p, u_c⟩
      dsimp only at u_p u_c ⊢
      exact .ret ⟨s_p, u_p⟩
theorem grow_sums : ∀ (l : List Int), sumL (l.map (· + 1)) = sumL l + l.length ∧ sqL (l.map (· + 1)) = sqL l + 2 * sumL l + l.length
  | [] => by simp [sumL, sqL]
  | x :: xs => by
    obtain ⟨h1, h2⟩ := grow_sums xs
    unfold sqL at h2 ⊢
    simp only [List.map_cons, sumL, List.length_cons] at h1 h2 ⊢
    rw [h1, h2, show ((xs.length + 1 : Nat) : Int) = (xs.length : Int) + 1 by omega]
    constructor
    · omega
    · grind
theorem pureShares (a b : List Int) (ha : a.length < 2 ^ 47) (hb : b.length < 2 ^ 47) (ka : ∀ x ∈ a, 0 ≤ x ∧ x ≤ 255) (kb : ∀ x ∈ b, 0 ≤ x ∧ x ≤ 255) : laws_FnShares a b = some true := by
  unfold laws_FnShares
  rw [w64 (by omega)]
  by_cases h : (1048576 : Int) < (a.length : Int) + (b.length : Int)
  · rw [dec_t h]; rfl
  rw [dec_f h]
  simp only [cond_false]
  obtain ⟨s, e1, n1⟩ := drawGrow (l := a) (by omega) ka
  obtain ⟨⟨u, v⟩, e2, n2, n3⟩ := drawFairer (l := b) (by omega) kb
  dsimp only at n2 n3
  simp only [e1, e2, Option.bind_some]
  have l1 : (chg s (growS s)).1.Wins.length ≤ 5 := chg_len (by simpa [growS] using n1)
  have l2 : (chg s (halveS s)).1.Wins.length ≤ 5 := chg_len (by simpa [halveS] using n1)
  rw [iGrow (by omega), sGrowA (by omega), iFair (by omega), sFair (by omega), (iSpreadA (s := s) (by omega)).1, (iSpreadA (s := s) (by omega)).2, iHalve (by omega), sHalveA (by omega), iGoodS (by omega), (iFairer (a := u) (b := v) (by omega) (by omega)).1, (iFairer (a := u) (b := v) (by omega) (by omega)).2]
  simp only [Option.bind_some, beq_self_eq_true, Bool.not_true, cond_false, bne_self_eq_false]
  rw [sameSh (s := (chg s (growS s)).1) (by omega)]
  simp only [Option.bind_some, Bool.not_true, cond_false]
  rw [sameSh (s := (chg s (halveS s)).1) (by omega)]
  have e3 : (fairLF s).2.2 = goodS s := by unfold fairLF; cases goodS s <;> rfl
  rw [e3]
  simp only [Option.bind_some, beq_self_eq_true, Bool.not_true, cond_false, cond_true]
  cases hg : goodS s
  · have c1 : chg s (growS s) = (⟨[], 0⟩, false) := by unfold chg; rw [hg]; rfl
    have c2 : chg s (halveS s) = (⟨[], 0⟩, false) := by unfold chg; rw [hg]; rfl
    rw [c1, c2]
    rfl
  · have g := goodS_iff.1 hg
    have hne : s.Wins ≠ [] := by intro e; rw [e] at g; simp at g
    have hsi := spread_in hg
    have c2 : chg s (halveS s) = (halveS s, true) := by unfold chg sTell; rw [hg, good_halve hg]; rfl
    have c3 : spreadLF s = (spreadL s.Wins, true) := by unfold spreadLF; rw [hg]; rfl
    have c4 : fairLF s = (sumL s.Wins * sumL s.Wins, s.Wins.length * sqL s.Wins, true) := by unfold fairLF; rw [hg]; rfl
    have hgap : 0 ≤ (s.Wins.length : Int) * sqL s.Wins - sumL s.Wins * sumL s.Wins := gap_nn s.Wins
    have hz : (spreadL s.Wins == 0) = (sumL s.Wins * sumL s.Wins == (s.Wins.length : Int) * sqL s.Wins) := by
      rw [Bool.eq_iff_iff]
      simp only [beq_iff_eq]
      cases hw : s.Wins with
      | nil => exact absurd hw hne
      | cons x xs =>
        rw [spread_zero, ← gap_zero]
        unfold gap
        omega
    rw [c2, c3, c4]
    simp only [cond_true]
    rw [dec_f (by omega), hz]
    simp only [cond_false, beq_self_eq_true, Bool.not_true, Option.bind_some]
    -- half
    have hmH : (halveS s).Wins = s.Wins.map halveI := List.map_congr_left fun x hx => halveW_in (g.2.1 x hx)
    obtain ⟨lo, hi, q1, q2, q3⟩ := spread_map (h := halveI) (fun a b hab => by unfold halveI; split <;> split <;> omega) hne
    have c5 : spreadLF (halveS s) = (spreadL (halveS s).Wins, true) := by unfold spreadLF; rw [good_halve hg]; rfl
    have hhalf : ¬ (spreadL s.Wins + 1) / 2 < spreadL (halveS s).Wins := by
      rw [hmH, q3]
      unfold halveI
      split <;> split <;> omega
    have hH : (bif true then (impl_SpreadOf (halveS s)).bind fun x => (bif !x.2 then some true else some (decide (IntKind.i64.wrap ((IntKind.i64.wrap (spreadL s.Wins + 1)).tdiv 2) < x.1))).bind fun x108 => bif x108 then some (LR.done false) else some (LR.next ()) else some (LR.next ()) : Option (LR Unit Bool)) = some (LR.next ()) := by
      rw [(iSpreadA (by simp [halveS]; omega)).1, c5, w64 (x := spreadL s.Wins + 1) (by omega), Int.tdiv_eq_ediv_of_nonneg (by omega), w64 (by omega)]
      simp only [cond_true, Option.bind_some, Bool.not_true, cond_false]
      rw [dec_f hhalf]; rfl
    cases hgg : goodS (growS s)
    · have c1 : chg s (growS s) = (⟨[], 0⟩, false) := by unfold chg sTell; rw [hg, hgg]; rfl
      rw [c1]
      simp only [cond_false, Option.bind_some]
      refine (congrArg (fun z => Option.bind z _) hH).trans ?_
      rfl
    · have c1 : chg s (growS s) = (growS s, true) := by unfold chg sTell; rw [hg, hgg]; rfl
      have hmG : (growS s).Wins = s.Wins.map (· + 1) := List.map_congr_left fun x hx => growW_in (g.2.1 x hx)
      obtain ⟨lo', hi', r1, r2, r3⟩ := spread_map (h := (· + 1)) (fun a b hab => by omega) hne
      have c6 : spreadLF (growS s) = (spreadL s.Wins, true) := by
        unfold spreadLF
        rw [hgg, hmG, r3, r1]
        simp only [if_true, Prod.mk.injEq, and_true]
        omega
      have hlenG : (growS s).Wins.length = s.Wins.length := by simp [growS]
      obtain ⟨t1, t2⟩ := grow_sums s.Wins
      have hS := sums_in hg
      have hF : fairerLF s (growS s) = (false, true) := by
        unfold fairerLF
        rw [hg, hgg, hlenG, dec_t rfl, hmG, t1, t2]
        simp only [Bool.and_self, if_true, Prod.mk.injEq, and_true]
        refine dec_f ?_
        have hn : 0 ≤ (s.Wins.length : Int) := by omega
        generalize sumL s.Wins = S at hgap hS ⊢
        generalize sqL s.Wins = Q at hgap hS ⊢
        generalize (s.Wins.length : Int) = n at hgap hS hn ⊢
        have key : (S + n) * (S + n) * (n * Q) - S * S * (n * (Q + 2 * S + n)) = n * ((2 * S + n) * (n * Q - S * S)) := by grind
        have h1 : 0 ≤ n * ((2 * S + n) * (n * Q - S * S)) := Int.mul_nonneg hn (Int.mul_nonneg (by omega) hgap)
        omega
      rw [c1]
      simp only [cond_true]
      rw [(iFairer (a := s) (b := growS s) (by omega) (by omega)).1, (iSpreadA (s := growS s) (by omega)).1, hF, c6]
      simp only [Option.bind_some, Bool.not_true, cond_false, bne_self_eq_false]
      refine (congrArg (fun z => Option.bind z _) hH).trans ?_
      rfl
end Go.VxW
