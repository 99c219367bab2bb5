/-
  Heaps: the code's own steps are those of VpG; pushing, popping, making, removing, sorting.
-/
import Derived.Test.YtdgiianbihfkoaaVpG
open Go Go.VS
namespace Go.VxW

theorem nextB_impl (l : List Work) (k : Nat) : nextB l k = if 2 * k + 1 < l.length then (if kw l (if 2 * k + 2 < l.length ∧ kw l (2 * k + 2) < kw l (2 * k + 1) then 2 * k + 2 else 2 * k + 1) < kw l k then (if 2 * k + 2 < l.length ∧ kw l (2 * k + 2) < kw l (2 * k + 1) then 2 * k + 2 else 2 * k + 1) else k) else k := by
  unfold nextB
  dsimp only
  by_cases h1 : 2 * k + 1 < l.length
  · rw [if_pos h1]
    by_cases h3 : kw l (2 * k + 1) < kw l k
    · have hb : (if 2 * k + 1 < l.length ∧ kw l (2 * k + 1) < kw l k then 2 * k + 1 else k) = 2 * k + 1 := if_pos ⟨h1, h3⟩
      rw [hb]
      by_cases h2 : 2 * k + 2 < l.length ∧ kw l (2 * k + 2) < kw l (2 * k + 1)
      · rw [if_pos h2, if_pos (by omega)]
      · rw [if_neg h2, if_pos h3]
    · have hb : (if 2 * k + 1 < l.length ∧ kw l (2 * k + 1) < kw l k then 2 * k + 1 else k) = k := if_neg (fun h => h3 h.2)
      rw [hb]
      by_cases h2 : 2 * k + 2 < l.length ∧ kw l (2 * k + 2) < kw l (2 * k + 1)
      · rw [if_pos h2]
        by_cases h4 : kw l (2 * k + 2) < kw l k
        · rw [if_pos h4, if_pos ⟨h2.1, h4⟩]
        · rw [if_neg h4, if_neg (fun h => h4 h.2)]
      · rw [if_neg h2, if_neg h3]
        rw [if_neg (by omega)]
  · have hb : (if 2 * k + 1 < l.length ∧ kw l (2 * k + 1) < kw l k then 2 * k + 1 else k) = k := if_neg (fun h => h1 h.1)
    rw [if_neg h1, hb, if_neg (by omega)]
theorem cmp_kw {l : List Work} (hg : ∀ x ∈ l, goodW x) {i j : Nat} (hi : i < l.length) (hj : j < l.length) : impl_compareWork l[i] l[j] = some (cmpW l[i] l[j]) ∧ decide (cmpW l[i] l[j] < 0) = decide (kw l i < kw l j) ∧ spec_l3Less l[i] l[j] = some (decide (kw l i < kw l j)) := by
  have gi := hg _ (List.getElem_mem hi)
  have gj := hg _ (List.getElem_mem hj)
  refine ⟨iCmp gi gj, ?_, ?_⟩
  · rw [iLt gi gj, kw_at hi, kw_at hj]; rfl
  · rw [sLess gi gj, kw_at hi, kw_at hj]; rfl
theorem swap_good {l : List Work} (hg : ∀ x ∈ l, goodW x) {i j : Nat} (hi : i < l.length) (hj : j < l.length) : ∀ x ∈ swapL l i j, goodW x := fun x hx => hg x (swap_mem hi hj x hx)
theorem iDown_go : ∀ (f : Nat) (l : List Work) (k s : Nat), (∀ x ∈ l, goodW x) → l.length ≤ 40 → l.length ≤ k + f → k ≤ 100 → s + f ≤ 1000 →
    whl impl_down_l0 (l, (k : Int), (s : Int)) = some (((downF f l k s).2 : Int), (downF f l k s).1) := by
  intro f
  induction f with
  | zero =>
    intro l k s hg h40 hf hk hs
    rw [whl_eq]
    simp only [impl_down_l0]
    rw [w64 (x := 2 * (k : Int)) (by omega), w64 (x := 2 * (k : Int) + 1) (by omega), dec_f (by omega)]
    rfl
  | succ f ih =>
    intro l k s hg h40 hf hk hs
    rw [whl_eq]
    simp only [impl_down_l0, downF]
    rw [w64 (x := 2 * (k : Int)) (by omega), w64 (x := 2 * (k : Int) + 1) (by omega), w64 (x := 2 * (k : Int) + 1 + 1) (by omega)]
    by_cases h1 : 2 * k + 1 < l.length
    · have hkl : k < l.length := by omega
      rw [dec_t (by omega), show 2 * (k : Int) + 1 + 1 = ((2 * k + 2 : Nat) : Int) by omega, show 2 * (k : Int) + 1 = ((2 * k + 1 : Nat) : Int) by omega]
      have e23 : (bif decide (((2 * k + 2 : Nat) : Int) < l.length) then (idx l ((2 * k + 2 : Nat) : Int)).bind fun b28 => (idx l ((2 * k + 1 : Nat) : Int)).bind fun b30 => (impl_compareWork b28 b30).bind fun b32 => some (decide (b32 < 0)) else some false) = some (decide (2 * k + 2 < l.length ∧ kw l (2 * k + 2) < kw l (2 * k + 1))) := by
        by_cases h2 : 2 * k + 2 < l.length
        · rw [dec_t (p := ((2 * k + 2 : Nat) : Int) < l.length) (by omega), idx_lt h2, idx_lt h1]
          obtain ⟨c1, c2, _⟩ := cmp_kw hg h2 h1
          simp only [cond_true, Option.bind_some, c1, c2, Option.some.injEq]
          rw [decide_eq_decide]
          exact ⟨fun h => ⟨h2, h⟩, fun h => h.2⟩
        · rw [dec_f (p := ((2 * k + 2 : Nat) : Int) < l.length) (by omega), dec_f (by omega)]; rfl
      simp only [cond_true]
      rw [e23]
      have hn := nextB_impl l k
      rw [if_pos h1] at hn
      obtain ⟨m, hm⟩ : ∃ m, m = (if 2 * k + 2 < l.length ∧ kw l (2 * k + 2) < kw l (2 * k + 1) then 2 * k + 2 else 2 * k + 1) := ⟨_, rfl⟩
      rw [← hm] at hn
      have hml : m < l.length := by rw [hm]; split <;> omega
      have hmk : m ≠ k := by rw [hm]; split <;> omega
      have hmm : m ≤ 100 := by omega
      have e33 : (bif decide (2 * k + 2 < l.length ∧ kw l (2 * k + 2) < kw l (2 * k + 1)) then some ((2 * k + 2 : Nat) : Int) else some ((2 * k + 1 : Nat) : Int)) = some (m : Int) := by
        rw [hm]
        by_cases h : 2 * k + 2 < l.length ∧ kw l (2 * k + 2) < kw l (2 * k + 1)
        · rw [dec_t h, if_pos h]; rfl
        · rw [dec_f h, if_neg h]; rfl
      simp only [Option.bind_some]
      rw [e33]
      simp only [Option.bind_some]
      obtain ⟨c1, c2, _⟩ := cmp_kw hg hml hkl
      rw [idx_lt hml, idx_lt hkl]
      simp only [Option.bind_some, c1]
      by_cases h3 : kw l m < kw l k
      · rw [if_pos h3] at hn
        rw [dec_t h3] at c2
        simp only [decide_eq_true_eq] at c2
        rw [dec_f (by omega), hn, if_neg hmk]
        simp only [cond_false]
        rw [idx_lt (show m < (l.set (k : Int).toNat l[m]).length by simpa using hml)]
        simp only [Option.bind_some, Int.toNat_natCast]
        rw [w64 (by omega), show (s : Int) + 1 = ((s + 1 : Nat) : Int) by omega]
        have := ih (swapL l k m) m (s + 1) (swap_good hg hkl hml) (by rw [swap_len]; omega) (by rw [swap_len]; have := hm; split at this <;> omega) hmm (by omega)
        unfold swapL at this ⊢
        rw [getD_at hml, getD_at hkl] at this ⊢
        exact this
      · rw [if_neg h3] at hn
        rw [dec_f h3] at c2
        simp only [decide_eq_false_iff_not] at c2
        rw [dec_t (by omega), hn, if_pos rfl]
        rfl
    · rw [dec_f (by omega)]
      have hn := nextB_impl l k
      rw [if_neg h1] at hn
      rw [hn, if_pos rfl]
      rfl
theorem sNext {l : List Work} (hg : ∀ x ∈ l, goodW x) (h40 : l.length ≤ 40) {k : Nat} (hk : k < l.length) : whl (spec_l3Down_l0 l k) ((k : Int), 0) = some (nextB l k : Int) := by
  have step : ∀ (b i c : Nat), b < l.length → i < 2 → c = 2 * k + 1 + i → whl (spec_l3Down_l0 l k) ((b : Int), (i : Int)) = whl (spec_l3Down_l0 l k) (((if c < l.length ∧ kw l c < kw l b then c else b : Nat) : Int), ((i + 1 : Nat) : Int)) := by
    intro b i c hb hi hc
    rw [whl_eq]
    simp only [spec_l3Down_l0]
    rw [w64 (x := 2 * (k : Int)) (by omega), w64 (x := 2 * (k : Int) + 1) (by omega), w64 (x := 2 * (k : Int) + 2) (by omega)]
    have hl : i < ([2 * (k : Int) + 1, 2 * (k : Int) + 2] : List Int).length := by simpa using hi
    rw [dec_t (by simp <;> omega), idx_lt hl, w64 (x := (i : Int) + 1) (by omega)]
    have hcv : ([2 * (k : Int) + 1, 2 * (k : Int) + 2] : List Int)[i] = (c : Int) := by
      rcases (show i = 0 ∨ i = 1 by omega) with rfl | rfl
      · show 2 * (k : Int) + 1 = c; omega
      · show 2 * (k : Int) + 2 = c; omega
    rw [hcv]
    simp only [cond_true, Option.bind_some]
    rw [show ((i + 1 : Nat) : Int) = (i : Int) + 1 by omega]
    by_cases h1 : c < l.length
    · obtain ⟨_, _, c3⟩ := cmp_kw hg h1 hb
      rw [dec_t (by omega), idx_lt h1, idx_lt hb]
      simp only [cond_true, Option.bind_some, c3]
      by_cases h2 : kw l c < kw l b
      · rw [dec_t h2, if_pos ⟨h1, h2⟩]; rfl
      · rw [dec_f h2, if_neg (fun h => h2 h.2)]; rfl
    · rw [dec_f (by omega), if_neg (fun h => h1 h.1)]; rfl
  have h0 := step k 0 (2 * k + 1) hk (by omega) (by omega)
  rw [show ((0 : Nat) : Int) = 0 from rfl] at h0
  rw [h0]
  have hb1 : (if 2 * k + 1 < l.length ∧ kw l (2 * k + 1) < kw l k then 2 * k + 1 else k) < l.length := by split <;> omega
  rw [step _ 1 (2 * k + 2) hb1 (by omega) (by omega), whl_eq]
  simp only [spec_l3Down_l0]
  rw [dec_f (by simp)]
  simp only [cond_false, Option.bind_some]
  rfl
theorem sDown_go : ∀ (f : Nat) (l : List Work) (k s : Nat), (∀ x ∈ l, goodW x) → l.length ≤ 40 → l.length ≤ k + f → k < l.length → s + f ≤ 1000 →
    whl spec_l3Down_l1 (l, (k : Int), (s : Int)) = some (.done (((downF f l k s).2 : Int), (downF f l k s).1)) := by
  intro f
  induction f with
  | zero => intro l k s hg h40 hf hk hs; omega
  | succ f ih =>
    intro l k s hg h40 hf hk hs
    rw [whl_eq]
    simp only [spec_l3Down_l1, downF]
    rw [sNext hg h40 hk]
    simp only [Option.bind_some]
    have hn := nextB_ok l k
    by_cases hc : nextB l k = k
    · rw [show (((nextB l k : Nat) : Int) == (k : Int)) = true by simp [hc], if_pos hc]; rfl
    · have hml : nextB l k < l.length := by rcases hn with h | h; exact absurd h.1 hc; exact h.2.1
      rw [show (((nextB l k : Nat) : Int) == (k : Int)) = false from beq_eq_false_iff_ne.2 (by omega), if_neg hc, idx_lt hk, idx_lt hml]
      simp only [cond_false, Option.bind_some, Int.toNat_natCast]
      rw [idx_lt (show nextB l k < (l.set k l[nextB l k]).length by simpa using hml)]
      simp only [Option.bind_some]
      rw [w64 (by omega), show (s : Int) + 1 = ((s + 1 : Nat) : Int) by omega]
      have := ih (swapL l k (nextB l k)) (nextB l k) (s + 1) (swap_good hg hk hml) (by rw [swap_len]; omega) (by rw [swap_len]; omega) (by rw [swap_len]; exact hml) (by omega)
      unfold swapL at this ⊢
      rw [getD_at hml, getD_at hk] at this ⊢
      exact this
def dnF (l : List Work) (k : Nat) : List Work × Nat := downF l.length l k 0
theorem iDown {l : List Work} {k : Nat} (hg : ∀ x ∈ l, goodW x) (h40 : l.length ≤ 40) (hk : k ≤ 100) : impl_down l k = some (((dnF l k).2 : Int), (dnF l k).1) := by
  unfold impl_down dnF
  have := iDown_go l.length l k 0 hg h40 (by omega) hk (by omega)
  rw [show ((0 : Nat) : Int) = 0 from rfl] at this
  rw [this]; rfl
theorem sDown {l : List Work} {k : Nat} (hg : ∀ x ∈ l, goodW x) (h40 : l.length ≤ 40) (hk : k < l.length) : spec_l3Down l k = some (((dnF l k).2 : Int), (dnF l k).1) := by
  unfold spec_l3Down dnF
  have := sDown_go l.length l k 0 hg h40 (by omega) hk (by omega)
  rw [show ((0 : Nat) : Int) = 0 from rfl] at this
  rw [this]; rfl
theorem par_w {k : Nat} (h0 : 0 < k) (hk : k ≤ 100) : IntKind.i64.wrap (Int.tdiv (IntKind.i64.wrap ((k : Int) - 1)) 2) = (((k - 1) / 2 : Nat) : Int) := by
  rw [w64 (x := (k : Int) - 1) (by omega), Int.tdiv_eq_ediv_of_nonneg (by omega), w64 (by omega)]; omega
theorem iUp_go : ∀ (f : Nat) (l : List Work) (k s : Nat), (∀ x ∈ l, goodW x) → l.length ≤ 50 → k < l.length → k < f → s + f ≤ 1000 →
    whl impl_up_l0 (l, (k : Int), (s : Int)) = some (((siftF f l k s).2.2 : Int), (siftF f l k s).1) ∧ whl spec_l3Up_l0 (l, (k : Int)) = some (((siftF f l k s).2.1 : Int), (siftF f l k s).1) := by
  intro f
  induction f with
  | zero => intro l k s hg h40 hk hf hs; omega
  | succ f ih =>
    intro l k s hg h40 hk hf hs
    simp only [siftF]
    by_cases h0 : 0 < k
    · obtain ⟨p, hp⟩ : ∃ p, p = (k - 1) / 2 := ⟨_, rfl⟩
      have hpl : p < l.length := by omega
      have hw := par_w h0 (by omega)
      rw [← hp] at hw ⊢
      obtain ⟨c1, c2, c3⟩ := cmp_kw hg hk hpl
      by_cases hc : kw l k < kw l p
      · rw [if_pos ⟨h0, hc⟩]
        rw [dec_t hc] at c2 c3
        obtain ⟨i1, i2⟩ := ih (swapL l k p) p (s + 1) (swap_good hg hk hpl) (by rw [swap_len]; exact h40) (by rw [swap_len]; exact hpl) (by omega) (by omega)
        have hsw : (l.set k l[p]).set p l[k] = swapL l k p := by unfold swapL; rw [getD_at hpl, getD_at hk]
        constructor
        · rw [whl_eq]
          simp only [impl_up_l0, hw]
          rw [dec_t (by omega), idx_lt hk, idx_lt hpl]
          simp only [cond_true, Option.bind_some, c1, c2, Int.toNat_natCast]
          rw [idx_lt (show p < (l.set k l[p]).length by simpa using hpl), hsw, w64 (by omega), show (s : Int) + 1 = ((s + 1 : Nat) : Int) by omega]
          exact i1
        · rw [whl_eq]
          simp only [spec_l3Up_l0, hw]
          rw [dec_t (by omega), idx_lt hk, idx_lt hpl]
          simp only [cond_true, Option.bind_some, c3, Int.toNat_natCast]
          rw [idx_lt (show p < (l.set k l[p]).length by simpa using hpl), hsw]
          exact i2
      · rw [if_neg (fun h => hc h.2)]
        rw [dec_f hc] at c2 c3
        constructor
        · rw [whl_eq]
          simp only [impl_up_l0, hw]
          rw [dec_t (by omega), idx_lt hk, idx_lt hpl]
          simp only [cond_true, Option.bind_some, c1, c2]
          rfl
        · rw [whl_eq]
          simp only [spec_l3Up_l0, hw]
          rw [dec_t (by omega), idx_lt hk, idx_lt hpl]
          simp only [cond_true, Option.bind_some, c3]
          rfl
    · rw [if_neg (fun h => h0 h.1)]
      constructor
      · rw [whl_eq]
        simp only [impl_up_l0]
        rw [dec_f (by omega)]; rfl
      · rw [whl_eq]
        simp only [spec_l3Up_l0]
        rw [dec_f (by omega)]; rfl
def siF (l : List Work) (k : Nat) : List Work × Nat × Nat := siftF (k + 1) l k 0
theorem iUp {l : List Work} {k : Nat} (hg : ∀ x ∈ l, goodW x) (h40 : l.length ≤ 50) (hk : k < l.length) : impl_up l k = some (((siF l k).2.2 : Int), (siF l k).1) ∧ spec_l3Up l k = some (((siF l k).2.1 : Int), (siF l k).1) := by
  unfold impl_up spec_l3Up siF
  have := iUp_go (k + 1) l k 0 hg h40 hk (by omega) (by omega)
  rw [show ((0 : Nat) : Int) = 0 from rfl] at this
  rw [this.1, this.2]
  exact ⟨rfl, rfl⟩

/-! is it a heap -/
def isH (l : List Work) : Bool := (List.range l.length).all fun i => decide (i = 0) || decide (kw l ((i - 1) / 2) ≤ kw l i)
theorem isH_iff {l : List Work} : isH l = true ↔ heapF l 0 := by
  unfold isH heapF
  simp only [List.all_eq_true, List.mem_range, Bool.or_eq_true, decide_eq_true_eq]
  constructor
  · intro h i h1 h2 _
    rcases h i h2 with h | h
    · omega
    · exact h
  · intro h i hi
    rcases Nat.eq_zero_or_pos i with h0 | h0
    · exact .inl h0
    · exact .inr (h i h0 hi (by omega))
theorem is_go {l : List Work} (hg : ∀ x ∈ l, goodW x) (h40 : l.length ≤ 40) : ∀ (n k : Nat), k + n = l.length → 1 ≤ k →
    whl (impl_isHeap_l0 l) (k : Int) = some (if (List.range' k n).all (fun i => decide (kw l ((i - 1) / 2) ≤ kw l i)) = true then .next () else .done false) ∧
    whl (spec_l3Is_l0 l) (k : Int) = some (if (List.range' k n).all (fun i => decide (kw l ((i - 1) / 2) ≤ kw l i)) = true then .next () else .done false) := by
  intro n
  induction n with
  | zero =>
    intro k h1 h2
    constructor
    · rw [whl_eq]
      simp only [impl_isHeap_l0]
      rw [dec_f (by omega)]; rfl
    · rw [whl_eq]
      simp only [spec_l3Is_l0]
      rw [dec_f (by omega)]; rfl
  | succ n ih =>
    intro k h1 h2
    have hk : k < l.length := by omega
    have hp : (k - 1) / 2 < l.length := by omega
    have hw := par_w (k := k) (by omega) (by omega)
    obtain ⟨c1, c2, c3⟩ := cmp_kw hg hk hp
    obtain ⟨i1, i2⟩ := ih (k + 1) (by omega) (by omega)
    rw [show ((k + 1 : Nat) : Int) = (k : Int) + 1 by omega] at i1 i2
    have hr : List.range' k (n + 1) = k :: List.range' (k + 1) n := by simp [List.range'_succ]
    by_cases hc : kw l k < kw l ((k - 1) / 2)
    · rw [dec_t hc] at c2 c3
      have : (List.range' k (n + 1)).all (fun i => decide (kw l ((i - 1) / 2) ≤ kw l i)) = false := by
        rw [hr, List.all_cons, dec_f (by omega)]; rfl
      rw [this]
      constructor
      · rw [whl_eq]
        simp only [impl_isHeap_l0, hw]
        rw [dec_t (by omega), idx_lt hk, idx_lt hp]
        simp only [cond_true, Option.bind_some, c1, c2]
        rfl
      · rw [whl_eq]
        simp only [spec_l3Is_l0, hw]
        rw [dec_t (by omega), idx_lt hk, idx_lt hp]
        simp only [cond_true, Option.bind_some, c3]
        rfl
    · rw [dec_f hc] at c2 c3
      have : (List.range' k (n + 1)).all (fun i => decide (kw l ((i - 1) / 2) ≤ kw l i)) = (List.range' (k + 1) n).all (fun i => decide (kw l ((i - 1) / 2) ≤ kw l i)) := by
        rw [hr, List.all_cons, dec_t (by omega), Bool.true_and]
      rw [this]
      constructor
      · rw [whl_eq]
        simp only [impl_isHeap_l0, hw]
        rw [dec_t (by omega), idx_lt hk, idx_lt hp]
        simp only [cond_true, Option.bind_some, c1, c2, cond_false]
        rw [w64 (by omega)]
        exact i1
      · rw [whl_eq]
        simp only [spec_l3Is_l0, hw]
        rw [dec_t (by omega), idx_lt hk, idx_lt hp]
        simp only [cond_true, Option.bind_some, c3, cond_false]
        rw [w64 (by omega)]
        exact i2
theorem isH_tail {l : List Work} (h : 1 ≤ l.length) : (List.range' 1 (l.length - 1)).all (fun i => decide (kw l ((i - 1) / 2) ≤ kw l i)) = isH l := by
  unfold isH
  obtain ⟨n, hn⟩ : ∃ n, l.length = n + 1 := ⟨l.length - 1, by omega⟩
  rw [hn, List.range_eq_range', List.range'_succ, List.all_cons, Bool.eq_iff_iff]
  simp only [Nat.add_sub_cancel, decide_true, Bool.true_or, Bool.true_and, List.all_eq_true, List.mem_range', decide_eq_true_eq, Bool.or_eq_true]
  constructor
  · rintro h x ⟨i, hi, rfl⟩; exact .inr (h _ ⟨i, hi, by omega⟩)
  · rintro h x ⟨i, hi, rfl⟩
    rcases h _ ⟨i, hi, rfl⟩ with h | h
    · omega
    · exact h
theorem iIs {l : List Work} (hl : l.length ≤ 1048576) : impl_isHeap l = some (wksB l && isH l) := by
  unfold impl_isHeap
  rw [iWks hl]
  cases h : wksB l
  · rfl
  · obtain ⟨h40, hg⟩ := wksB_iff h
    simp only [Option.bind_some, Bool.not_true, cond_false, Bool.true_and]
    cases l with
    | nil => rw [whl_eq]; rfl
    | cons x xs =>
      have := (is_go hg h40 ((x :: xs).length - 1) 1 (by simp <;> omega) (by omega)).1
      rw [isH_tail (by simp), show ((1 : Nat) : Int) = 1 from rfl] at this
      rw [this]
      cases isH (x :: xs) <;> rfl
theorem sIs {l : List Work} (h : wksB l = true) : spec_l3Is l = some (isH l) := by
  obtain ⟨h40, hg⟩ := wksB_iff h
  unfold spec_l3Is
  cases l with
  | nil => rw [whl_eq]; rfl
  | cons x xs =>
    have := (is_go hg h40 ((x :: xs).length - 1) 1 (by simp <;> omega) (by omega)).2
    rw [isH_tail (by simp), show ((1 : Nat) : Int) = 1 from rfl] at this
    rw [this]
    cases isH (x :: xs) <;> rfl
theorem iIsA {l : List Work} (hl : l.length ≤ 1048576) : impl_IsHeap l = some (wksB l && isH l, wksB l) ∧ spec_IsHeap l = some (wksB l && isH l, wksB l) := by
  unfold impl_IsHeap spec_IsHeap
  rw [iWks hl, iIs hl, sWks hl]
  cases h : wksB l
  · exact ⟨rfl, rfl⟩
  · rw [sIs h]; exact ⟨rfl, rfl⟩
end Go.VxW
