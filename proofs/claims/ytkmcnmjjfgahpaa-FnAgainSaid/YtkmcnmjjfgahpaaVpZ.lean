/-
  FnAgain, second part: when a task is first done; the law.
-/
import Derived.Test.YtkmcnmjjfgahpaaVpY
open Go Go.VS
namespace Go.VxW

def ind (b : Bool) : Int := if b then 1 else 0
/-- How many slots a task had, how much of it has come. -/
def cn (l : List Again) (i : Nat) : Nat → Int
  | 0 => 0
  | t + 1 => cn l i t + ind (decide (ow l t = i))
def needA (l : List Again) (i : Nat) : Int := (l.getD i ⟨1, 1⟩).Need
def everyA (l : List Again) (i : Nat) : Int := (l.getD i ⟨1, 1⟩).Every
def come (l : List Again) (i t : Nat) : Int := if (t : Int) % everyA l i = 0 then needA l i else 0
def arv (l : List Again) (i : Nat) : Nat → Int
  | 0 => 0
  | t + 1 => arv l i t + come l i t
def lv (l : List Again) (i t : Nat) : Int := (lf l t).getD i 0
theorem need_in {l : List Again} (hT : ∀ x ∈ l, goodT x) (i : Nat) : (1 ≤ needA l i ∧ needA l i ≤ 10) ∧ 1 ≤ everyA l i ∧ everyA l i ≤ 40 := by
  unfold needA everyA
  rw [List.getD_eq_getElem?_getD]
  by_cases h : i < l.length
  · rw [List.getElem?_eq_getElem h]
    have := hT _ (List.getElem_mem h)
    unfold goodT at this
    simp only [Option.getD_some]; omega
  · rw [List.getElem?_eq_none (by omega)]
    simp
theorem arrL_get (t : Int) : ∀ (l : List Again) (ys : List Int) (i : Nat), l.length = ys.length → i < l.length → (arrL t l ys)[i]? = some (ys.getD i 0 + if t % (l.getD i ⟨1, 1⟩).Every = 0 then (l.getD i ⟨1, 1⟩).Need else 0)
  | [], _, _, _, h => by simp at h
  | x :: xs, [], _, h, _ => by simp at h
  | x :: xs, y :: ys, 0, _, _ => by
    simp only [arrL, List.getElem?_cons_zero, List.getD_cons_zero, Option.some.injEq]
    split <;> simp
  | x :: xs, y :: ys, i + 1, h, hi => by
    simp only [arrL, List.getElem?_cons_succ, List.getD_cons_succ]
    exact arrL_get t xs ys i (by simpa using h) (by simpa using hi)
theorem lv_step {l : List Again} {i t : Nat} (hi : i < l.length) : lv l i (t + 1) = lv l i t + come l i t - ind (decide (ow l t = i)) := by
  have hg := arrL_get t l (lf l t) i (lf_len l t).symm hi
  unfold lv come ind needA everyA
  simp only [lf, nextL]
  by_cases h : 0 ≤ ownO t l (lf l t)
  · rw [if_pos h]
    obtain ⟨o1, o2⟩ := own_at h
    rw [List.getD_eq_getElem?_getD, List.getElem?_set]
    by_cases he : (ownO t l (lf l t)).toNat = i
    · have e : ow l t = i := by unfold ow; omega
      rw [if_pos he, if_pos o1, dec_t e]
      subst he
      rw [List.getD_eq_getElem?_getD, hg]
      simp
    · have e : ¬ ow l t = i := by unfold ow; omega
      rw [if_neg he, dec_f e, hg]
      simp
  · have e : ¬ ow l t = i := by unfold ow; omega
    rw [if_neg h, List.getD_eq_getElem?_getD, hg, dec_f e]
    simp
theorem lv_eq {l : List Again} {i : Nat} (hi : i < l.length) (t : Nat) : lv l i t = arv l i t - cn l i t := by
  induction t with
  | zero =>
    unfold lv
    simp only [lf, arv, cn]
    rw [List.getD_eq_getElem?_getD, List.getElem?_replicate, if_pos hi]; rfl
  | succ t ih => rw [lv_step hi, ih]; simp only [arv, cn]; omega
theorem lv_ge {l : List Again} (hT : ∀ x ∈ l, goodT x) {i : Nat} (hi : i < l.length) (t : Nat) : 0 ≤ lv l i t := by
  have hl : i < (lf l t).length := by rw [lf_len]; exact hi
  unfold lv
  rw [List.getD_eq_getElem?_getD, List.getElem?_eq_getElem hl]
  exact (lf_in hT t _ (List.getElem_mem hl)).1
/-- The first that has something goes. -/
theorem ow_le {l : List Again} {i t : Nat} (hi : i < l.length) (h : 0 < lv l i t + come l i t) : 0 ≤ ow l t ∧ ow l t ≤ i := by
  have hg := arrL_get t l (lf l t) i (lf_len l t).symm hi
  have hp : posB (lv l i t + come l i t) = true := dec_t h
  have hany : (arrL t l (lf l t)).any posB = true := List.any_eq_true.2 ⟨_, List.mem_of_getElem? hg, hp⟩
  have h0 : 0 ≤ ow l t := by
    have := ixF_any posB (arrL t l (lf l t))
    rw [hany] at this
    exact of_decide_eq_true this
  refine ⟨h0, ?_⟩
  obtain ⟨x, _, _, h3⟩ := ixF_get posB (arrL t l (lf l t)) h0
  rcases Int.lt_or_le i (ow l t) with h | h
  · have h9 : posB (lv l i t + come l i t) = false := h3 i _ (by unfold ow ownO at h; omega) hg
    rw [hp] at h9
    simp at h9
  · exact h
theorem ow_first {l : List Again} {i k t : Nat} (hi : i < k) (hk : k < l.length) (h : ow l t = k) : lv l i t + come l i t ≤ 0 := by
  rcases Int.lt_or_le 0 (lv l i t + come l i t) with hc | hc
  · have := ow_le (by omega) hc
    omega
  · exact hc
theorem ow_lt (l : List Again) (t : Nat) : ow l t < l.length := by
  have := (ixF_ge posB (arrL t l (lf l t))).2
  rw [arrL_len, lf_len] at this
  exact this

/-! sums over the first tasks -/
def sumTo : Nat → (Nat → Int) → Int
  | 0, _ => 0
  | k + 1, f => sumTo k f + f k
theorem sumTo_le : ∀ (k : Nat) (f g : Nat → Int), (∀ i, i < k → f i ≤ g i) → sumTo k f ≤ sumTo k g
  | 0, _, _, _ => by simp [sumTo]
  | k + 1, f, g, h => by
    have := sumTo_le k f g (fun i hi => h i (by omega))
    have := h k (by omega)
    simp only [sumTo]; omega
theorem sumTo_add : ∀ (k : Nat) (f g : Nat → Int), sumTo k (fun i => f i + g i) = sumTo k f + sumTo k g
  | 0, _, _ => by simp [sumTo]
  | k + 1, f, g => by simp only [sumTo, sumTo_add k f g]; omega
theorem sumTo_congr : ∀ (k : Nat) (f g : Nat → Int), (∀ i, i < k → f i = g i) → sumTo k f = sumTo k g
  | 0, _, _, _ => rfl
  | k + 1, f, g, h => by simp only [sumTo, sumTo_congr k f g (fun i hi => h i (by omega)), h k (by omega)]
theorem sumTo_ind : ∀ (k : Nat) (o : Int), 0 ≤ o → o < k → sumTo k (fun i => ind (decide (o = i))) = 1
  | 0, o, h0, h1 => by omega
  | k + 1, o, h0, h1 => by
    simp only [sumTo]
    by_cases h : o = k
    · have : sumTo k (fun i => ind (decide (o = i))) = sumTo k (fun _ => 0) := sumTo_congr _ _ _ (fun i hi => by
        rw [dec_f (by omega)]; rfl)
      have hz : ∀ k, sumTo k (fun _ => 0) = 0 := by
        intro k
        induction k with
        | zero => rfl
        | succ k ih => simp only [sumTo, ih]; rfl
      rw [this, hz, dec_t h]; rfl
    · rw [sumTo_ind k o h0 (by omega), dec_f h]; rfl

/-! what comes till a time -/
def ceilE (n e r : Int) : Int := n * ((r + e - 1) / e)
theorem ceil_step {e : Int} (he : 1 ≤ e) (t : Int) (_ht : 0 ≤ t) : (t + 1 + e - 1) / e = (t + e - 1) / e + if t % e = 0 then 1 else 0 := by
  have hq := Int.emod_add_mul_ediv t e
  have h0 := Int.emod_nonneg t (show e ≠ 0 by omega)
  have h1 := Int.emod_lt_of_pos t (show 0 < e by omega)
  generalize t % e = r at hq h0 h1
  generalize t / e = q at hq
  have ea : (t + 1 + e - 1) / e = r / e + q + 1 := by
    rw [← hq, show r + e * q + 1 + e - 1 = r + e * (q + 1) by rw [Int.mul_add]; omega, Int.add_mul_ediv_left _ _ (by omega)]; omega
  have hr : r / e = 0 := Int.ediv_eq_zero_of_lt h0 h1
  rw [ea, hr]
  by_cases h : r = 0
  · subst h
    rw [if_pos rfl, ← hq, show 0 + e * q + e - 1 = (e - 1) + e * q by omega, Int.add_mul_ediv_left _ _ (by omega), Int.ediv_eq_zero_of_lt (by omega) (by omega)]
  · rw [if_neg h, ← hq, show r + e * q + e - 1 = (r - 1) + e * (q + 1) by rw [Int.mul_add]; omega, Int.add_mul_ediv_left _ _ (by omega), Int.ediv_eq_zero_of_lt (by omega) (by omega)]
    omega
theorem arv_eq {l : List Again} (hT : ∀ x ∈ l, goodT x) (i t : Nat) : arv l i t = ceilE (needA l i) (everyA l i) t := by
  have hn := need_in hT i
  induction t with
  | zero =>
    unfold ceilE
    simp only [arv]
    rw [Int.ediv_eq_zero_of_lt (by omega) (by omega)]; simp
  | succ t ih =>
    simp only [arv]
    rw [ih]
    unfold ceilE come
    rw [show ((t + 1 : Nat) : Int) = (t : Int) + 1 by omega, ceil_step hn.2.1 t (by omega), Int.mul_add]
    split <;> simp
theorem ceil_mono {n e a b : Int} (hn : 0 ≤ n) (he : 1 ≤ e) (h : a ≤ b) : ceilE n e a ≤ ceilE n e b :=
  Int.mul_le_mul_of_nonneg_left (Int.ediv_le_ediv (by omega) (by omega)) hn
theorem ceil_in {n e a : Int} (hn : 1 ≤ n ∧ n ≤ 10) (he : 1 ≤ e ∧ e ≤ 40) (h : 0 ≤ a ∧ a ≤ 1000) : (0 ≤ (a + e - 1) / e ∧ (a + e - 1) / e ≤ 2000) ∧ 0 ≤ ceilE n e a ∧ ceilE n e a ≤ 20000 := by
  have h1 : 0 ≤ (a + e - 1) / e := Int.ediv_nonneg (by omega) (by omega)
  have h2 : (a + e - 1) / e ≤ a + e - 1 := Int.ediv_le_self _ (by omega)
  refine ⟨by omega, Int.mul_nonneg (by omega) h1, ?_⟩
  unfold ceilE
  exact Int.le_trans (Int.mul_le_mul hn.2 (show (a + e - 1) / e ≤ 2000 by omega) h1 (by omega)) (by omega)
def gF (l : List Again) (k : Nat) (r : Int) : Int := needA l k + sumTo k (fun i => ceilE (needA l i) (everyA l i) r)
theorem gF_mono {l : List Again} (hT : ∀ x ∈ l, goodT x) {k : Nat} {a b : Int} (h : a ≤ b) : gF l k a ≤ gF l k b := by
  unfold gF
  have := sumTo_le k (fun i => ceilE (needA l i) (everyA l i) a) (fun i => ceilE (needA l i) (everyA l i) b) (fun i _ => by
    have := need_in hT i
    exact ceil_mono (by omega) (by omega) h)
  omega
theorem gF_in {l : List Again} (hT : ∀ x ∈ l, goodT x) {k : Nat} (hk : k ≤ 5) {r : Int} (h : 0 ≤ r ∧ r ≤ 1000) : 0 ≤ gF l k r ∧ gF l k r ≤ 1000000 := by
  have hz : ∀ k, sumTo k (fun i => ceilE (needA l i) (everyA l i) r) ≤ 20000 * k ∧ 0 ≤ sumTo k (fun i => ceilE (needA l i) (everyA l i) r) := by
    intro k
    induction k with
    | zero => simp [sumTo]
    | succ k ih =>
      have hn := need_in hT k
      have := (ceil_in hn.1 hn.2 h).2
      simp only [sumTo]; omega
  have := hz k
  have := need_in hT k
  unfold gF; omega

/-- While the task is not done, all slots go to it or to those ahead. -/
theorem cn_mono (l : List Again) (k : Nat) : ∀ (d t : Nat), cn l k t ≤ cn l k (t + d)
  | 0, t => by simp
  | d + 1, t => by
    have := cn_mono l k d t
    show cn l k t ≤ cn l k (t + d) + ind _
    unfold ind
    split <;> omega
theorem arv_ge {l : List Again} (hT : ∀ x ∈ l, goodT x) (k t : Nat) : needA l k ≤ arv l k (t + 1) := by
  have hn := need_in hT k
  induction t with
  | zero => simp [arv, come]
  | succ t ih =>
    show needA l k ≤ arv l k (t + 1) + come l k (t + 1)
    unfold come
    split <;> omega
theorem ow_in {l : List Again} (hT : ∀ x ∈ l, goodT x) {k t : Nat} (hk : k < l.length) (h : cn l k t < needA l k) : 0 ≤ ow l t ∧ ow l t ≤ k := by
  refine ow_le hk ?_
  rw [lv_eq hk]
  have := arv_ge hT k t
  simp only [arv] at this
  omega
theorem cn_sum {l : List Again} (hT : ∀ x ∈ l, goodT x) {k : Nat} (hk : k < l.length) : ∀ (t : Nat), (∀ s, s < t → cn l k s < needA l k) → sumTo (k + 1) (fun i => cn l i t) = t
  | 0, _ => by
    have : ∀ k, sumTo k (fun i => cn l i 0) = 0 := by
      intro k
      induction k with
      | zero => rfl
      | succ k ih =>
        show sumTo k (fun i => cn l i 0) + cn l k 0 = 0
        rw [ih]; rfl
    exact this _
  | t + 1, h => by
    have ih := cn_sum hT hk t (fun s hs => h s (by omega))
    have ho := ow_in hT hk (h t (by omega))
    have e : sumTo (k + 1) (fun i => cn l i (t + 1)) = sumTo (k + 1) (fun i => cn l i t) + sumTo (k + 1) (fun i => ind (decide (ow l t = i))) := sumTo_add _ _ _
    rw [e, ih, sumTo_ind _ _ ho.1 (by omega)]; omega
theorem gF_above {l : List Again} (hT : ∀ x ∈ l, goodT x) {k : Nat} (hk : k < l.length) {t : Nat} (h : ∀ s, s ≤ t → cn l k s < needA l k) : (t : Int) < gF l k t := by
  have hs := cn_sum hT hk t (fun s hs => h s (by omega))
  have ht := h t (by omega)
  have := sumTo_le k (fun i => cn l i t) (fun i => ceilE (needA l i) (everyA l i) t) (fun i hi => by
    have := lv_ge hT (show i < l.length by omega) t
    rw [lv_eq (by omega)] at this
    rw [← arv_eq hT]; omega)
  simp only [sumTo] at hs
  unfold gF; omega
theorem gF_fix {l : List Again} (hT : ∀ x ∈ l, goodT x) {k : Nat} (hk : k < l.length) {t : Nat} (h : ∀ s, s ≤ t → cn l k s < needA l k) (hd : cn l k (t + 1) = needA l k) : gF l k ((t + 1 : Nat) : Int) = ((t + 1 : Nat) : Int) := by
  have hs := cn_sum hT hk (t + 1) (fun s hs => h s (by omega))
  have ho : ow l t = k := by
    have h1 := h t (by omega)
    have h2 : cn l k (t + 1) = cn l k t + ind (decide (ow l t = k)) := rfl
    rcases Decidable.em (ow l t = k) with he | he
    · exact he
    · rw [dec_f he] at h2
      simp only [ind, Bool.false_eq_true, if_false] at h2
      omega
  have e : sumTo k (fun i => cn l i (t + 1)) = sumTo k (fun i => ceilE (needA l i) (everyA l i) ((t + 1 : Nat) : Int)) := sumTo_congr _ _ _ (fun i hi => by
    have hi' : i < l.length := by omega
    have h1 := ow_first hi hk ho
    have h2 := lv_ge hT hi' (t + 1)
    have h3 := lv_step (t := t) hi'
    rw [dec_f (by omega)] at h3
    simp only [ind, Bool.false_eq_true, if_false] at h3
    have h4 := lv_eq hi' (t + 1)
    rw [← arv_eq hT]; omega)
  simp only [sumTo] at hs
  unfold gF
  rw [← e]; omega

/-! first done -/
def fdF (l : List Again) (k : Nat) : Nat → Nat → Option Nat
  | 0, _ => none
  | j + 1, t => if cn l k (t + 1) = needA l k then some (t + 1) else fdF l k j (t + 1)
theorem fdF_ok {l : List Again} {k : Nat} : ∀ (j t : Nat), (∀ s, s ≤ t → cn l k s < needA l k) → match fdF l k j t with
    | some f => ∃ u, f = u + 1 ∧ u < t + j ∧ cn l k (u + 1) = needA l k ∧ ∀ s, s ≤ u → cn l k s < needA l k
    | none => ∀ s, s ≤ t + j → cn l k s < needA l k
  | 0, t, h => by simpa [fdF] using h
  | j + 1, t, h => by
    simp only [fdF]
    by_cases hc : cn l k (t + 1) = needA l k
    · rw [if_pos hc]
      exact ⟨t, rfl, by omega, hc, h⟩
    · rw [if_neg hc]
      have hstep : cn l k (t + 1) < needA l k := by
        have h1 := h t (by omega)
        have h2 : cn l k (t + 1) = cn l k t + ind (decide (ow l t = k)) := rfl
        unfold ind at h2
        split at h2 <;> omega
      have := fdF_ok j (t + 1) (fun s hs => by
        rcases Nat.lt_or_ge s (t + 1) with h1 | h1
        · exact h s (by omega)
        · have : s = t + 1 := by omega
          subst this; exact hstep)
      cases hf : fdF l k j (t + 1) with
      | none => rw [hf] at this; intro s hs; exact this s (by omega)
      | some f => rw [hf] at this; obtain ⟨u, h1, h2, h3⟩ := this; exact ⟨u, h1, by omega, h3⟩
theorem cn_in (l : List Again) (k t : Nat) : 0 ≤ cn l k t ∧ cn l k t ≤ t := by
  induction t with
  | zero => simp [cn]
  | succ t ih =>
    simp only [cn, ind]
    split <;> omega
theorem iFd_go {l : List Again} (hT : ∀ x ∈ l, goodT x) {k : Nat} : ∀ (j t : Nat), t + j = 200 → cn l k t < needA l k →
    whl (impl_FirstDone_l0 k (outL l 200 0)) (needA l k - cn l k t, (t : Int)) = some (match fdF l k j t with | some f => .done ((f : Int), true, true) | none => .next ()) := by
  intro j
  have hn := need_in hT k
  induction j with
  | zero =>
    intro t h1 h2
    rw [whl_eq]
    simp only [impl_FirstDone_l0]
    rw [dec_f (by rw [outL_len]; omega)]; rfl
  | succ j ih =>
    intro t h1 h2
    have hc := cn_in l k t
    have hg : idx (outL l 200 0) (t : Int) = some (ow l t) := by
      have ht : t < (outL l 200 0).length := by rw [outL_len]; omega
      have := outL_get l 200 0 t (by omega)
      rw [idx_lt ht]
      rw [List.getElem?_eq_getElem ht] at this
      rw [this]; simp
    rw [whl_eq]
    simp only [impl_FirstDone_l0, fdF]
    rw [dec_t (by rw [outL_len]; omega), hg]
    simp only [cond_true, Option.bind_some]
    by_cases ho : ow l t = k
    · have e : cn l k (t + 1) = cn l k t + 1 := by simp only [cn, ind, dec_t ho, if_true]
      rw [show (ow l t != (k : Int)) = false by simp [ho], w64 (x := needA l k - cn l k t - 1) (by omega), w64 (x := (t : Int) + 1) (by omega)]
      simp only [cond_false]
      by_cases hd : cn l k (t + 1) = needA l k
      · rw [if_pos hd, show (needA l k - cn l k t - 1 == 0) = true by simp <;> omega]; rfl
      · rw [if_neg hd, show (needA l k - cn l k t - 1 == 0) = false by simp <;> omega]
        simp only [cond_false, Option.bind_some]
        have := ih (t + 1) (by omega) (by omega)
        rw [show needA l k - cn l k (t + 1) = needA l k - cn l k t - 1 by omega, show ((t + 1 : Nat) : Int) = (t : Int) + 1 by omega] at this
        exact this
    · have e : cn l k (t + 1) = cn l k t := by simp only [cn, ind, dec_f ho, Bool.false_eq_true, if_false]; omega
      rw [show (ow l t != (k : Int)) = true by simp [ho], w64 (x := (t : Int) + 1) (by omega)]
      simp only [cond_true, Option.bind_some]
      rw [if_neg (by omega)]
      have := ih (t + 1) (by omega) (by omega)
      rw [e, show ((t + 1 : Nat) : Int) = (t : Int) + 1 by omega] at this
      exact this
theorem sFd_go {l : List Again} (hT : ∀ x ∈ l, goodT x) {k : Nat} (hk : k < l.length) : ∀ (j t : Nat), t + j = 200 → cn l k t < needA l k →
    whl (spec_FirstDone_l0 l k (outL l 200 0)) (cn l k t, (t : Int)) = some (match fdF l k j t with | some f => .done ((f : Int), true, true) | none => .next ()) := by
  intro j
  have hn := need_in hT k
  induction j with
  | zero =>
    intro t h1 h2
    rw [whl_eq]
    simp only [spec_FirstDone_l0]
    rw [dec_f (by rw [outL_len]; omega)]; rfl
  | succ j ih =>
    intro t h1 h2
    have hc := cn_in l k t
    have hg : idx (outL l 200 0) (t : Int) = some (ow l t) := by
      have ht : t < (outL l 200 0).length := by rw [outL_len]; omega
      have := outL_get l 200 0 t (by omega)
      rw [idx_lt ht]
      rw [List.getElem?_eq_getElem ht] at this
      rw [this]; simp
    have hnd : l[k].Need = needA l k := by
      unfold needA
      rw [List.getD_eq_getElem?_getD, List.getElem?_eq_getElem hk]; rfl
    have hb : spec_l1Bit (ow l t == (k : Int)) = some (ind (decide (ow l t = k))) := by
      unfold spec_l1Bit ind
      by_cases ho : ow l t = k
      · rw [show (ow l t == (k : Int)) = true by simp [ho], dec_t ho]; rfl
      · rw [show (ow l t == (k : Int)) = false by simp [ho], dec_f ho]; rfl
    rw [whl_eq]
    simp only [spec_FirstDone_l0, fdF]
    rw [dec_t (by rw [outL_len]; omega), hg]
    simp only [cond_true, Option.bind_some]
    rw [hb, idx_lt hk]
    simp only [Option.bind_some]
    have h01 : ind (decide (ow l t = k)) = 0 ∨ ind (decide (ow l t = k)) = 1 := by unfold ind; split <;> simp
    have e : cn l k (t + 1) = cn l k t + ind (decide (ow l t = k)) := rfl
    rw [w64 (x := cn l k t + ind (decide (ow l t = k))) (by omega), hnd, ← e, w64 (x := (t : Int) + 1) (by omega)]
    by_cases hd : cn l k (t + 1) = needA l k
    · rw [if_pos hd, show (cn l k (t + 1) == needA l k) = true by simp [hd]]; rfl
    · rw [if_neg hd, show (cn l k (t + 1) == needA l k) = false by simp [hd]]
      exact ih (t + 1) (by omega) (by omega)
def oneB (l : List Again) (k : Int) : Bool := agB l && inB k 0 ((l.length : Int) - 1)
def firstF (l : List Again) (k : Int) : Int × Bool × Bool := if oneB l k then (match fdF l k.toNat 200 0 with | some f => ((f : Int), true, true) | none => (0, false, true)) else (0, false, false)
theorem oneB_iff {l : List Again} {k : Int} (h : oneB l k = true) : (l.length ≤ 5 ∧ ∀ x ∈ l, goodT x) ∧ ∃ n : Nat, k = n ∧ n < l.length := by
  unfold oneB at h
  simp only [Bool.and_eq_true, inB_iff] at h
  exact ⟨agB_iff h.1, k.toNat, by omega, by omega⟩
theorem need_get {l : List Again} {k : Nat} (hk : k < l.length) : l[k].Need = needA l k ∧ l[k].Every = everyA l k := by
  unfold needA everyA
  rw [List.getD_eq_getElem?_getD, List.getElem?_eq_getElem hk]; exact ⟨rfl, rfl⟩
theorem iFirst {l : List Again} {k : Int} (hl : l.length ≤ 1048576) : impl_FirstDone l k = some (firstF l k) := by
  unfold impl_FirstDone firstF
  rw [iOne hl]
  show (some (oneB l k)).bind _ = _
  cases h : oneB l k
  · rfl
  obtain ⟨⟨h5, hT⟩, n, rfl, hn⟩ := oneB_iff h
  simp only [Option.bind_some, Bool.not_true, cond_false]
  have h200 := iRun h5 hT (m := 200) (by omega)
  rw [show ((200 : Nat) : Int) = 200 from rfl] at h200
  rw [idx_lt hn, h200]
  have := iFd_go (l := l) hT (k := n) 200 0 (by omega) (by simp only [cn]; have := need_in hT n; omega)
  simp only [cn, Int.sub_zero] at this
  rw [show ((0 : Nat) : Int) = 0 from rfl] at this
  simp only [Option.bind_some]
  rw [(need_get hn).1, this, Int.toNat_natCast]
  cases fdF l n 200 0 <;> rfl
theorem sFirst {l : List Again} {k : Int} (hl : l.length ≤ 1048576) : spec_FirstDone l k = some (firstF l k) := by
  unfold spec_FirstDone firstF
  rw [sThere hl]
  show (some (oneB l k)).bind _ = _
  cases h : oneB l k
  · rfl
  obtain ⟨⟨h5, hT⟩, n, rfl, hn⟩ := oneB_iff h
  simp only [Option.bind_some, Bool.not_true, cond_false]
  have h200 := sRun h5 hT (m := 200) (by omega)
  rw [show ((200 : Nat) : Int) = 200 from rfl] at h200
  rw [h200]
  have := sFd_go (l := l) hT (k := n) hn 200 0 (by omega) (by simp only [cn]; have := need_in hT n; omega)
  simp only [cn] at this
  rw [show ((0 : Nat) : Int) = 0 from rfl] at this
  simp only [Option.bind_some]
  rw [this, Int.toNat_natCast]
  cases fdF l n 200 0 <;> rfl

/-! how long at most -/
theorem long_sum {l : List Again} (hT : ∀ x ∈ l, goodT x) {k : Nat} (hk : k < l.length) (hk5 : l.length ≤ 5) {r : Nat} (hr : r ≤ 200) : whl (impl_longest_l0 r (l.take k)) (needA l k, 0) = some (gF l k r) := by
  have : ∀ (j i : Nat), i + j = k → whl (impl_longest_l0 r (l.take k)) (needA l k + sumTo i (fun i => ceilE (needA l i) (everyA l i) r), (i : Int)) = some (gF l k r) := by
    intro j
    induction j with
    | zero =>
      intro i hi
      have : i = k := by omega
      subst this
      rw [whl_eq]
      simp only [impl_longest_l0]
      rw [dec_f (by rw [List.length_take]; omega)]; rfl
    | succ j ih =>
      intro i hi
      have hi' : i < l.length := by omega
      have hn := need_in hT i
      have hc := ceil_in (a := (r : Int)) hn.1 hn.2 (by omega)
      have hg := gF_in hT (k := i) (by omega) (r := (r : Int)) (by omega)
      have hnk := need_in hT k
      have hni := need_in hT i
      unfold gF at hg
      rw [whl_eq]
      simp only [impl_longest_l0]
      rw [dec_t (by rw [List.length_take]; omega), idx_lt (by rw [List.length_take]; omega)]
      simp only [cond_true, Option.bind_some, List.getElem_take]
      rw [(need_get hi').1, (need_get hi').2, w64 (x := (r : Int) + everyA l i) (by omega), w64 (x := (r : Int) + everyA l i - 1) (by omega), dv_in (by omega) (by omega) (by omega)]
      simp only [Option.bind_some]
      have e : needA l i * (((r : Int) + everyA l i - 1) / everyA l i) = ceilE (needA l i) (everyA l i) r := rfl
      rw [e, w64 (x := ceilE (needA l i) (everyA l i) r) (by omega), w64 (x := (i : Int) + 1) (by omega), w64 (by omega)]
      have := ih (i + 1) (by omega)
      simp only [sumTo] at this
      rw [show ((i + 1 : Nat) : Int) = (i : Int) + 1 by omega, ← Int.add_assoc] at this
      exact this
  have h := this k 0 (by omega)
  simpa [sumTo] using h
theorem iLong_done {l : List Again} (hT : ∀ x ∈ l, goodT x) {k : Nat} (hk : k < l.length) (hk5 : l.length ≤ 5) {f : Nat} (hf : f ≤ 200) (hfix : gF l k f = f) (hup : ∀ t : Nat, t < f → (t : Int) < gF l k t) :
    ∀ (d r : Nat), f - r ≤ d → r ≤ f → whl (impl_longest_l1 l k) (r : Int) = some (.done ((f : Int), true)) ∧ whl (spec_l6Longest_l1 l k) (r : Int) = some (.done (f : Int)) := by
  intro d
  have step : ∀ r : Nat, r ≤ f → (idx l k).bind (fun b18 => (slc l 0 (k : Int)).bind fun x21 => whl (impl_longest_l0 r x21) (b18.Need, 0)) = some (gF l k r) := by
    intro r hr
    rw [idx_lt hk, slc_in (by omega) (by omega) (by omega)]
    simp only [Option.bind_some, Int.toNat_zero, List.drop_zero, Int.toNat_natCast, Nat.sub_zero]
    rw [(need_get hk).1, long_sum hT hk hk5 (by omega)]
  induction d with
  | zero =>
    intro r h1 h2
    have : r = f := by omega
    subst this
    have hs := step r (Nat.le_refl r)
    rw [idx_lt hk, slc_in (by omega) (by omega) (by omega)] at hs
    simp only [Option.bind_some] at hs
    constructor
    · rw [whl_eq]
      simp only [impl_longest_l1]
      rw [dec_t (by omega), idx_lt hk, slc_in (by omega) (by omega) (by omega)]
      simp only [cond_true, Option.bind_some]
      rw [hs, hfix]
      simp
    · rw [whl_eq]
      simp only [spec_l6Longest_l1]
      rw [dec_t (by omega), idx_lt hk, slc_in (by omega) (by omega) (by omega), show spec_l6Longest_l0 = impl_longest_l0 from rfl]
      simp only [cond_true, Option.bind_some]
      rw [hs, hfix]
      simp
  | succ d ih =>
    intro r h1 h2
    by_cases he : r = f
    · exact ih r (by omega) h2
    have hs := step r h2
    rw [idx_lt hk, slc_in (by omega) (by omega) (by omega)] at hs
    simp only [Option.bind_some] at hs
    have h3 := hup r (by omega)
    have h4 := gF_mono hT (k := k) (show (r : Int) ≤ (f : Int) by omega)
    rw [hfix] at h4
    obtain ⟨g, hg⟩ := Int.eq_ofNat_of_zero_le (show 0 ≤ gF l k r by omega)
    rw [hg] at hs h3 h4
    obtain ⟨i1, i2⟩ := ih g (by omega) (by omega)
    constructor
    · rw [whl_eq]
      simp only [impl_longest_l1]
      rw [dec_t (by omega), idx_lt hk, slc_in (by omega) (by omega) (by omega)]
      simp only [cond_true, Option.bind_some]
      rw [hs]
      simp only [Option.bind_some]
      rw [show ((g : Int) == (r : Int)) = false by simp <;> omega]
      exact i1
    · rw [whl_eq]
      simp only [spec_l6Longest_l1]
      rw [dec_t (by omega), idx_lt hk, slc_in (by omega) (by omega) (by omega), show spec_l6Longest_l0 = impl_longest_l0 from rfl]
      simp only [cond_true, Option.bind_some]
      rw [hs]
      simp only [Option.bind_some]
      rw [show ((g : Int) == (r : Int)) = false by simp <;> omega]
      exact i2
theorem iLong_none {l : List Again} (hT : ∀ x ∈ l, goodT x) {k : Nat} (hk : k < l.length) (hk5 : l.length ≤ 5) (hup : ∀ t : Nat, t ≤ 200 → (t : Int) < gF l k t) :
    ∀ (d r : Nat), 201 - r ≤ d → whl (impl_longest_l1 l k) (r : Int) = some (.next ()) ∧ whl (spec_l6Longest_l1 l k) (r : Int) = some (.next ()) := by
  intro d
  induction d with
  | zero =>
    intro r h1
    constructor
    · rw [whl_eq]
      simp only [impl_longest_l1]
      rw [dec_f (by omega)]; rfl
    · rw [whl_eq]
      simp only [spec_l6Longest_l1]
      rw [dec_f (by omega)]; rfl
  | succ d ih =>
    intro r h1
    by_cases hr : r ≤ 200
    · have hs := long_sum hT hk hk5 hr
      have h3 := hup r hr
      obtain ⟨g, hg⟩ := Int.eq_ofNat_of_zero_le (show 0 ≤ gF l k r by omega)
      rw [hg] at hs h3
      obtain ⟨i1, i2⟩ := ih g (by omega)
      constructor
      · rw [whl_eq]
        simp only [impl_longest_l1]
        rw [dec_t (by omega), idx_lt hk, slc_in (by omega) (by omega) (by omega)]
        simp only [cond_true, Option.bind_some, Int.toNat_zero, List.drop_zero, Int.toNat_natCast, Nat.sub_zero]
        rw [(need_get hk).1, hs]
        simp only [Option.bind_some]
        rw [show ((g : Int) == (r : Int)) = false by simp <;> omega]
        exact i1
      · rw [whl_eq]
        simp only [spec_l6Longest_l1]
        rw [dec_t (by omega), idx_lt hk, slc_in (by omega) (by omega) (by omega), show spec_l6Longest_l0 = impl_longest_l0 from rfl]
        simp only [cond_true, Option.bind_some, Int.toNat_zero, List.drop_zero, Int.toNat_natCast, Nat.sub_zero]
        rw [(need_get hk).1, hs]
        simp only [Option.bind_some]
        rw [show ((g : Int) == (r : Int)) = false by simp <;> omega]
        exact i2
    · constructor
      · rw [whl_eq]
        simp only [impl_longest_l1]
        rw [dec_f (by omega)]; rfl
      · rw [whl_eq]
        simp only [spec_l6Longest_l1]
        rw [dec_f (by omega)]; rfl
theorem longs {l : List Again} {k : Int} (hl : l.length ≤ 1048576) : impl_LongestOf l k = some (firstF l k) ∧ spec_LongestOf l k = some (firstF l k) := by
  unfold impl_LongestOf spec_LongestOf firstF
  rw [iOne hl, sThere hl]
  show (some (oneB l k)).bind _ = _ ∧ (some (oneB l k)).bind _ = _
  cases h : oneB l k
  · exact ⟨rfl, rfl⟩
  obtain ⟨⟨h5, hT⟩, n, rfl, hn⟩ := oneB_iff h
  simp only [Option.bind_some, Bool.not_true, cond_false, impl_longest, spec_l6Longest, Int.toNat_natCast, if_true]
  rw [idx_lt hn]
  simp only [Option.bind_some]
  have hnd := need_in hT n
  obtain ⟨r, hr⟩ := Int.eq_ofNat_of_zero_le (show 0 ≤ needA l n by omega)
  rw [(need_get hn).1, hr]
  have hfd := fdF_ok (l := l) (k := n) 200 0 (fun s hs => by
    have : s = 0 := by omega
    subst this
    simp only [cn]; omega)
  cases hf : fdF l n 200 0 with
  | some f =>
    rw [hf] at hfd
    obtain ⟨u, rfl, h2, h3, h4⟩ := hfd
    have hfix := gF_fix hT hn h4 h3
    have hup : ∀ t : Nat, t < u + 1 → (t : Int) < gF l n t := fun t ht => gF_above hT hn (fun s hs => h4 s (by omega))
    have hle : r ≤ u + 1 := by
      have h0 : needA l n ≤ gF l n ((u + 1 : Nat) : Int) := by
        have := gF_mono hT (k := n) (show (0 : Int) ≤ ((u + 1 : Nat) : Int) by omega)
        have h1 : needA l n ≤ gF l n 0 := by
          unfold gF
          have hz : ∀ k, 0 ≤ sumTo k (fun i => ceilE (needA l i) (everyA l i) 0) := by
            intro k
            induction k with
            | zero => simp [sumTo]
            | succ k ih =>
              have hn := need_in hT k
              have := (ceil_in (a := 0) hn.1 hn.2 (by omega)).2
              simp only [sumTo]; omega
          have := hz n
          omega
        omega
      rw [hfix] at h0
      omega
    obtain ⟨i1, i2⟩ := iLong_done hT hn h5 (show u + 1 ≤ 200 by omega) hfix hup (u + 1 - r) r (Nat.le_refl _) hle
    rw [i1, i2]
    simp only [Option.bind_some]
    rw [dec_f (by omega)]
    simp
  | none =>
    rw [hf] at hfd
    have hup : ∀ t : Nat, t ≤ 200 → (t : Int) < gF l n t := fun t ht => gF_above hT hn (fun s hs => hfd s (by omega))
    obtain ⟨i1, i2⟩ := iLong_none hT hn h5 hup (201 - r) r (Nat.le_refl _)
    rw [i1, i2]
    exact ⟨rfl, rfl⟩

/-! what is drawn -/
theorem again_t {c : L1Cur} {b : Int} (h : Cur c b) (hb : b ≤ 2000000000000000000) : Tot (spec_l1Cur_again c) fun r => r.1.length ≤ 6 ∧ Cur r.2 (b + 200) := by
  unfold spec_l1Cur_again
  refine Tot.then (pick_t (by assumption) (by omega)) ?_
  rintro ⟨x, c_x⟩ ⟨x_0, x_1, x_c⟩
  dsimp only at x_0 x_1 x_c ⊢
  have x_2 := x_1 (by omega)
  refine Tot.then (one_t (by assumption) (by omega)) ?_
  rintro ⟨y, c_y⟩ y_c
  dsimp only at y_c ⊢
  refine Tot.then (P := fun r => (0 ≤ r.1 ∧ r.1 ≤ 6) ∧ Cur ⟨r.2.1, r.2.2.1, r.2.2.2⟩ (b + 10)) ?_ ?_
  · refine Tot.cnd (fun hc => ?_) (fun hc => ?_)
    · refine Tot.then (pick_t (by assumption) (by omega)) ?_
      rintro ⟨z, c_z⟩ ⟨z_0, z_1, z_c⟩
      dsimp only at z_0 z_1 z_c ⊢
      have z_2 := z_1 (by omega)
      rw [w64 (by omega)]
      exact .ret ⟨(by first | omega | (dsimp only; omega)), z_c.mono (by omega)⟩
    · exact .ret ⟨(by first | omega | (dsimp only; omega)), y_c.mono (by omega)⟩
  · rintro ⟨n, co, a, se⟩ ⟨hn, hc0⟩
    dsimp only at hn hc0 ⊢
    refine Tot.then (P := fun r => r.1.length ≤ 6 ∧ Cur ⟨r.2.1, r.2.2.1, r.2.2.2⟩ (b + 100)) (Tot.whl (fun s => s.2.1.toNat) (fun s => ((0 ≤ s.2.1 ∧ s.2.1 ≤ 6) ∧ s.1.length + s.2.1.toNat ≤ 6) ∧ Cur ⟨s.2.2.1, s.2.2.2.1, s.2.2.2.2⟩ (b + 10 + 4 * (6 - s.2.1))) ?_ ⟨⟨(by first | omega | (dsimp only; omega)), by simp only [List.length_nil]; omega⟩, hc0.mono (by first | omega | (dsimp only; omega))⟩) ?_
    · rintro ⟨l, n, co, a, se⟩ ⟨⟨h1, h2⟩, hc0⟩
      dsimp only at h1 h2 hc0 ⊢
      unfold spec_l1Cur_again_l0
      dsimp only
      refine Tot.cnd (fun hc => ?_) (fun hc => ?_)
      · simp only [decide_eq_true_eq] at hc
        refine Tot.then (pick_t (by assumption) (by omega)) ?_
        rintro ⟨y, c_y⟩ ⟨y_0, y_1, y_c⟩
        dsimp only at y_0 y_1 y_c ⊢
        refine Tot.then (pick_t (by assumption) (by omega)) ?_
        rintro ⟨z, c_z⟩ ⟨z_0, z_1, z_c⟩
        dsimp only at z_0 z_1 z_c ⊢
        rw [sLeast]
        simp only [Option.bind_some]
        rw [app_in (by simp <;> omega) (by omega), Option.bind_some, w64 (x := n - 1) (by omega)]
        exact .ret ⟨⟨⟨(by first | omega | (dsimp only; omega)), by simp only [List.length_append, List.length_singleton]; omega⟩, z_c.mono (by first | omega | (dsimp only; omega))⟩, (by first | omega | (dsimp only; omega))⟩
      · simp only [decide_eq_false_iff_not, Int.not_lt] at hc
        exact .ret ⟨(by first | omega | (dsimp only; omega)), hc0.mono (by first | omega | (dsimp only; omega))⟩
    · rintro ⟨l, co, a, se⟩ ⟨h1, hc0⟩
      dsimp only at h1 hc0 ⊢
      refine Tot.then (P := fun r => (r.1 = true → 1 ≤ l.length) ∧ Cur ⟨r.2.1, r.2.2.1, r.2.2.2⟩ (b + 110)) ?_ ?_
      · refine Tot.cnd (fun hc => ?_) (fun hc => ?_)
        · simp only [decide_eq_true_eq] at hc
          refine Tot.then (one_t (by assumption) (by omega)) ?_
          rintro ⟨y, c_y⟩ y_c
          dsimp only at y_c ⊢
          exact .ret ⟨fun _ => (by first | omega | (dsimp only; omega)), y_c.mono (by first | omega | (dsimp only; omega))⟩
        · exact .ret ⟨fun h => by simp at h, hc0.mono (by first | omega | (dsimp only; omega))⟩
      · rintro ⟨t, co, a, se⟩ ⟨h3, hc3⟩
        dsimp only at h3 hc3 ⊢
        refine Tot.then (P := fun r => r.1.length ≤ 6 ∧ Cur ⟨r.2.1, r.2.2.1, r.2.2.2⟩ (b + 200)) ?_ ?_
        · refine Tot.cnd (fun hc => ?_) (fun hc => ?_)
          · have := h3 hc
            refine Tot.then (among_t (by assumption) (by omega) (by simp)) ?_
            rintro ⟨y, c_y⟩ ⟨y_m, y_c⟩
            dsimp only at y_m y_c ⊢
            refine Tot.then (among_t (by assumption) (by omega) (by simp)) ?_
            rintro ⟨z, c_z⟩ ⟨z_m, z_c⟩
            dsimp only at z_m z_c ⊢
            rw [idx_in (by omega) (by omega)]
            simp only [Option.bind_some]
            exact .ret ⟨by simp only [List.length_set]; omega, z_c.mono (by omega)⟩
          · exact .ret ⟨h1, hc3.mono (by omega)⟩
        · rintro ⟨l', co', a', se'⟩ ⟨h4, hc4⟩
          exact .ret ⟨h4, hc4⟩
theorem drawLongest {l : List Int} (hl : l.length ≤ 1048576) (hb : ∀ x ∈ l, 0 ≤ x ∧ x ≤ 255) : Tot (spec_DrawLongestOf l) fun r => r.1.length ≤ 6 := by
  unfold spec_DrawLongestOf
  have h := cur0 hl hb
  refine Tot.then (again_t (by assumption) (by omega)) ?_
  rintro ⟨w, c_w⟩ ⟨w_p, w_c⟩
  dsimp only at w_p w_c ⊢
  refine Tot.then (pick_t (by assumption) (by omega)) ?_
  rintro ⟨m, c_m⟩ ⟨m_0, m_1, m_c⟩
  dsimp only at m_0 m_1 m_c ⊢
  exact .ret w_p
theorem drawRun {l : List Int} (hl : l.length ≤ 1048576) (hb : ∀ x ∈ l, 0 ≤ x ∧ x ≤ 255) : Tot (spec_DrawRunAgain l) fun r => r.1.length ≤ 6 := by
  unfold spec_DrawRunAgain
  have h := cur0 hl hb
  refine Tot.then (again_t (by assumption) (by omega)) ?_
  rintro ⟨w, c_w⟩ ⟨w_p, w_c⟩
  dsimp only at w_p w_c ⊢
  refine Tot.then (among_t (by assumption) (by omega) (by simp)) ?_
  rintro ⟨m, c_m⟩ ⟨m_m, m_c⟩
  dsimp only at m_m m_c ⊢
  exact .ret w_p
def runLF (l : List Again) (m : Int) : List Int × Bool := if agB l && inB m 1 200 then (outL l m.toNat 0, true) else ([], false)
theorem iRunA {l : List Again} {m : Int} (hl : l.length ≤ 1048576) : impl_RunAgain l m = some (runLF l m) := by
  unfold impl_RunAgain runLF
  rw [iAg hl, iIn]
  cases h : agB l
  · rfl
  cases hm : inB m 1 200
  · rfl
  obtain ⟨h5, hT⟩ := agB_iff h
  rw [inB_iff] at hm
  obtain ⟨n, rfl⟩ := Int.eq_ofNat_of_zero_le (show 0 ≤ m by omega)
  simp only [Option.bind_some, Bool.not_true, cond_false]
  rw [iRun h5 hT (by omega)]; rfl
theorem sRunA {l : List Again} {m : Int} (hl : l.length ≤ 1048576) : spec_RunAgain l m = some (runLF l m) := by
  unfold spec_RunAgain runLF
  rw [sAg hl, sIn]
  cases h : agB l
  · rfl
  cases hm : inB m 1 200
  · rfl
  obtain ⟨h5, hT⟩ := agB_iff h
  rw [inB_iff] at hm
  obtain ⟨n, rfl⟩ := Int.eq_ofNat_of_zero_le (show 0 ≤ m by omega)
  simp only [Option.bind_some, Bool.not_true, cond_false]
  rw [sRun h5 hT (by omega)]; rfl
theorem runLF_len (l : List Again) (m : Int) : (runLF l m).1.length ≤ 200 := by
  unfold runLF
  split
  · rename_i h
    simp only [Bool.and_eq_true, inB_iff] at h
    dsimp only; rw [outL_len]; omega
  · simp
/-- None has more than has come. -/
theorem served_go {l : List Again} (hT : ∀ x ∈ l, goodT x) {m i : Nat} (hm : m ≤ 200) (hi : i < l.length) : ∀ (j t : Nat), t + j = m → whl (laws_FnAgain_l0 (outL l m 0) i l[i]) (cn l i t, (t : Int)) = some (.next ()) := by
  intro j
  have hn := need_in hT i
  induction j with
  | zero =>
    intro t h1
    rw [whl_eq]
    simp only [laws_FnAgain_l0]
    rw [dec_f (by rw [outL_len]; omega)]; rfl
  | succ j ih =>
    intro t h1
    have hc := cn_in l i t
    have hg : idx (outL l m 0) (t : Int) = some (ow l t) := by
      have ht : t < (outL l m 0).length := by rw [outL_len]; omega
      have := outL_get l m 0 t (by omega)
      rw [idx_lt ht]
      rw [List.getElem?_eq_getElem ht] at this
      rw [this]; simp
    have h2 := lv_ge hT hi (t + 1)
    rw [lv_eq hi, arv_eq hT] at h2
    have hcl : ceilE (needA l i) (everyA l i) ((t + 1 : Nat) : Int) = needA l i * ((t : Int) / everyA l i + 1) := by
      unfold ceilE
      rw [show ((t + 1 : Nat) : Int) + everyA l i - 1 = (t : Int) + everyA l i * 1 by omega, Int.add_mul_ediv_left _ _ (by omega)]
    rw [whl_eq]
    simp only [laws_FnAgain_l0]
    rw [dec_t (by rw [outL_len]; omega), hg, (need_get hi).1, (need_get hi).2]
    simp only [cond_true, Option.bind_some]
    have e1 : (bif ow l t == (i : Int) then some (IntKind.i64.wrap (cn l i t + 1)) else some (cn l i t)) = some (cn l i (t + 1)) := by
      simp only [cn]
      by_cases ho : ow l t = i
      · rw [show (ow l t == (i : Int)) = true by simp [ho], dec_t ho, w64 (by omega)]; rfl
      · rw [show (ow l t == (i : Int)) = false by simp [ho], dec_f ho]; simp [ind]
    rw [e1, dv_in (by omega) (by omega) (by omega)]
    simp only [Option.bind_some]
    have h3 : 0 ≤ (t : Int) / everyA l i := Int.ediv_nonneg (by omega) (by omega)
    have h4 : (t : Int) / everyA l i ≤ t := Int.ediv_le_self _ (by omega)
    have h5 : 0 ≤ needA l i * ((t : Int) / everyA l i + 1) ∧ needA l i * ((t : Int) / everyA l i + 1) ≤ 10000 :=
      ⟨Int.mul_nonneg (by omega) (by omega), Int.le_trans (Int.mul_le_mul hn.1.2 (show (t : Int) / everyA l i + 1 ≤ 1000 by omega) (by omega) (by omega)) (by omega)⟩
    rw [w64 (x := (t : Int) / everyA l i + 1) (by omega), w64 (x := needA l i * ((t : Int) / everyA l i + 1)) (by omega), dec_f (by omega), w64 (by omega)]
    exact ih (t + 1) (by omega)
theorem pureAgain (a b : List Int) (ha : a.length < 2 ^ 47) (hb : b.length < 2 ^ 47) (ka : ∀ x ∈ a, 0 ≤ x ∧ x ≤ 255) (kb : ∀ x ∈ b, 0 ≤ x ∧ x ≤ 255) : laws_FnAgain a b = some true := by
  unfold laws_FnAgain
  rw [w64 (by omega)]
  by_cases h : (1048576 : Int) < (a.length : Int) + (b.length : Int)
  · rw [dec_t h]; rfl
  rw [dec_f h]
  simp only [cond_false]
  obtain ⟨⟨l, k⟩, e1, n1⟩ := drawLongest (l := a) (by omega) ka
  obtain ⟨⟨x, m⟩, e2, n2⟩ := drawRun (l := b) (by omega) kb
  dsimp only at n1 n2
  simp only [e1, e2, Option.bind_some]
  rw [(longs (l := l) (k := k) (by omega)).1, (longs (l := l) (k := k) (by omega)).2, iFirst (by omega), sFirst (by omega), iAg (l := l) (by omega), sAg (l := l) (by omega)]
  have hr := runLF_len x m
  rw [iRunA (by omega), sRunA (by omega)]
  simp only [Option.bind_some, beq_self_eq_true, Bool.not_true, cond_false, bne_self_eq_false]
  rw [sameI (l := (runLF x m).1) (by omega)]
  have e3 : (bif (firstF l k).2.2 then bif !(firstF l k).2.2 then some true else bif (firstF l k).2.1 then some false else some false else some false : Option Bool) = some false := by
    cases (firstF l k).2.2 <;> cases (firstF l k).2.1 <;> rfl
  rw [e3]
  simp only [Option.bind_some, Bool.not_true, cond_false]
  have e4 : (bif (runLF x m).2 then (whl (laws_FnAgain_l1 x (runLF x m).1) 0).bind fun y => match y with | LR.next () => some (LR.next ()) | LR.done z => some z else some (LR.next ()) : Option (LR Unit Bool)) = some (LR.next ()) := by
    unfold runLF
    cases hc : (agB x && inB m 1 200)
    · rfl
    · simp only [Bool.and_eq_true, inB_iff] at hc
      obtain ⟨h5, hT⟩ := agB_iff hc.1
      obtain ⟨n, rfl⟩ := Int.eq_ofNat_of_zero_le (show 0 ≤ m by omega)
      simp only [if_true, cond_true, Int.toNat_natCast]
      rw [whl_lg x _ (fun k (_ : Unit) => k) (fun _ x s => .next s) (fun _ => .next ()) (fun i hi s => by
        simp only [laws_FnAgain_l1]
        rw [dec_t (by omega), idx_lt hi]
        simp only [cond_true, Option.bind_some]
        have := served_go hT (m := n) (by omega) hi n 0 (by omega)
        simp only [cn] at this
        rw [show ((0 : Nat) : Int) = 0 from rfl] at this
        rw [this, w64 (by omega)]
        rfl) (fun s => by simp [laws_FnAgain_l1]) (), lgo_fold (fun s _ => s) (fun _ _ _ => rfl)]
      rfl
  exact (congrArg (fun z => Option.bind z _) e4).trans rfl
end Go.VxW
