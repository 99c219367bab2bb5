/-
  Sums over the first numbers, counts in a row of slots, tables.
-/
import Derived.Test.YtdgiianbihfkoaaVpU
open Go Go.VS
namespace Go.VxW

def indB (b : Bool) : Int := if b then 1 else 0
theorem indB_01 (b : Bool) : 0 ≤ indB b ∧ indB b ≤ 1 := by cases b <;> simp [indB]
def sumN : Nat → (Nat → Int) → Int
  | 0, _ => 0
  | k + 1, f => sumN k f + f k
theorem sumN_le : ∀ (k : Nat) (f g : Nat → Int), (∀ i, i < k → f i ≤ g i) → sumN k f ≤ sumN k g
  | 0, _, _, _ => by simp [sumN]
  | k + 1, f, g, h => by
    have := sumN_le k f g (fun i hi => h i (by omega))
    have := h k (by omega)
    simp only [sumN]; omega
theorem sumN_lt {k : Nat} {f g : Nat → Int} (h : ∀ i, i < k → f i ≤ g i) {j : Nat} (hj : j < k) (hs : f j < g j) : sumN k f < sumN k g := by
  induction k with
  | zero => omega
  | succ k ih =>
    simp only [sumN]
    by_cases he : j = k
    · subst he
      have := sumN_le j f g (fun i hi => h i (by omega))
      omega
    · have := ih (fun i hi => h i (by omega)) (by omega)
      have := h k (by omega)
      omega
theorem sumN_add : ∀ (k : Nat) (f g : Nat → Int), sumN k (fun i => f i + g i) = sumN k f + sumN k g
  | 0, _, _ => by simp [sumN]
  | k + 1, f, g => by simp only [sumN, sumN_add k f g]; omega
theorem sumN_congr : ∀ (k : Nat) (f g : Nat → Int), (∀ i, i < k → f i = g i) → sumN k f = sumN k g
  | 0, _, _, _ => rfl
  | k + 1, f, g, h => by simp only [sumN, sumN_congr k f g (fun i hi => h i (by omega)), h k (by omega)]
theorem sumN_zero : ∀ (k : Nat), sumN k (fun _ => 0) = 0
  | 0 => rfl
  | k + 1 => by simp only [sumN, sumN_zero k]; rfl
theorem sumN_nn {k : Nat} {f : Nat → Int} (h : ∀ i, i < k → 0 ≤ f i) : 0 ≤ sumN k f := by
  have := sumN_le k (fun _ => 0) f h
  rwa [sumN_zero] at this
/-- One of them is hit. -/
theorem sumN_hit {P : Nat → Bool} : ∀ (k : Nat) (o : Int), sumN k (fun i => if P i then indB (decide (o = i)) else 0) = indB (decide (0 ≤ o) && (decide (o < k) && P o.toNat))
  | 0, o => by
    simp only [sumN]
    by_cases h : 0 ≤ o
    · rw [dec_f (p := o < ((0 : Nat) : Int)) (by omega)]; simp [indB]
    · rw [dec_f h]; rfl
  | k + 1, o => by
    simp only [sumN]
    rw [sumN_hit k o]
    by_cases h0 : 0 ≤ o
    · by_cases he : o = k
      · subst he
        simp only [Int.toNat_natCast]
        rw [dec_f (p := (k : Int) < (k : Int)) (by omega), dec_t (p := (k : Int) < ((k + 1 : Nat) : Int)) (by omega), dec_t h0]
        cases P k <;> simp [indB]
      · rw [dec_f he]
        have : decide (o < ((k + 1 : Nat) : Int)) = decide (o < (k : Int)) := by
          by_cases hk : o < k
          · rw [dec_t hk, dec_t (by omega)]
          · rw [dec_f hk, dec_f (by omega)]
        rw [this]
        cases P k <;> simp [indB]
    · rw [dec_f h0, dec_f (p := o = (k : Int)) (by omega)]
      cases P k <;> simp [indB]

/-- How many slots ahead of a time are a job's. -/
def cs (f : Nat → Int) (i : Nat) : Nat → Int
  | 0 => 0
  | t + 1 => cs f i t + indB (decide (f t = i))
theorem cs_in (f : Nat → Int) (i t : Nat) : 0 ≤ cs f i t ∧ cs f i t ≤ t := by
  induction t with
  | zero => simp [cs]
  | succ t ih =>
    have := indB_01 (decide (f t = i))
    simp only [cs]; omega
theorem cs_mono (f : Nat → Int) (i : Nat) {a b : Nat} (h : a ≤ b) : cs f i a ≤ cs f i b := by
  induction b with
  | zero => rw [show a = 0 by omega]; omega
  | succ b ih =>
    by_cases he : a = b + 1
    · subst he; omega
    · have := ih (by omega)
      have := indB_01 (decide (f b = i))
      simp only [cs]; omega
theorem cs_zero {f : Nat → Int} {i t : Nat} (h : ∀ s, s < t → f s ≠ i) : cs f i t = 0 := by
  induction t with
  | zero => rfl
  | succ t ih =>
    simp only [cs]
    rw [ih (fun s hs => h s (by omega)), dec_f (h t (by omega))]; rfl
theorem cs_congr {f g : Nat → Int} {i t : Nat} (h : ∀ s, s < t → f s = g s) : cs f i t = cs g i t := by
  induction t with
  | zero => rfl
  | succ t ih =>
    simp only [cs]
    rw [ih (fun s hs => h s (by omega)), h t (by omega)]
/-- The slots of those that are so. -/
def csP (n : Nat) (P : Nat → Bool) (f : Nat → Int) (t : Nat) : Int := sumN n fun i => if P i then cs f i t else 0
theorem csP_step (n : Nat) (P : Nat → Bool) (f : Nat → Int) (t : Nat) : csP n P f (t + 1) = csP n P f t + indB (decide (0 ≤ f t) && (decide (f t < n) && P (f t).toNat)) := by
  unfold csP
  rw [← sumN_hit, ← sumN_add]
  refine sumN_congr _ _ _ fun i _ => ?_
  cases P i <;> simp [cs]
theorem csP_le (n : Nat) (P : Nat → Bool) (f : Nat → Int) {a b : Nat} (h : a ≤ b) : csP n P f b ≤ csP n P f a + (b - a) := by
  induction b with
  | zero => rw [show a = 0 by omega]; omega
  | succ b ih =>
    by_cases he : a = b + 1
    · subst he; omega
    · have := ih (by omega)
      rw [csP_step]
      have := indB_01 (decide (0 ≤ f b) && (decide (f b < n) && P (f b).toNat))
      omega
theorem csP_full (n : Nat) (P : Nat → Bool) (f : Nat → Int) {a b : Nat} (h : a ≤ b) (hf : ∀ s, a ≤ s → s < b → 0 ≤ f s ∧ f s < n ∧ P (f s).toNat = true) : csP n P f b = csP n P f a + (b - a) := by
  induction b with
  | zero => rw [show a = 0 by omega]; omega
  | succ b ih =>
    by_cases he : a = b + 1
    · subst he; omega
    · have := ih (by omega) (fun s h1 h2 => hf s h1 (by omega))
      obtain ⟨h1, h2, h3⟩ := hf b (by omega) (by omega)
      rw [csP_step, this, dec_t h1, dec_t h2, h3]
      simp [indB]; omega
/-- The counts of all, as a list. -/
def manyL (n : Nat) (f : Nat → Int) (t : Nat) : List Int := (List.range n).map fun i => cs f i t
theorem many_len (n : Nat) (f : Nat → Int) (t : Nat) : (manyL n f t).length = n := by simp [manyL]
theorem many_get {n : Nat} {f : Nat → Int} {t i : Nat} (h : i < (manyL n f t).length) : (manyL n f t)[i] = cs f i t := by simp [manyL]
theorem many_zero (n : Nat) (f : Nat → Int) : manyL n f 0 = List.replicate n 0 := by
  refine List.ext_getElem (by simp [manyL]) fun i h1 h2 => ?_
  rw [many_get]; simp [cs]
theorem many_skip {n : Nat} {f : Nat → Int} {t : Nat} (h : f t < 0) : manyL n f (t + 1) = manyL n f t := by
  refine List.ext_getElem (by simp [manyL]) fun i h1 h2 => ?_
  rw [many_get, many_get]
  simp only [cs]
  rw [dec_f (by omega)]; simp [indB]
theorem many_set {n : Nat} {f : Nat → Int} {t k : Nat} (h : f t = k) : (manyL n f t).set k (cs f k t + 1) = manyL n f (t + 1) := by
  refine List.ext_getElem (by simp [manyL]) fun i h1 h2 => ?_
  rw [many_get, List.getElem_set]
  simp only [cs]
  split
  · rename_i he
    subst he
    rw [dec_t h]; rfl
  · rename_i he
    rw [many_get, dec_f (by omega)]; simp [indB]
/-- A row of values. -/
def tab (f : Nat → Int) : Nat → Nat → List Int
  | 0, _ => []
  | j + 1, t => f t :: tab f j (t + 1)
theorem tab_len (f : Nat → Int) : ∀ (j t : Nat), (tab f j t).length = j
  | 0, _ => rfl
  | j + 1, t => by simp [tab, tab_len f j (t + 1)]
theorem tab_get (f : Nat → Int) : ∀ (j t i : Nat), i < j → (tab f j t)[i]? = some (f (t + i))
  | 0, _, _, h => by omega
  | j + 1, t, 0, _ => by simp [tab]
  | j + 1, t, i + 1, h => by
    simp only [tab, List.getElem?_cons_succ]
    rw [tab_get f j (t + 1) i (by omega)]
    congr 2; omega
end Go.VxW
