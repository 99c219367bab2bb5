/-
  Heaps: pushing, popping, making, removing, sorting keep heaps and what is in them.
-/
import Derived.Test.YtdgiianbihfkoaaVpI
open Go Go.VS
namespace Go.VxW

theorem app24g {α : Type} {l m : List α} (h : l.length + m.length ≤ 1048600) : app 24 l m = some (l ++ m) := by
  have : (l.length + m.length + 512) * 24 ≤ (1048600 + 512) * 24 := Nat.mul_le_mul_right _ (by omega)
  simp only [app, roomy, Bool.and_eq_true, decide_eq_true_eq]
  rw [if_pos]; constructor <;> omega
theorem cloneW {l : List Work} (h : l.length ≤ 1048576) : slices_Clone_impl_Work l = some l := by
  unfold slices_Clone_impl_Work
  rw [app24g (by simp <;> omega)]; rfl
theorem eqW_iff {x y : Work} : eqW x y = true ↔ x = y := by
  unfold eqW
  simp only [Bool.and_eq_true, beq_iff_eq, and_true]
  constructor
  · rintro ⟨h1, h2, h3⟩
    cases x; cases y
    simp only at h1 h2 h3
    rw [h1, h2, h3]
  · rintro rfl; exact ⟨rfl, rfl, rfl⟩
theorem many_app (l m : List Work) (x : Work) : manyW (l ++ m) x = manyW l x + manyW m x := by
  unfold manyW
  rw [List.map_append]
  induction l.map fun y => if eqW x y then (1 : Int) else 0 with
  | nil => simp [sumL]
  | cons y ys ih => simp only [List.cons_append, sumL, ih]; omega
theorem many_one (x y : Work) : manyW [y] x = if eqW x y then 1 else 0 := by simp [manyW, sumL]
theorem heap_nil (k : Nat) : heapF [] k := fun i _ h _ => by simp at h

/-! pushing -/
theorem push_ok {l : List Work} {x : Work} (hh : heapF l 0) : heapF (siF (l ++ [x]) l.length).1 0 ∧ (siF (l ++ [x]) l.length).1.length = l.length + 1 ∧ (∀ y ∈ (siF (l ++ [x]) l.length).1, y ∈ l ++ [x]) ∧ ∀ y, manyW (siF (l ++ [x]) l.length).1 y = manyW l y + if eqW y x then 1 else 0 := by
  have hk : ∀ i, i < l.length → kw (l ++ [x]) i = kw l i := fun i hi => by
    unfold kw
    rw [List.getD_eq_getElem?_getD, List.getD_eq_getElem?_getD, List.getElem?_append_left hi]
  have := up_ok (l.length + 1) (l ++ [x]) l.length 0 (by omega) (by simp) (by
    intro i i1 i2 i3
    simp only [List.length_append, List.length_singleton] at i2
    rw [hk _ (by omega), hk _ (by omega)]
    exact hh i i1 (by omega) (by omega)) (by
    intro i i1 i2 i3 i4
    simp only [List.length_append, List.length_singleton] at i2
    omega)
  refine ⟨this.1, by rw [show (siF (l ++ [x]) l.length).1.length = (l ++ [x]).length from this.2.1]; simp, this.2.2.1, fun y => ?_⟩
  rw [show manyW (siF (l ++ [x]) l.length).1 y = manyW (l ++ [x]) y from this.2.2.2 y, many_app, many_one]

/-! popping -/
def popL (l : List Work) : List Work := (l.set 0 (l.getD (l.length - 1) ⟨0, 0, 0⟩)).take (l.length - 1)
def popF (l : List Work) : List Work × Work := ((dnF (popL l) 0).1, l.getD 0 ⟨0, 0, 0⟩)
theorem popL_len (l : List Work) : (popL l).length = l.length - 1 := by unfold popL; simp
theorem popL_mem {l : List Work} (h : 1 ≤ l.length) : ∀ x ∈ popL l, x ∈ l := by
  intro x hx
  have hx := List.mem_of_mem_take hx
  rcases List.mem_or_eq_of_mem_set hx with h' | rfl
  · exact h'
  · rw [getD_at (by omega)]; exact List.getElem_mem _
theorem popL_many {l : List Work} (h : 1 ≤ l.length) (x : Work) : manyW (popL l) x + (if eqW x (l.getD 0 ⟨0, 0, 0⟩) then 1 else 0) = manyW l x := by
  have hl : l.length - 1 < l.length := by omega
  have h0 : 0 < l.length := by omega
  unfold popL
  rw [getD_at hl, getD_at h0]
  have h1 := many_setW h0 l[l.length - 1] x
  have h2 : l.set 0 l[l.length - 1] = (l.set 0 l[l.length - 1]).take (l.length - 1) ++ [l[l.length - 1]] := by
    have e := List.take_append_drop (l.length - 1) (l.set 0 l[l.length - 1])
    have hd : (l.set 0 l[l.length - 1]).drop (l.length - 1) = [l[l.length - 1]] := by
      have hll : l.length - 1 < (l.set 0 l[l.length - 1]).length := by simpa using hl
      rw [List.drop_eq_getElem_cons hll, List.getElem_set, List.drop_eq_nil_of_le (by simp <;> omega)]
      split <;> rfl
    rw [hd] at e
    exact e.symm
  rw [h2, many_app, many_one] at h1
  omega
theorem dn_nil (k : Nat) : dnF [] k = ([], 0) := rfl
theorem dn_ok {l : List Work} {j k : Nat} (hk : k < l.length) (hj : j ≤ k) (ha : ∀ i, 1 ≤ i → i < l.length → j ≤ (i - 1) / 2 → (i - 1) / 2 ≠ k → kw l ((i - 1) / 2) ≤ kw l i)
    (hb : ∀ i, 1 ≤ i → i < l.length → (i - 1) / 2 = k → 1 ≤ k → j ≤ (k - 1) / 2 → kw l ((k - 1) / 2) ≤ kw l i) :
    heapF (dnF l k).1 j ∧ (dnF l k).1.length = l.length ∧ (∀ x ∈ (dnF l k).1, x ∈ l) ∧ (∀ x, manyW (dnF l k).1 x = manyW l x) ∧ (dnF l k).2 ≤ ht l.length l.length k := by
  have := down_ok l.length l k 0 (by omega) hk hj ha hb
  rw [Nat.zero_add] at this
  exact this
theorem kw_pop {l : List Work} {i : Nat} (h1 : 1 ≤ i) (h2 : i < l.length - 1) : kw (popL l) i = kw l i := by
  unfold kw popL
  rw [List.getD_eq_getElem?_getD, List.getD_eq_getElem?_getD, List.getElem?_take, if_pos h2, List.getElem?_set, if_neg (by omega), List.getD_eq_getElem?_getD]
theorem pop_ok {l : List Work} (hh : heapF l 0) (h : 1 ≤ l.length) : heapF (popF l).1 0 ∧ (popF l).1.length = l.length - 1 ∧ (∀ x ∈ (popF l).1, x ∈ l) ∧ ∀ x, manyW (popF l).1 x + (if eqW x (popF l).2 then 1 else 0) = manyW l x := by
  have hm := popL_many h
  have hlen := popL_len l
  unfold popF
  dsimp only
  by_cases h2 : 2 ≤ l.length
  · have := dn_ok (l := popL l) (j := 0) (k := 0) (by omega) (Nat.le_refl _) (by
      intro i i1 i2 i3 i4
      rw [hlen] at i2
      rw [kw_pop (by omega) (by omega), kw_pop i1 i2]
      exact hh i i1 (by omega) (by omega)) (by intro i _ _ _ hk; omega)
    exact ⟨this.1, by omega, fun x hx => popL_mem h x (this.2.2.1 x hx), fun x => by rw [this.2.2.2.1]; exact hm x⟩
  · have e : popL l = [] := List.eq_nil_of_length_eq_zero (by omega)
    rw [e, dn_nil]
    rw [e] at hm
    exact ⟨heap_nil 0, by simp <;> omega, by simp, hm⟩
theorem root_min {l : List Work} (hh : heapF l 0) : ∀ i, i < l.length → kw l 0 ≤ kw l i := by
  intro i
  induction i using Nat.strongRecOn with
  | ind i ih =>
    intro hi
    rcases Nat.eq_zero_or_pos i with rfl | h0
    · exact Int.le_refl _
    · have := hh i h0 hi (by omega)
      have := ih ((i - 1) / 2) (by omega) (by omega)
      omega
theorem iPop {l : List Work} (hg : ∀ x ∈ l, goodW x) (h40 : l.length ≤ 40) (h : 1 ≤ l.length) : impl_pop l = some (popF l) ∧ spec_l3Pop l = some (popF l) := by
  have hl : l.length - 1 < l.length := by omega
  have h0 : 0 < l.length := by omega
  have hgp : ∀ x ∈ popL l, goodW x := fun x hx => hg x (popL_mem h x hx)
  have hlen := popL_len l
  have e0 : idx l 0 = some (l.getD 0 ⟨0, 0, 0⟩) := by
    rw [getD_at h0]; exact idx_lt h0
  have e1 : idx l ((l.length : Int) - 1) = some (l.getD (l.length - 1) ⟨0, 0, 0⟩) := by
    rw [getD_at hl, show (l.length : Int) - 1 = ((l.length - 1 : Nat) : Int) by omega]; exact idx_lt hl
  have e2 : slc (l.set 0 (l.getD (l.length - 1) ⟨0, 0, 0⟩)) 0 ((l.length : Int) - 1) = some (popL l) := by
    rw [slc_in (by omega) (by omega) (by rw [List.length_set]; omega)]
    simp only [Int.toNat_zero, List.drop_zero]
    rw [show ((l.length : Int) - 1).toNat - 0 = l.length - 1 by omega]; rfl
  constructor
  · unfold impl_pop
    rw [w64 (by omega), e0, e1]
    simp only [Option.bind_some, Int.toNat_zero]
    rw [e2]
    simp only [Option.bind_some]
    have := iDown hgp (by omega) (k := 0) (by omega)
    rw [show ((0 : Nat) : Int) = 0 from rfl] at this
    rw [this]; rfl
  · unfold spec_l3Pop
    rw [app24g (by simp <;> omega)]
    simp only [List.nil_append, Option.bind_some, Int.toNat_zero, List.length_set]
    rw [w64 (by omega), e0, e1]
    simp only [Option.bind_some]
    rw [e2]
    simp only [Option.bind_some]
    by_cases h1 : 0 < (popL l).length
    · rw [dec_t (by omega)]
      have := sDown hgp (by omega) (k := 0) h1
      rw [show ((0 : Nat) : Int) = 0 from rfl] at this
      rw [this]; rfl
    · rw [dec_f (by omega)]
      have e : popL l = [] := List.eq_nil_of_length_eq_zero (by omega)
      unfold popF
      rw [e]; rfl

/-! making -/
def madeF : Nat → List Work → Nat → List Work × Nat
  | 0, l, s => (l, s)
  | k + 1, l, s => madeF k (dnF l k).1 (s + (dnF l k).2)
def htSum (n : Nat) : Nat → Nat
  | 0 => 0
  | k + 1 => htSum n k + ht n n k
theorem made_ok : ∀ (k : Nat) (l : List Work) (s : Nat), k ≤ l.length → heapF l k → heapF (madeF k l s).1 0 ∧ (madeF k l s).1.length = l.length ∧ (∀ x ∈ (madeF k l s).1, x ∈ l) ∧ (∀ x, manyW (madeF k l s).1 x = manyW l x) ∧ (madeF k l s).2 ≤ s + htSum l.length k := by
  intro k
  induction k with
  | zero => intro l s _ hh; exact ⟨hh, rfl, fun x hx => hx, fun _ => rfl, by simp [madeF, htSum]⟩
  | succ k ih =>
    intro l s hk hh
    obtain ⟨d1, d2, d3, d4, d5⟩ := dn_ok (l := l) (j := k) (k := k) (by omega) (Nat.le_refl _) (fun i i1 i2 i3 i4 => hh i i1 i2 (by omega)) (fun i i1 i2 i3 i4 i5 => by omega)
    obtain ⟨r1, r2, r3, r4, r5⟩ := ih (dnF l k).1 (s + (dnF l k).2) (by omega) d1
    simp only [madeF, htSum]
    rw [d2] at r5
    exact ⟨r1, by omega, fun x hx => d3 x (r3 x hx), fun x => by rw [r4, d4], by omega⟩
theorem ht_bound : ((List.range 41).all fun n => n == 0 || decide (htSum n (n / 2) < n)) = true := by decide +kernel
theorem made_go : ∀ (k : Nat) (l : List Work) (s : Nat), (∀ x ∈ l, goodW x) → l.length ≤ 40 → 2 * k ≤ l.length → s + 40 * k ≤ 100000 → heapF l k →
    whl impl_made_l0 (l, (s : Int), (k : Int) - 1) = some ((madeF k l s).1, ((madeF k l s).2 : Int)) ∧ whl spec_l3Make_l0 (l, (s : Int), (k : Int) - 1) = some ((madeF k l s).1, ((madeF k l s).2 : Int)) := by
  intro k
  induction k with
  | zero =>
    intro l s hg h40 hk hs hh
    constructor
    · rw [whl_eq]
      simp only [impl_made_l0]
      rw [dec_f (by omega)]; rfl
    · rw [whl_eq]
      simp only [spec_l3Make_l0]
      rw [dec_f (by omega)]; rfl
  | succ k ih =>
    intro l s hg h40 hk hs hh
    obtain ⟨d1, d2, d3, d4, d5⟩ := dn_ok (l := l) (j := k) (k := k) (by omega) (Nat.le_refl _) (fun i i1 i2 i3 i4 => hh i i1 i2 (by omega)) (fun i i1 i2 i3 i4 i5 => by omega)
    have hle : ∀ (f i : Nat), ht l.length f i ≤ f := by
      intro f
      induction f with
      | zero => intro i; exact Nat.le_refl _
      | succ f ih =>
        intro i
        have := ih (2 * i + 1)
        simp only [ht]
        split <;> omega
    have hst := hle l.length k
    obtain ⟨i1, i2⟩ := ih (dnF l k).1 (s + (dnF l k).2) (fun x hx => hg x (d3 x hx)) (by omega) (by omega) (by omega) d1
    rw [show ((k + 1 : Nat) : Int) - 1 = (k : Int) by omega]
    rw [show ((s + (dnF l k).2 : Nat) : Int) = (s : Int) + ((dnF l k).2 : Int) by omega] at i1 i2
    constructor
    · rw [whl_eq]
      simp only [impl_made_l0, madeF]
      rw [dec_t (by omega), iDown hg h40 (by omega)]
      simp only [cond_true, Option.bind_some]
      rw [w64 (by omega), w64 (by omega)]
      exact i1
    · rw [whl_eq]
      simp only [spec_l3Make_l0, madeF]
      rw [dec_t (by omega), sDown hg h40 (by omega)]
      simp only [cond_true, Option.bind_some]
      rw [w64 (by omega), w64 (by omega)]
      exact i2
def mkF (l : List Work) : List Work × Nat := madeF (l.length / 2) l 0
theorem heap_half (l : List Work) : heapF l (l.length / 2) := fun i h1 h2 h3 => by omega
theorem mk_ok {l : List Work} (h40 : l.length ≤ 40) : heapF (mkF l).1 0 ∧ (mkF l).1.length = l.length ∧ (∀ x ∈ (mkF l).1, x ∈ l) ∧ (∀ x, manyW (mkF l).1 x = manyW l x) ∧ ((mkF l).2 ≤ l.length ∧ (1 ≤ l.length → (mkF l).2 < l.length)) := by
  obtain ⟨r1, r2, r3, r4, r5⟩ := made_ok (l.length / 2) l 0 (by omega) (heap_half l)
  have hb := List.all_eq_true.1 ht_bound l.length (List.mem_range.2 (by omega))
  simp only [Bool.or_eq_true, beq_iff_eq, decide_eq_true_eq] at hb
  refine ⟨r1, r2, r3, r4, ?_⟩
  have e : (mkF l).2 = (madeF (l.length / 2) l 0).2 := rfl
  rcases hb with h0 | h0
  · rw [h0] at r5
    have : htSum 0 (0 / 2) = 0 := rfl
    rw [e, h0]
    omega
  · rw [e]; omega
theorem iMade {l : List Work} (hg : ∀ x ∈ l, goodW x) (h40 : l.length ≤ 40) : impl_made l = some ((mkF l).1, ((mkF l).2 : Int)) ∧ spec_l3Make l = some ((mkF l).1, ((mkF l).2 : Int)) := by
  obtain ⟨i1, i2⟩ := made_go (l.length / 2) l 0 hg h40 (by omega) (by omega) (heap_half l)
  unfold impl_made spec_l3Make
  rw [cloneW (by omega), app24g (by simp <;> omega)]
  simp only [List.nil_append, Option.bind_some]
  rw [Int.tdiv_eq_ediv_of_nonneg (by omega), w64 (x := (l.length : Int) / 2) (by omega), w64 (by omega), show (l.length : Int) / 2 = ((l.length / 2 : Nat) : Int) by omega]
  rw [show ((0 : Nat) : Int) = 0 from rfl] at i1 i2
  rw [i1, i2]
  exact ⟨rfl, rfl⟩

/-! removing -/
def remF (l : List Work) (k : Nat) : List Work :=
  let m := (l.set k (l.getD (l.length - 1) ⟨0, 0, 0⟩)).take (l.length - 1)
  if k < l.length - 1 then (if (siF m k).2.2 = 0 then (dnF (siF m k).1 k).1 else (siF m k).1) else m
theorem rem_many {l : List Work} {k : Nat} (hk : k < l.length) (x : Work) : manyW ((l.set k (l.getD (l.length - 1) ⟨0, 0, 0⟩)).take (l.length - 1)) x + (if eqW x l[k] then 1 else 0) = manyW l x := by
  have hl : l.length - 1 < l.length := by omega
  rw [getD_at hl]
  have h1 := many_setW hk l[l.length - 1] x
  have h2 : l.set k l[l.length - 1] = (l.set k l[l.length - 1]).take (l.length - 1) ++ [l[l.length - 1]] := by
    have e := List.take_append_drop (l.length - 1) (l.set k l[l.length - 1])
    have hd : (l.set k l[l.length - 1]).drop (l.length - 1) = [l[l.length - 1]] := by
      have hll : l.length - 1 < (l.set k l[l.length - 1]).length := by simpa using hl
      rw [List.drop_eq_getElem_cons hll, List.getElem_set, List.drop_eq_nil_of_le (by simp <;> omega)]
      split <;> rfl
    rw [hd] at e
    exact e.symm
  rw [h2, many_app, many_one] at h1
  omega
theorem rem_ok {l : List Work} {k : Nat} (hh : heapF l 0) (hk : k < l.length) : heapF (remF l k) 0 ∧ (remF l k).length = l.length - 1 ∧ (∀ x ∈ remF l k, x ∈ l) ∧ ∀ x, manyW (remF l k) x + (if eqW x l[k] then 1 else 0) = manyW l x := by
  have hm := rem_many hk
  have hl : l.length - 1 < l.length := by omega
  have hmem : ∀ x ∈ (l.set k (l.getD (l.length - 1) ⟨0, 0, 0⟩)).take (l.length - 1), x ∈ l := by
    intro x hx
    have hx := List.mem_of_mem_take hx
    rcases List.mem_or_eq_of_mem_set hx with h' | rfl
    · exact h'
    · rw [getD_at hl]; exact List.getElem_mem _
  have hkw : ∀ i, i < l.length - 1 → i ≠ k → kw ((l.set k (l.getD (l.length - 1) ⟨0, 0, 0⟩)).take (l.length - 1)) i = kw l i := by
    intro i h1 h2
    unfold kw
    rw [List.getD_eq_getElem?_getD, List.getD_eq_getElem?_getD, List.getElem?_take, if_pos h1, List.getElem?_set, if_neg (by omega), List.getD_eq_getElem?_getD]
  have hlen : ((l.set k (l.getD (l.length - 1) ⟨0, 0, 0⟩)).take (l.length - 1)).length = l.length - 1 := by simp
  unfold remF
  dsimp only
  generalize (l.set k (l.getD (l.length - 1) ⟨0, 0, 0⟩)).take (l.length - 1) = m at hm hmem hkw hlen ⊢
  by_cases hk2 : k < l.length - 1
  · rw [if_pos hk2]
    by_cases hc : 0 < k ∧ kw m k < kw m ((k - 1) / 2)
    · -- it goes up
      have hu := up_ok (k + 1) m k 0 (by omega) (by omega) (by
        intro i i1 i2 i3
        by_cases e : (i - 1) / 2 = k
        · have a1 := hh i i1 (by omega) (by omega)
          have a2 := hh k hc.1 hk (by omega)
          rw [hkw i (by omega) i3, e]
          rw [hkw ((k - 1) / 2) (by omega) (by omega)] at hc
          rw [e] at a1
          omega
        · rw [hkw _ (by omega) e, hkw i (by omega) i3]
          exact hh i i1 (by omega) (by omega)) (by
        intro i i1 i2 i3 i4
        have a1 := hh i i1 (by omega) (by omega)
        have a2 := hh k hc.1 hk (by omega)
        rw [hkw ((k - 1) / 2) (by omega) (by omega), hkw i (by omega) (by omega)]
        rw [i3] at a1
        omega)
      have hs : (siF m k).2.2 ≠ 0 := by
        intro h0
        have := (siftF_still (f := k + 1) (l := m) (k := k) (s := 0)).2 h0
        simp only [siftF] at this
        rw [if_pos hc] at this
        have hle : ∀ (f : Nat) (l : List Work) (k s : Nat), (siftF f l k s).2.1 ≤ k := by
          intro f
          induction f with
          | zero => intro l k s; exact Nat.le_refl _
          | succ f ih =>
            intro l k s
            simp only [siftF]
            split
            · have := ih (swapL l k ((k - 1) / 2)) ((k - 1) / 2) (s + 1); omega
            · exact Nat.le_refl _
        have := hle k (swapL m k ((k - 1) / 2)) ((k - 1) / 2) (0 + 1)
        omega
      rw [if_neg hs]
      exact ⟨hu.1, by rw [show (siF m k).1.length = m.length from hu.2.1, hlen], fun x hx => hmem x (hu.2.2.1 x hx), fun x => by rw [show manyW (siF m k).1 x = manyW m x from hu.2.2.2 x]; exact hm x⟩
    · have hs : siF m k = (m, k, 0) := by
        unfold siF
        simp only [siftF]
        rw [if_neg hc]
      rw [hs]
      simp only [if_true]
      have hd := dn_ok (l := m) (j := 0) (k := k) (by omega) (Nat.zero_le _) (by
        intro i i1 i2 i3 i4
        by_cases e : i = k
        · subst e; omega
        · rw [hkw _ (by omega) i4, hkw i (by omega) e]
          exact hh i i1 (by omega) (by omega)) (by
        intro i i1 i2 i3 i4 i5
        have a1 := hh i i1 (by omega) (by omega)
        have a2 := hh k (by omega) hk (by omega)
        rw [hkw ((k - 1) / 2) (by omega) (by omega), hkw i (by omega) (by omega)]
        rw [i3] at a1
        omega)
      exact ⟨hd.1, by omega, fun x hx => hmem x (hd.2.2.1 x hx), fun x => by rw [hd.2.2.2.1]; exact hm x⟩
  · rw [if_neg hk2]
    refine ⟨?_, hlen, hmem, hm⟩
    intro i i1 i2 i3
    rw [hkw _ (by omega) (by omega), hkw i (by omega) (by omega)]
    exact hh i i1 (by omega) (by omega)

/-! sorting -/
def sortF : Nat → List Work → List Work → List Work
  | 0, _, out => out
  | f + 1, h, out => if h.length = 0 then out else sortF f (popF h).1 (out ++ [(popF h).2])
def upW (l : List Work) : Prop := ∀ i, 1 ≤ i → i < l.length → kw l (i - 1) ≤ kw l i
theorem kw_mem {l : List Work} {B : Int} (h : ∀ x ∈ l, B ≤ key x) {i : Nat} (hi : i < l.length) : B ≤ kw l i := by
  rw [kw_at hi]; exact h _ (List.getElem_mem hi)
theorem sort_ok : ∀ (f : Nat) (h out : List Work), h.length ≤ f → heapF h 0 → upW out → (∀ x ∈ out, ∀ y ∈ h, key x ≤ key y) →
    upW (sortF f h out) ∧ (sortF f h out).length = out.length + h.length ∧ (∀ x ∈ sortF f h out, x ∈ out ∨ x ∈ h) ∧ ∀ x, manyW (sortF f h out) x = manyW out x + manyW h x := by
  intro f
  induction f with
  | zero =>
    intro h out hf hh hu hle
    have : h = [] := List.eq_nil_of_length_eq_zero (by omega)
    subst this
    exact ⟨hu, by simp [sortF], fun x hx => .inl hx, fun x => by simp [sortF, manyW, sumL]⟩
  | succ f ih =>
    intro h out hf hh hu hle
    simp only [sortF]
    by_cases h0 : h.length = 0
    · have : h = [] := List.eq_nil_of_length_eq_zero h0
      subst this
      rw [if_pos (show ([] : List Work).length = 0 from rfl)]
      exact ⟨hu, by simp, fun x hx => .inl hx, fun x => by simp [manyW, sumL]⟩
    · rw [if_neg h0]
      obtain ⟨p1, p2, p3, p4⟩ := pop_ok hh (by omega)
      have hmin : ∀ y ∈ h, key (popF h).2 ≤ key y := by
        intro y hy
        obtain ⟨i, hi, rfl⟩ := List.getElem_of_mem hy
        have := root_min hh i hi
        rw [kw_at hi] at this
        exact this
      have hroot : (popF h).2 ∈ h := by
        unfold popF
        dsimp only
        rw [getD_at (by omega)]; exact List.getElem_mem _
      obtain ⟨r1, r2, r3, r4⟩ := ih (popF h).1 (out ++ [(popF h).2]) (by omega) p1 (by
        intro i i1 i2
        simp only [List.length_append, List.length_singleton] at i2
        have hkl : ∀ m, m < out.length → kw (out ++ [(popF h).2]) m = kw out m := fun m hm => by
          unfold kw
          rw [List.getD_eq_getElem?_getD, List.getD_eq_getElem?_getD, List.getElem?_append_left hm]
        by_cases e : i = out.length
        · subst e
          rw [hkl _ (by omega)]
          have e2 : kw (out ++ [(popF h).2]) out.length = key (popF h).2 := by
            unfold kw
            rw [List.getD_eq_getElem?_getD, List.getElem?_append_right (Nat.le_refl _)]
            simp
          rw [e2, kw_at (by omega)]
          exact hle _ (List.getElem_mem _) _ hroot
        · rw [hkl _ (by omega), hkl _ (by omega)]
          exact hu i i1 (by omega)) (by
        intro x hx y hy
        simp only [List.mem_append, List.mem_singleton] at hx
        rcases hx with hx | rfl
        · exact hle x hx y (p3 y hy)
        · exact hmin y (p3 y hy))
      refine ⟨r1, by rw [r2, p2]; simp; omega, ?_, ?_⟩
      · intro x hx
        rcases r3 x hx with h | h
        · simp only [List.mem_append, List.mem_singleton] at h
          rcases h with h | rfl
          · exact .inl h
          · exact .inr hroot
        · exact .inr (p3 x h)
      · intro x
        rw [r4, many_app, many_one]
        have := p4 x
        omega
theorem sort_go : ∀ (f : Nat) (h out : List Work), (∀ x ∈ h, goodW x) → h.length ≤ 40 → h.length ≤ f → heapF h 0 → out.length + h.length ≤ 100 →
    whl impl_SortWork_l0 (out, h) = some (sortF f h out) ∧ whl spec_SortWork_l0 (h, out) = some (sortF f h out) := by
  intro f
  induction f with
  | zero =>
    intro h out hg h40 hf hh hs
    constructor
    · rw [whl_eq]
      simp only [impl_SortWork_l0]
      rw [dec_f (by omega)]; rfl
    · rw [whl_eq]
      simp only [spec_SortWork_l0]
      rw [dec_f (by omega)]; rfl
  | succ f ih =>
    intro h out hg h40 hf hh hs
    simp only [sortF]
    by_cases h0 : h.length = 0
    · rw [if_pos h0]
      constructor
      · rw [whl_eq]
        simp only [impl_SortWork_l0]
        rw [dec_f (by omega)]; rfl
      · rw [whl_eq]
        simp only [spec_SortWork_l0]
        rw [dec_f (by omega)]; rfl
    · rw [if_neg h0]
      obtain ⟨p1, p2, p3, _⟩ := pop_ok hh (by omega)
      obtain ⟨q1, q2⟩ := iPop hg h40 (by omega)
      obtain ⟨i1, i2⟩ := ih (popF h).1 (out ++ [(popF h).2]) (fun x hx => hg x (p3 x hx)) (by omega) (by omega) p1 (by rw [p2]; simp; omega)
      constructor
      · rw [whl_eq]
        simp only [impl_SortWork_l0]
        rw [dec_t (by omega), q1]
        simp only [cond_true, Option.bind_some]
        rw [app24g (by simp <;> omega)]
        exact i1
      · rw [whl_eq]
        simp only [spec_SortWork_l0]
        rw [dec_t (by omega), q2]
        simp only [cond_true, Option.bind_some]
        rw [app24g (by simp <;> omega)]
        exact i2
end Go.VxW
