/-
  Heaps: what the code computes, and that it keeps heaps.
-/
import Derived.Test.YtdgiianbihfkoaaVpaS
open Go Go.VS
namespace Go.VxW

theorem ixf_impl_Work {l : List Work} (hl : l.length < 2 ^ 60) {g : Work → Option Bool} (p : Work → Bool) (hg : ∀ x ∈ l, g x = some (p x)) : slices_IndexFunc_impl_Work l g = some (ixF p l) := by
  unfold slices_IndexFunc_impl_Work
  rw [ixf_go p (f := slices_IndexFunc_impl_Work_l0 l g) (fun _ => rfl) hl hg]
  have := ixF_ge p l
  by_cases h : ixF p l < 0
  · rw [if_pos h]; simp; omega
  · rw [if_neg h]; rfl
theorem cf_impl_Work {l : List Work} (hl : l.length < 2 ^ 60) {g : Work → Option Bool} (p : Work → Bool) (hg : ∀ x ∈ l, g x = some (p x)) : slices_ContainsFunc_impl_Work l g = some (l.any p) := by
  unfold slices_ContainsFunc_impl_Work
  rw [ixf_impl_Work hl p hg, Option.bind_some, ixF_any]
def wkB (x : Work) : Bool := inB x.End 0 1000000 && (inB x.Rank 0 1000000 && inB x.Id 0 1000000)
def wksB (l : List Work) : Bool := decide (l.length ≤ 40) && l.all wkB
def goodW (x : Work) : Prop := (0 ≤ x.End ∧ x.End ≤ 1000000) ∧ (0 ≤ x.Rank ∧ x.Rank ≤ 1000000) ∧ 0 ≤ x.Id ∧ x.Id ≤ 1000000
theorem iWk (x : Work) : impl_isWork x = some (wkB x) := by
  unfold impl_isWork wkB
  simp only [iIn, Option.bind_some]
  cases inB x.End 0 1000000 <;> cases inB x.Rank 0 1000000 <;> rfl
theorem sWk (x : Work) : spec_l3Work x = some (wkB x) := by
  unfold spec_l3Work wkB
  simp only [sIn, Option.bind_some]
  cases inB x.End 0 1000000 <;> cases inB x.Rank 0 1000000 <;> rfl
theorem wkB_iff {x : Work} : wkB x = true ↔ goodW x := by
  unfold wkB goodW
  simp only [Bool.and_eq_true, inB_iff]
theorem iWks {l : List Work} (hl : l.length ≤ 1048576) : impl_areWork l = some (wksB l) := by
  unfold impl_areWork wksB
  rw [cf_impl_Work (by omega) (fun w => !wkB w) (fun w _ => by
    unfold impl_areWork_1
    rw [iWk]; rfl)]
  have : (!l.any fun w => !wkB w) = l.all wkB := by simp [List.all_eq_not_any_not]
  simp only [Option.bind_some, this]
  by_cases h : l.length ≤ 40
  · rw [dec_t (by omega), dec_t h]; rfl
  · rw [dec_f (by omega), dec_f h]; rfl
theorem sWks {l : List Work} (hl : l.length ≤ 1048576) : spec_l3Good l = some (wksB l) := by
  unfold spec_l3Good wksB
  rw [whl_lg l (spec_l3Good_l0 l) (fun k (_ : Unit) => k) (fun _ x s => if wkB x then .next s else .done (.done false)) (fun _ => .next ()) (fun k hk s => by
    simp only [spec_l3Good_l0]
    rw [dec_t (by omega), idx_lt hk, w64 (by omega)]
    simp only [cond_true, Option.bind_some, sWk]
    by_cases h1 : wkB l[k] = true <;> simp [h1, LR.mapN]) (fun s => by simp [spec_l3Good_l0]) (), lgo_all _ _ (fun _ _ _ => rfl)]
  have : decide ((l.length : Int) ≤ 40) = decide (l.length ≤ 40) := by
    by_cases h : l.length ≤ 40
    · rw [dec_t (by omega), dec_t h]
    · rw [dec_f (by omega), dec_f h]
  cases l.all wkB <;> simp [this]
theorem wksB_iff {l : List Work} (h : wksB l = true) : l.length ≤ 40 ∧ ∀ x ∈ l, goodW x := by
  unfold wksB at h
  simp only [Bool.and_eq_true, decide_eq_true_eq, List.all_eq_true] at h
  exact ⟨h.1, fun x hx => wkB_iff.1 (h.2 x hx)⟩
theorem wksB_of {l : List Work} (h : l.length ≤ 40) (hg : ∀ x ∈ l, goodW x) : wksB l = true := by
  unfold wksB
  rw [dec_t h, List.all_eq_true.2 (fun x hx => wkB_iff.2 (hg x hx))]; rfl

/-! the order -/
def key (x : Work) : Int := x.End * 4000012000009 + x.Rank * 2000003 + x.Id
theorem key_inj {x y : Work} (hx : goodW x) (hy : goodW y) (h : key x = key y) : x = y := by
  obtain ⟨a, b, c⟩ := x
  obtain ⟨d, e, f⟩ := y
  unfold goodW at hx hy
  unfold key at h
  dsimp only at hx hy h
  have h1 : a = d := by omega
  have h2 : b = e := by omega
  have h3 : c = f := by omega
  rw [h1, h2, h3]
def cmpW (x y : Work) : Int := if x.End ≠ y.End then x.End - y.End else if x.Rank ≠ y.Rank then x.Rank - y.Rank else x.Id - y.Id
theorem cmpW_key {x y : Work} (hx : goodW x) (hy : goodW y) : cmpW x y < 0 ↔ key x < key y := by
  unfold goodW at hx hy
  unfold cmpW key
  (repeat' split) <;> omega
theorem iCmp {x y : Work} (hx : goodW x) (hy : goodW y) : impl_compareWork x y = some (cmpW x y) := by
  unfold goodW at hx hy
  unfold impl_compareWork cmp_Or_int
  rw [w64 (x := x.End - y.End) (by omega), w64 (x := x.Rank - y.Rank) (by omega), w64 (x := x.Id - y.Id) (by omega)]
  have step : ∀ (k : Nat) (v : Int), ([x.End - y.End, x.Rank - y.Rank, x.Id - y.Id] : List Int)[k]? = some v → k < 3 → whl (cmp_Or_int_l0 [x.End - y.End, x.Rank - y.Rank, x.Id - y.Id]) (k : Int) = if v ≠ 0 then some (.done v) else whl (cmp_Or_int_l0 [x.End - y.End, x.Rank - y.Rank, x.Id - y.Id]) ((k + 1 : Nat) : Int) := by
    intro k v hv hk
    rw [whl_eq]
    simp only [cmp_Or_int_l0]
    have hl : k < ([x.End - y.End, x.Rank - y.Rank, x.Id - y.Id] : List Int).length := by simpa using hk
    rw [dec_t (by simp <;> omega), idx_lt hl, w64 (by omega)]
    rw [List.getElem?_eq_getElem hl] at hv
    simp only [Option.some.injEq] at hv
    rw [hv]
    simp only [cond_true, Option.bind_some]
    by_cases h0 : v = 0
    · subst h0; simp
    · rw [show (v != 0) = true by simpa using h0, if_pos h0]; rfl
  have h0 := step 0 _ rfl (by omega)
  have h1 := step 1 _ rfl (by omega)
  have h2 := step 2 _ rfl (by omega)
  rw [show ((0 : Nat) : Int) = 0 from rfl] at h0
  have h3 : whl (cmp_Or_int_l0 [x.End - y.End, x.Rank - y.Rank, x.Id - y.Id]) ((2 + 1 : Nat) : Int) = some (.next ()) := by
    rw [whl_eq]; rfl
  rw [h0, h1, h2, h3]
  unfold cmpW
  by_cases a : x.End = y.End
  · rw [if_neg (show ¬ (x.End - y.End ≠ 0) by omega), if_neg (show ¬ (x.End ≠ y.End) by omega)]
    by_cases b : x.Rank = y.Rank
    · rw [if_neg (show ¬ (x.Rank - y.Rank ≠ 0) by omega), if_neg (show ¬ (x.Rank ≠ y.Rank) by omega)]
      by_cases c : x.Id - y.Id ≠ 0
      · rw [if_pos c]; rfl
      · rw [if_neg c, show x.Id - y.Id = 0 by omega]; rfl
    · rw [if_pos (show x.Rank - y.Rank ≠ 0 by omega), if_pos (show x.Rank ≠ y.Rank by omega)]; rfl
  · rw [if_pos (show x.End - y.End ≠ 0 by omega), if_pos (show x.End ≠ y.End by omega)]; rfl
def ltB (x y : Work) : Bool := decide (key x < key y)
theorem sLess {x y : Work} (hx : goodW x) (hy : goodW y) : spec_l3Less x y = some (ltB x y) := by
  unfold goodW at hx hy
  unfold spec_l3Less ltB key
  by_cases a : x.End = y.End
  · rw [show (x.End != y.End) = false by simp [a]]
    by_cases b : x.Rank = y.Rank
    · rw [show (x.Rank != y.Rank) = false by simp [b]]
      simp only [cond_false, Option.some.injEq]
      rw [decide_eq_decide]; omega
    · rw [show (x.Rank != y.Rank) = true by simp [b]]
      simp only [cond_false, cond_true, Option.some.injEq]
      rw [decide_eq_decide]; omega
  · rw [show (x.End != y.End) = true by simp [a]]
    simp only [cond_true, Option.some.injEq]
    rw [decide_eq_decide]; omega
theorem iLt {x y : Work} (hx : goodW x) (hy : goodW y) : decide (cmpW x y < 0) = ltB x y := by
  unfold ltB
  rw [decide_eq_decide]
  exact cmpW_key hx hy
def lessF (x y : Work) : Bool × Bool := if wkB x && wkB y then (ltB x y, true) else (false, false)
theorem iLessA (x y : Work) : impl_LessWork x y = some (lessF x y) := by
  unfold impl_LessWork lessF
  rw [iWk, iWk]
  cases hx : wkB x
  · rfl
  cases hy : wkB y
  · rfl
  have gx := wkB_iff.1 hx
  have gy := wkB_iff.1 hy
  simp only [Option.bind_some, Bool.not_true, cond_false, iCmp gx gy, iLt gx gy]
  rfl
theorem sLessA (x y : Work) : spec_LessWork x y = some (lessF x y) := by
  unfold spec_LessWork lessF
  rw [sWk, sWk]
  cases hx : wkB x
  · rfl
  cases hy : wkB y
  · rfl
  have gx := wkB_iff.1 hx
  have gy := wkB_iff.1 hy
  simp only [Option.bind_some, Bool.not_true, cond_false, sLess gx gy]
  rfl

/-! keys at places -/
def kw (l : List Work) (i : Nat) : Int := key (l.getD i ⟨0, 0, 0⟩)
theorem kw_at {l : List Work} {i : Nat} (h : i < l.length) : kw l i = key l[i] := by
  unfold kw
  rw [List.getD_eq_getElem?_getD, List.getElem?_eq_getElem h]; rfl
def swapL (l : List Work) (i j : Nat) : List Work := (l.set i (l.getD j ⟨0, 0, 0⟩)).set j (l.getD i ⟨0, 0, 0⟩)
theorem swap_len (l : List Work) (i j : Nat) : (swapL l i j).length = l.length := by simp [swapL]
theorem getD_at {l : List Work} {i : Nat} (h : i < l.length) : l.getD i ⟨0, 0, 0⟩ = l[i] := by
  rw [List.getD_eq_getElem?_getD, List.getElem?_eq_getElem h]; rfl
theorem kw_swap {l : List Work} {i j : Nat} (hi : i < l.length) (hj : j < l.length) (m : Nat) : kw (swapL l i j) m = if m = j then kw l i else if m = i then kw l j else kw l m := by
  unfold kw swapL
  rw [List.getD_eq_getElem?_getD, List.getElem?_set, List.getElem?_set]
  simp only [List.length_set]
  by_cases h1 : m = j
  · subst h1
    rw [if_pos rfl, if_pos hj, if_pos rfl]; rfl
  · rw [if_neg (show ¬ j = m by omega), if_neg h1]
    by_cases h2 : m = i
    · subst h2
      rw [if_pos rfl, if_pos hi, if_pos rfl]; rfl
    · rw [if_neg (show ¬ i = m by omega), if_neg h2, ← List.getD_eq_getElem?_getD]
theorem swap_mem {l : List Work} {i j : Nat} (hi : i < l.length) (hj : j < l.length) : ∀ x ∈ swapL l i j, x ∈ l := by
  intro x hx
  unfold swapL at hx
  rw [getD_at hi, getD_at hj] at hx
  rcases List.mem_or_eq_of_mem_set hx with h | rfl
  · rcases List.mem_or_eq_of_mem_set h with h | rfl
    · exact h
    · exact List.getElem_mem hj
  · exact List.getElem_mem hi
def eqW (x y : Work) : Bool := (x.End == y.End) && ((x.Rank == y.Rank) && ((x.Id == y.Id) && true))
def manyW (l : List Work) (x : Work) : Int := sumL (l.map fun y => if eqW x y then 1 else 0)
theorem many_setW {l : List Work} {k : Nat} (h : k < l.length) (v x : Work) : manyW (l.set k v) x = manyW l x - (if eqW x l[k] then 1 else 0) + (if eqW x v then 1 else 0) := by
  unfold manyW
  rw [List.map_set, sum_set _ _ _ (by simpa using h)]
  simp
theorem many_swap {l : List Work} {i j : Nat} (hi : i < l.length) (hj : j < l.length) (hij : i ≠ j) (x : Work) : manyW (swapL l i j) x = manyW l x := by
  unfold swapL
  rw [getD_at hi, getD_at hj, many_setW (by simpa using hj), many_setW hi, List.getElem_set_ne (by omega)]
  omega
/-- The heap below a place. -/
def heapF (l : List Work) (j : Nat) : Prop := ∀ i, 1 ≤ i → i < l.length → j ≤ (i - 1) / 2 → kw l ((i - 1) / 2) ≤ kw l i
def nextB (l : List Work) (k : Nat) : Nat :=
  let b := if 2 * k + 1 < l.length ∧ kw l (2 * k + 1) < kw l k then 2 * k + 1 else k
  if 2 * k + 2 < l.length ∧ kw l (2 * k + 2) < kw l b then 2 * k + 2 else b
theorem nextB_ok (l : List Work) (k : Nat) : (nextB l k = k ∧ (2 * k + 1 < l.length → kw l k ≤ kw l (2 * k + 1)) ∧ (2 * k + 2 < l.length → kw l k ≤ kw l (2 * k + 2))) ∨
    ((nextB l k = 2 * k + 1 ∨ nextB l k = 2 * k + 2) ∧ nextB l k < l.length ∧ kw l (nextB l k) < kw l k ∧ (2 * k + 1 < l.length → kw l (nextB l k) ≤ kw l (2 * k + 1)) ∧ (2 * k + 2 < l.length → kw l (nextB l k) ≤ kw l (2 * k + 2))) := by
  unfold nextB
  dsimp only
  by_cases h1 : 2 * k + 1 < l.length ∧ kw l (2 * k + 1) < kw l k
  · rw [if_pos h1]
    by_cases h2 : 2 * k + 2 < l.length ∧ kw l (2 * k + 2) < kw l (2 * k + 1)
    · rw [if_pos h2]; exact .inr ⟨.inr rfl, h2.1, by omega, fun _ => by omega, fun _ => Int.le_refl _⟩
    · rw [if_neg h2]; exact .inr ⟨.inl rfl, h1.1, h1.2, fun _ => Int.le_refl _, fun _ => by omega⟩
  · rw [if_neg h1]
    by_cases h2 : 2 * k + 2 < l.length ∧ kw l (2 * k + 2) < kw l k
    · rw [if_pos h2]; exact .inr ⟨.inr rfl, h2.1, h2.2, fun _ => by omega, fun _ => Int.le_refl _⟩
    · rw [if_neg h2]; exact .inl ⟨rfl, fun _ => by omega, fun _ => by omega⟩
def downF : Nat → List Work → Nat → Nat → List Work × Nat
  | 0, l, _, s => (l, s)
  | f + 1, l, k, s => if nextB l k = k then (l, s) else downF f (swapL l k (nextB l k)) (nextB l k) (s + 1)
def ht (n : Nat) : Nat → Nat → Nat
  | 0, _ => 0
  | f + 1, k => if 2 * k + 1 < n then 1 + ht n f (2 * k + 1) else 0
theorem ht_anti (n : Nat) : ∀ (f a b : Nat), a ≤ b → ht n f b ≤ ht n f a
  | 0, _, _, _ => Nat.le_refl _
  | f + 1, a, b, h => by
    have := ht_anti n f (2 * a + 1) (2 * b + 1) (by omega)
    simp only [ht]
    (repeat' split) <;> omega
theorem ht_fuel (n : Nat) : ∀ (f k : Nat), ht n f k ≤ ht n (f + 1) k
  | 0, _ => Nat.zero_le _
  | f + 1, k => by
    have := ht_fuel n f (2 * k + 1)
    have e : ht n (f + 1 + 1) k = if 2 * k + 1 < n then 1 + ht n (f + 1) (2 * k + 1) else 0 := rfl
    have e' : ht n (f + 1) k = if 2 * k + 1 < n then 1 + ht n f (2 * k + 1) else 0 := rfl
    rw [e, e']
    split <;> omega
theorem down_ok {j : Nat} : ∀ (f : Nat) (l : List Work) (k s : Nat), l.length ≤ k + f → k < l.length → j ≤ k →
    (∀ i, 1 ≤ i → i < l.length → j ≤ (i - 1) / 2 → (i - 1) / 2 ≠ k → kw l ((i - 1) / 2) ≤ kw l i) →
    (∀ i, 1 ≤ i → i < l.length → (i - 1) / 2 = k → 1 ≤ k → j ≤ (k - 1) / 2 → kw l ((k - 1) / 2) ≤ kw l i) →
    heapF (downF f l k s).1 j ∧ (downF f l k s).1.length = l.length ∧ (∀ x ∈ (downF f l k s).1, x ∈ l) ∧ (∀ x, manyW (downF f l k s).1 x = manyW l x) ∧ (downF f l k s).2 ≤ s + ht l.length f k := by
  intro f
  induction f with
  | zero => intro l k s h1 h2; omega
  | succ f ih =>
    intro l k s h1 h2 h3 ha hb
    have hn := nextB_ok l k
    simp only [downF]
    generalize nextB l k = c at hn
    rcases hn with ⟨rfl, n1, n2⟩ | ⟨n0, n1, n2, n3, n4⟩
    · rw [if_pos rfl]
      refine ⟨?_, rfl, fun x hx => hx, fun _ => rfl, by omega⟩
      intro i i1 i2 i3
      by_cases hp : (i - 1) / 2 = c
      · rcases (show i = 2 * c + 1 ∨ i = 2 * c + 2 by omega) with rfl | rfl
        · rw [hp]; exact n1 i2
        · rw [hp]; exact n2 i2
      · exact ha i i1 i2 i3 hp
    · have hc : c ≠ k := by omega
      rw [if_neg hc]
      have hsw := kw_swap h2 n1
      have hlen := swap_len l k c
      obtain ⟨r1, r2, r3, r4, r5⟩ := ih (swapL l k c) c (s + 1) (by omega) (by omega) (by omega) (by
        intro i i1 i2 i3 i4
        rw [hlen] at i2
        rw [hsw, hsw, if_neg i4]
        by_cases e1 : i = c
        · subst e1
          rw [if_pos (by omega), if_pos rfl]; omega
        · rw [if_neg e1]
          by_cases e2 : (i - 1) / 2 = k
          · rw [if_pos e2, if_neg (by omega)]
            rcases (show i = 2 * k + 1 ∨ i = 2 * k + 2 by omega) with rfl | rfl
            · exact n3 i2
            · exact n4 i2
          · rw [if_neg e2]
            by_cases e3 : i = k
            · subst e3
              rw [if_pos rfl]
              exact hb c (by omega) n1 (by omega) i1 i3
            · rw [if_neg e3]
              exact ha i i1 i2 i3 e2) (by
        intro i i1 i2 i3 _ _
        rw [hlen] at i2
        rw [hsw, hsw, if_neg (by omega), if_pos (by omega), if_neg (by omega), if_neg (by omega)]
        have := ha i i1 i2 (by omega) (by omega)
        rw [i3] at this
        exact this)
      refine ⟨r1, by omega, fun x hx => swap_mem h2 n1 x (r3 x hx), fun x => by rw [r4, many_swap h2 n1 (by omega)], ?_⟩
      have h4 : ht l.length f c ≤ ht l.length f (2 * k + 1) := ht_anti _ _ _ _ (by omega)
      rw [hlen] at r5
      simp only [ht]
      rw [if_pos (by omega)]
      omega
def siftF : Nat → List Work → Nat → Nat → List Work × Nat × Nat
  | 0, l, k, s => (l, k, s)
  | f + 1, l, k, s => if 0 < k ∧ kw l k < kw l ((k - 1) / 2) then siftF f (swapL l k ((k - 1) / 2)) ((k - 1) / 2) (s + 1) else (l, k, s)
theorem up_ok : ∀ (f : Nat) (l : List Work) (k s : Nat), k < f → k < l.length →
    (∀ i, 1 ≤ i → i < l.length → i ≠ k → kw l ((i - 1) / 2) ≤ kw l i) →
    (∀ i, 1 ≤ i → i < l.length → (i - 1) / 2 = k → 1 ≤ k → kw l ((k - 1) / 2) ≤ kw l i) →
    heapF (siftF f l k s).1 0 ∧ (siftF f l k s).1.length = l.length ∧ (∀ x ∈ (siftF f l k s).1, x ∈ l) ∧ ∀ x, manyW (siftF f l k s).1 x = manyW l x := by
  intro f
  induction f with
  | zero => intro l k s h1; omega
  | succ f ih =>
    intro l k s h1 h2 ha hb
    simp only [siftF]
    by_cases hc : 0 < k ∧ kw l k < kw l ((k - 1) / 2)
    · rw [if_pos hc]
      obtain ⟨p, hp⟩ : ∃ p, p = (k - 1) / 2 := ⟨_, rfl⟩
      rw [← hp] at hc ⊢
      have hpl : p < l.length := by omega
      have hsw := kw_swap h2 hpl
      have hlen := swap_len l k p
      obtain ⟨r1, r2, r3, r4⟩ := ih (swapL l k p) p (s + 1) (by omega) (by omega) (by
        intro i i1 i2 i3
        rw [hlen] at i2
        rw [hsw, hsw, if_neg i3]
        by_cases e1 : i = k
        · subst e1
          rw [if_pos (by omega), if_pos rfl]; omega
        · rw [if_neg e1]
          by_cases e2 : (i - 1) / 2 = p
          · rw [if_pos e2]
            have := ha i i1 i2 e1
            rw [e2] at this
            omega
          · rw [if_neg e2]
            by_cases e3 : (i - 1) / 2 = k
            · rw [if_pos e3]
              have := hb i i1 i2 e3 (by omega)
              rw [← hp] at this
              exact this
            · rw [if_neg e3]
              exact ha i i1 i2 e1) (by
        intro i i1 i2 i3 i4
        rw [hlen] at i2
        rw [hsw, hsw, if_neg (by omega), if_neg (by omega), if_neg (by omega)]
        have hpp := ha p i4 hpl (by omega)
        by_cases e1 : i = k
        · subst e1
          rw [if_pos rfl]; exact hpp
        · rw [if_neg e1]
          have := ha i i1 i2 e1
          rw [i3] at this
          omega)
      exact ⟨r1, by omega, fun x hx => swap_mem h2 hpl x (r3 x hx), fun x => by rw [r4, many_swap h2 hpl (by omega)]⟩
    · rw [if_neg hc]
      refine ⟨?_, rfl, fun x hx => hx, fun _ => rfl⟩
      intro i i1 i2 _
      show kw l ((i - 1) / 2) ≤ kw l i
      by_cases e : i = k
      · subst e; omega
      · exact ha i i1 i2 e
theorem siftF_still {f : Nat} {l : List Work} {k s : Nat} : (siftF f l k s).2.1 = k ↔ (siftF f l k s).2.2 = s := by
  have : ∀ (f : Nat) (l : List Work) (k s : Nat), (siftF f l k s).2.1 ≤ k ∧ s ≤ (siftF f l k s).2.2 ∧ ((siftF f l k s).2.1 = k ∧ (siftF f l k s).2.2 = s ∨ (siftF f l k s).2.1 < k ∧ s < (siftF f l k s).2.2) := by
    intro f
    induction f with
    | zero => intro l k s; simp [siftF]
    | succ f ih =>
      intro l k s
      simp only [siftF]
      split
      · rename_i hc
        have := ih (swapL l k ((k - 1) / 2)) ((k - 1) / 2) (s + 1)
        omega
      · simp
  have := this f l k s
  omega
end Go.VxW
