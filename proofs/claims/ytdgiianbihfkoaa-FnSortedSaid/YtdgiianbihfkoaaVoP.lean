/-
  The plain law and all that it needs.
-/
import Derived.Test.YtdgiianbihfkoaaVyGF
import Derived.Test.YtdgiianbihfkoaaVaF


open Go Go.VS
namespace Go.VxW
structure Cur (c : L1Cur) (b : Int) : Prop where
  len : c.Code.length ≤ 1048576
  bytes : ∀ x ∈ c.Code, 0 ≤ x ∧ x ≤ 255
  lo : 0 ≤ c.At
  hi : c.At ≤ b
theorem Cur.mono {c : L1Cur} {b d : Int} (h : Cur c b) (hd : b ≤ d) : Cur c d := ⟨h.len, h.bytes, h.lo, by have := h.hi; omega⟩
theorem and255 (k : Int) : 0 ≤ andL .u64 k 255 ∧ andL .u64 k 255 ≤ 255 := by
  have h : (BitVec.ofInt IntKind.u64.bits k &&& BitVec.ofInt IntKind.u64.bits 255).toNat ≤ 255 := by
    rw [BitVec.toNat_and]
    exact Nat.and_le_right
  unfold andL
  rw [IntWalk.u64_in _ (by omega)]
  omega
theorem next_ok {c : L1Cur} {b : Int} (h : Cur c b) (hb : b ≤ 4611686018427387904) : ∃ x d, spec_l1Cur_next c = some (x, d) ∧ (0 ≤ x ∧ x ≤ 255) ∧ Cur d (b + 1) := by
  obtain ⟨h1, h2, h3, h4⟩ := h
  unfold spec_l1Cur_next
  rw [w64 (x := c.At + 1) (by omega)]
  have e : ∃ x5, (bif (decide (c.At < (c.Code.length : Int))) then (idx c.Code c.At).bind fun b10 => some ((IntKind.i64.wrap b10)) else some (0)) = some x5 ∧ 0 ≤ x5 ∧ x5 ≤ 255 := by
    by_cases hc : c.At < c.Code.length
    · rw [show decide (c.At < (c.Code.length : Int)) = true by simpa using hc]
      obtain ⟨n, hn⟩ := Int.eq_ofNat_of_zero_le h3
      rw [hn, idx_lt (show n < c.Code.length by omega)]
      have := h2 _ (List.getElem_mem (show n < c.Code.length by omega))
      simp only [cond_true, Option.bind_some]
      rw [w64 (by omega)]
      exact ⟨_, rfl, this⟩
    · rw [show decide (c.At < (c.Code.length : Int)) = false by simpa using hc]
      exact ⟨0, rfl, by omega, by omega⟩
  obtain ⟨x5, e1, e2⟩ := e
  rw [e1, Option.bind_some]
  cases decide (c.At + 1 ≤ (c.Code.length : Int))
  · refine ⟨_, _, rfl, ?_, ⟨h1, h2, by simp only; omega, by simp only; omega⟩⟩
    have := and255 (shrL .u64 (IntKind.u64.wrap ((IntKind.u64.wrap ((IntKind.u64.wrap (c.Seed * 6364136223846793005)) + (IntKind.u64.wrap x5))) + 1442695040888963407)) 40)
    rw [w64 (by omega)]
    exact this
  · exact ⟨_, _, rfl, e2, ⟨h1, h2, by simp only; omega, by simp only; omega⟩⟩
theorem md_ok {x n : Int} (hx : 0 ≤ x) (hn : 1 < n) : ∃ r, md x n = some r ∧ 0 ≤ r ∧ r < n := by
  unfold md
  rw [if_neg (by omega)]
  refine ⟨_, rfl, ?_, ?_⟩
  · rw [Int.tmod_eq_emod_of_nonneg hx]; exact Int.emod_nonneg _ (by omega)
  · rw [Int.tmod_eq_emod_of_nonneg hx]; exact Int.emod_lt_of_pos _ (by omega)
theorem pick_ok {c : L1Cur} {b n : Int} (h : Cur c b) (hb : b ≤ 4000000000000000000) : ∃ x d, spec_l1Cur_pick c n = some (x, d) ∧ (0 ≤ x ∧ (1 ≤ n → x < n)) ∧ Cur d (b + 2) := by
  unfold spec_l1Cur_pick
  by_cases hn : n ≤ 1
  · rw [show decide (n ≤ 1) = true by simpa using hn]
    exact ⟨0, c, rfl, ⟨by omega, by omega⟩, h.mono (by omega)⟩
  · rw [show decide (n ≤ 1) = false by simpa using hn]
    obtain ⟨x, d, e1, e2, e3⟩ := next_ok h (by omega)
    simp only [cond_false]
    rw [e1, Option.bind_some]
    cases decide (200 < n)
    · simp only [cond_false, Option.bind_some]
      obtain ⟨r, r1, r2, r3⟩ := md_ok (x := x) e2.1 (show 1 < n by omega)
      rw [r1]
      exact ⟨r, _, rfl, ⟨r2, fun _ => r3⟩, e3.mono (by omega)⟩
    · simp only [cond_true]
      obtain ⟨y, d', f1, f2, f3⟩ := next_ok e3 (by omega)
      rw [f1]
      simp only [Option.bind_some]
      rw [w64 (x := x * 256) (by omega), w64 (by omega)]
      obtain ⟨r, r1, r2, r3⟩ := md_ok (x := x * 256 + y) (by omega) (show 1 < n by omega)
      rw [r1]
      exact ⟨r, _, rfl, ⟨r2, fun _ => r3⟩, f3.mono (by omega)⟩
theorem one_ok {c : L1Cur} {b n : Int} (h : Cur c b) (hb : b ≤ 4000000000000000000) : ∃ x d, spec_l1Cur_one c n = some (x, d) ∧ Cur d (b + 2) := by
  obtain ⟨x, d, e1, _, e3⟩ := pick_ok (n := n) h hb
  unfold spec_l1Cur_one
  rw [e1]
  exact ⟨_, _, rfl, e3⟩
theorem among_ok {c : L1Cur} {b : Int} {l : List Int} (h : Cur c b) (hb : b ≤ 4000000000000000000) (hl : l ≠ []) : ∃ x d, spec_l1Cur_among c l = some (x, d) ∧ x ∈ l ∧ Cur d (b + 2) := by
  obtain ⟨x, d, e1, e2, e3⟩ := pick_ok (n := (l.length : Int)) h hb
  have hl' : 1 ≤ l.length := by cases l with | nil => exact absurd rfl hl | cons _ _ => simp
  unfold spec_l1Cur_among
  rw [e1]
  obtain ⟨n, rfl⟩ := Int.eq_ofNat_of_zero_le e2.1
  have hn : n < l.length := by have := e2.2 (by omega); omega
  simp only [Option.bind_some]
  rw [idx_lt hn]
  exact ⟨_, _, rfl, List.getElem_mem hn, e3⟩
theorem cur0 {l : List Int} (hl : l.length ≤ 1048576) (hb : ∀ x ∈ l, 0 ≤ x ∧ x ≤ 255) : Cur ⟨l, 0, 0⟩ 0 := ⟨hl, hb, by simp, by simp⟩
def inB (n a b : Int) : Bool := decide (a ≤ n) && decide (n ≤ b)
theorem sIn (n a b : Int) : spec_l1In n a b = some (inB n a b) := by
  unfold spec_l1In inB; cases decide (a ≤ n) <;> rfl
theorem iIn (n a b : Int) : impl_in n a b = some (inB n a b) := by
  unfold impl_in inB; cases decide (a ≤ n) <;> rfl
theorem inB_iff {n a b : Int} : inB n a b = true ↔ a ≤ n ∧ n ≤ b := by simp [inB]
def sumL : List Int → Int
  | [] => 0
  | x :: xs => x + sumL xs
theorem sum_set : ∀ (l : List Int) (k : Nat) (v : Int) (h : k < l.length), sumL (l.set k v) = sumL l - l[k] + v
  | x :: xs, 0, v, _ => by simp [sumL]; omega
  | x :: xs, k + 1, v, h => by
    simp only [List.set_cons_succ, sumL, List.getElem_cons_succ]
    rw [sum_set xs k v (by simpa using h)]; omega
theorem ixf_impl_Work {l : List Work} (hl : l.length < 2 ^ 60) {g : Work → Option Bool} (p : Work → Bool) (hg : ∀ x ∈ l, g x = some (p x)) : slices_IndexFunc_impl_Work l g = some (ixF p l) := by
  unfold slices_IndexFunc_impl_Work
  rw [ixf_go p (f := slices_IndexFunc_impl_Work_l0 l g) (fun _ => rfl) hl hg]
  have := ixF_ge p l
  by_cases h : ixF p l < 0
  · rw [if_pos h]; simp; omega
  · rw [if_neg h]; rfl
theorem cf_impl_Work {l : List Work} (hl : l.length < 2 ^ 60) {g : Work → Option Bool} (p : Work → Bool) (hg : ∀ x ∈ l, g x = some (p x)) : slices_ContainsFunc_impl_Work l g = some (l.any p) := by
  unfold slices_ContainsFunc_impl_Work
  rw [ixf_impl_Work hl p hg, Option.bind_some, ixF_any]
def wkB (x : Work) : Bool := inB x.End 0 1000000 && (inB x.Rank 0 1000000 && inB x.Id 0 1000000)
def wksB (l : List Work) : Bool := decide (l.length ≤ 40) && l.all wkB
def goodW (x : Work) : Prop := (0 ≤ x.End ∧ x.End ≤ 1000000) ∧ (0 ≤ x.Rank ∧ x.Rank ≤ 1000000) ∧ 0 ≤ x.Id ∧ x.Id ≤ 1000000
theorem iWk (x : Work) : impl_isWork x = some (wkB x) := by
  unfold impl_isWork wkB
  simp only [iIn, Option.bind_some]
  cases inB x.End 0 1000000 <;> cases inB x.Rank 0 1000000 <;> rfl
theorem sWk (x : Work) : spec_l3Work x = some (wkB x) := by
  unfold spec_l3Work wkB
  simp only [sIn, Option.bind_some]
  cases inB x.End 0 1000000 <;> cases inB x.Rank 0 1000000 <;> rfl
theorem wkB_iff {x : Work} : wkB x = true ↔ goodW x := by
  unfold wkB goodW
  simp only [Bool.and_eq_true, inB_iff]
theorem iWks {l : List Work} (hl : l.length ≤ 1048576) : impl_areWork l = some (wksB l) := by
  unfold impl_areWork wksB
  rw [cf_impl_Work (by omega) (fun w => !wkB w) (fun w _ => by
    unfold impl_areWork_1
    rw [iWk]; rfl)]
  have : (!l.any fun w => !wkB w) = l.all wkB := by simp [List.all_eq_not_any_not]
  simp only [Option.bind_some, this]
  by_cases h : l.length ≤ 40
  · rw [dec_t (by omega), dec_t h]; rfl
  · rw [dec_f (by omega), dec_f h]; rfl
theorem sWks {l : List Work} (hl : l.length ≤ 1048576) : spec_l3Good l = some (wksB l) := by
  unfold spec_l3Good wksB
  rw [whl_lg l (spec_l3Good_l0 l) (fun k (_ : Unit) => k) (fun _ x s => if wkB x then .next s else .done (.done false)) (fun _ => .next ()) (fun k hk s => by
    simp only [spec_l3Good_l0]
    rw [dec_t (by omega), idx_lt hk, w64 (by omega)]
    simp only [cond_true, Option.bind_some, sWk]
    by_cases h1 : wkB l[k] = true <;> simp [h1, LR.mapN]) (fun s => by simp [spec_l3Good_l0]) (), lgo_all _ _ (fun _ _ _ => rfl)]
  have : decide ((l.length : Int) ≤ 40) = decide (l.length ≤ 40) := by
    by_cases h : l.length ≤ 40
    · rw [dec_t (by omega), dec_t h]
    · rw [dec_f (by omega), dec_f h]
  cases l.all wkB <;> simp [this]
theorem wksB_iff {l : List Work} (h : wksB l = true) : l.length ≤ 40 ∧ ∀ x ∈ l, goodW x := by
  unfold wksB at h
  simp only [Bool.and_eq_true, decide_eq_true_eq, List.all_eq_true] at h
  exact ⟨h.1, fun x hx => wkB_iff.1 (h.2 x hx)⟩
theorem wksB_of {l : List Work} (h : l.length ≤ 40) (hg : ∀ x ∈ l, goodW x) : wksB l = true := by
  unfold wksB
  rw [dec_t h, List.all_eq_true.2 (fun x hx => wkB_iff.2 (hg x hx))]; rfl
def key (x : Work) : Int := x.End * 4000012000009 + x.Rank * 2000003 + x.Id
theorem key_inj {x y : Work} (hx : goodW x) (hy : goodW y) (h : key x = key y) : x = y := by
  obtain ⟨a, b, c⟩ := x
  obtain ⟨d, e, f⟩ := y
  unfold goodW at hx hy
  unfold key at h
  dsimp only at hx hy h
  have h1 : a = d := by omega
  have h2 : b = e := by omega
  have h3 : c = f := by omega
  rw [h1, h2, h3]
def cmpW (x y : Work) : Int := if x.End ≠ y.End then x.End - y.End else if x.Rank ≠ y.Rank then x.Rank - y.Rank else x.Id - y.Id
theorem cmpW_key {x y : Work} (hx : goodW x) (hy : goodW y) : cmpW x y < 0 ↔ key x < key y := by
  unfold goodW at hx hy
  unfold cmpW key
  (repeat' split) <;> omega
theorem iCmp {x y : Work} (hx : goodW x) (hy : goodW y) : impl_compareWork x y = some (cmpW x y) := by
  unfold goodW at hx hy
  unfold impl_compareWork cmp_Or_int
  rw [w64 (x := x.End - y.End) (by omega), w64 (x := x.Rank - y.Rank) (by omega), w64 (x := x.Id - y.Id) (by omega)]
  have step : ∀ (k : Nat) (v : Int), ([x.End - y.End, x.Rank - y.Rank, x.Id - y.Id] : List Int)[k]? = some v → k < 3 → whl (cmp_Or_int_l0 [x.End - y.End, x.Rank - y.Rank, x.Id - y.Id]) (k : Int) = if v ≠ 0 then some (.done v) else whl (cmp_Or_int_l0 [x.End - y.End, x.Rank - y.Rank, x.Id - y.Id]) ((k + 1 : Nat) : Int) := by
    intro k v hv hk
    rw [whl_eq]
    simp only [cmp_Or_int_l0]
    have hl : k < ([x.End - y.End, x.Rank - y.Rank, x.Id - y.Id] : List Int).length := by simpa using hk
    rw [dec_t (by simp <;> omega), idx_lt hl, w64 (by omega)]
    rw [List.getElem?_eq_getElem hl] at hv
    simp only [Option.some.injEq] at hv
    rw [hv]
    simp only [cond_true, Option.bind_some]
    by_cases h0 : v = 0
    · subst h0; simp
    · rw [show (v != 0) = true by simpa using h0, if_pos h0]; rfl
  have h0 := step 0 _ rfl (by omega)
  have h1 := step 1 _ rfl (by omega)
  have h2 := step 2 _ rfl (by omega)
  rw [show ((0 : Nat) : Int) = 0 from rfl] at h0
  have h3 : whl (cmp_Or_int_l0 [x.End - y.End, x.Rank - y.Rank, x.Id - y.Id]) ((2 + 1 : Nat) : Int) = some (.next ()) := by
    rw [whl_eq]; rfl
  rw [h0, h1, h2, h3]
  unfold cmpW
  by_cases a : x.End = y.End
  · rw [if_neg (show ¬ (x.End - y.End ≠ 0) by omega), if_neg (show ¬ (x.End ≠ y.End) by omega)]
    by_cases b : x.Rank = y.Rank
    · rw [if_neg (show ¬ (x.Rank - y.Rank ≠ 0) by omega), if_neg (show ¬ (x.Rank ≠ y.Rank) by omega)]
      by_cases c : x.Id - y.Id ≠ 0
      · rw [if_pos c]; rfl
      · rw [if_neg c, show x.Id - y.Id = 0 by omega]; rfl
    · rw [if_pos (show x.Rank - y.Rank ≠ 0 by omega), if_pos (show x.Rank ≠ y.Rank by omega)]; rfl
  · rw [if_pos (show x.End - y.End ≠ 0 by omega), if_pos (show x.End ≠ y.End by omega)]; rfl
def ltB (x y : Work) : Bool := decide (key x < key y)
theorem sLess {x y : Work} (hx : goodW x) (hy : goodW y) : spec_l3Less x y = some (ltB x y) := by
  unfold goodW at hx hy
  unfold spec_l3Less ltB key
  by_cases a : x.End = y.End
  · rw [show (x.End != y.End) = false by simp [a]]
    by_cases b : x.Rank = y.Rank
    · rw [show (x.Rank != y.Rank) = false by simp [b]]
      simp only [cond_false, Option.some.injEq]
      rw [decide_eq_decide]; omega
    · rw [show (x.Rank != y.Rank) = true by simp [b]]
      simp only [cond_false, cond_true, Option.some.injEq]
      rw [decide_eq_decide]; omega
  · rw [show (x.End != y.End) = true by simp [a]]
    simp only [cond_true, Option.some.injEq]
    rw [decide_eq_decide]; omega
theorem iLt {x y : Work} (hx : goodW x) (hy : goodW y) : decide (cmpW x y < 0) = ltB x y := by
  unfold ltB
  rw [decide_eq_decide]
  exact cmpW_key hx hy
def lessF (x y : Work) : Bool × Bool := if wkB x && wkB y then (ltB x y, true) else (false, false)
theorem iLessA (x y : Work) : impl_LessWork x y = some (lessF x y) := by
  unfold impl_LessWork lessF
  rw [iWk, iWk]
  cases hx : wkB x
  · rfl
  cases hy : wkB y
  · rfl
  have gx := wkB_iff.1 hx
  have gy := wkB_iff.1 hy
  simp only [Option.bind_some, Bool.not_true, cond_false, iCmp gx gy, iLt gx gy]
  rfl
theorem sLessA (x y : Work) : spec_LessWork x y = some (lessF x y) := by
  unfold spec_LessWork lessF
  rw [sWk, sWk]
  cases hx : wkB x
  · rfl
  cases hy : wkB y
  · rfl
  have gx := wkB_iff.1 hx
  have gy := wkB_iff.1 hy
  simp only [Option.bind_some, Bool.not_true, cond_false, sLess gx gy]
  rfl
def kw (l : List Work) (i : Nat) : Int := key (l.getD i ⟨0, 0, 0⟩)
theorem kw_at {l : List Work} {i : Nat} (h : i < l.length) : kw l i = key l[i] := by
  unfold kw
  rw [List.getD_eq_getElem?_getD, List.getElem?_eq_getElem h]; rfl
def swapL (l : List Work) (i j : Nat) : List Work := (l.set i (l.getD j ⟨0, 0, 0⟩)).set j (l.getD i ⟨0, 0, 0⟩)
theorem swap_len (l : List Work) (i j : Nat) : (swapL l i j).length = l.length := by simp [swapL]
theorem getD_at {l : List Work} {i : Nat} (h : i < l.length) : l.getD i ⟨0, 0, 0⟩ = l[i] := by
  rw [List.getD_eq_getElem?_getD, List.getElem?_eq_getElem h]; rfl
theorem kw_swap {l : List Work} {i j : Nat} (hi : i < l.length) (hj : j < l.length) (m : Nat) : kw (swapL l i j) m = if m = j then kw l i else if m = i then kw l j else kw l m := by
  unfold kw swapL
  rw [List.getD_eq_getElem?_getD, List.getElem?_set, List.getElem?_set]
  simp only [List.length_set]
  by_cases h1 : m = j
  · subst h1
    rw [if_pos rfl, if_pos hj, if_pos rfl]; rfl
  · rw [if_neg (show ¬ j = m by omega), if_neg h1]
    by_cases h2 : m = i
    · subst h2
      rw [if_pos rfl, if_pos hi, if_pos rfl]; rfl
    · rw [if_neg (show ¬ i = m by omega), if_neg h2, ← List.getD_eq_getElem?_getD]
theorem swap_mem {l : List Work} {i j : Nat} (hi : i < l.length) (hj : j < l.length) : ∀ x ∈ swapL l i j, x ∈ l := by
  intro x hx
  unfold swapL at hx
  rw [getD_at hi, getD_at hj] at hx
  rcases List.mem_or_eq_of_mem_set hx with h | rfl
  · rcases List.mem_or_eq_of_mem_set h with h | rfl
    · exact h
    · exact List.getElem_mem hj
  · exact List.getElem_mem hi
def eqW (x y : Work) : Bool := (x.End == y.End) && ((x.Rank == y.Rank) && ((x.Id == y.Id) && true))
def manyW (l : List Work) (x : Work) : Int := sumL (l.map fun y => if eqW x y then 1 else 0)
theorem many_setW {l : List Work} {k : Nat} (h : k < l.length) (v x : Work) : manyW (l.set k v) x = manyW l x - (if eqW x l[k] then 1 else 0) + (if eqW x v then 1 else 0) := by
  unfold manyW
  rw [List.map_set, sum_set _ _ _ (by simpa using h)]
  simp
theorem many_swap {l : List Work} {i j : Nat} (hi : i < l.length) (hj : j < l.length) (hij : i ≠ j) (x : Work) : manyW (swapL l i j) x = manyW l x := by
  unfold swapL
  rw [getD_at hi, getD_at hj, many_setW (by simpa using hj), many_setW hi, List.getElem_set_ne (by omega)]
  omega
/-- The heap below a place. -/
def heapF (l : List Work) (j : Nat) : Prop := ∀ i, 1 ≤ i → i < l.length → j ≤ (i - 1) / 2 → kw l ((i - 1) / 2) ≤ kw l i
def nextB (l : List Work) (k : Nat) : Nat :=
  let b := if 2 * k + 1 < l.length ∧ kw l (2 * k + 1) < kw l k then 2 * k + 1 else k
  if 2 * k + 2 < l.length ∧ kw l (2 * k + 2) < kw l b then 2 * k + 2 else b
theorem nextB_ok (l : List Work) (k : Nat) : (nextB l k = k ∧ (2 * k + 1 < l.length → kw l k ≤ kw l (2 * k + 1)) ∧ (2 * k + 2 < l.length → kw l k ≤ kw l (2 * k + 2))) ∨
    ((nextB l k = 2 * k + 1 ∨ nextB l k = 2 * k + 2) ∧ nextB l k < l.length ∧ kw l (nextB l k) < kw l k ∧ (2 * k + 1 < l.length → kw l (nextB l k) ≤ kw l (2 * k + 1)) ∧ (2 * k + 2 < l.length → kw l (nextB l k) ≤ kw l (2 * k + 2))) := by
  unfold nextB
  dsimp only
  by_cases h1 : 2 * k + 1 < l.length ∧ kw l (2 * k + 1) < kw l k
  · rw [if_pos h1]
    by_cases h2 : 2 * k + 2 < l.length ∧ kw l (2 * k + 2) < kw l (2 * k + 1)
    · rw [if_pos h2]; exact .inr ⟨.inr rfl, h2.1, by omega, fun _ => by omega, fun _ => Int.le_refl _⟩
    · rw [if_neg h2]; exact .inr ⟨.inl rfl, h1.1, h1.2, fun _ => Int.le_refl _, fun _ => by omega⟩
  · rw [if_neg h1]
    by_cases h2 : 2 * k + 2 < l.length ∧ kw l (2 * k + 2) < kw l k
    · rw [if_pos h2]; exact .inr ⟨.inr rfl, h2.1, h2.2, fun _ => by omega, fun _ => Int.le_refl _⟩
    · rw [if_neg h2]; exact .inl ⟨rfl, fun _ => by omega, fun _ => by omega⟩
def downF : Nat → List Work → Nat → Nat → List Work × Nat
  | 0, l, _, s => (l, s)
  | f + 1, l, k, s => if nextB l k = k then (l, s) else downF f (swapL l k (nextB l k)) (nextB l k) (s + 1)
def ht (n : Nat) : Nat → Nat → Nat
  | 0, _ => 0
  | f + 1, k => if 2 * k + 1 < n then 1 + ht n f (2 * k + 1) else 0
theorem ht_anti (n : Nat) : ∀ (f a b : Nat), a ≤ b → ht n f b ≤ ht n f a
  | 0, _, _, _ => Nat.le_refl _
  | f + 1, a, b, h => by
    have := ht_anti n f (2 * a + 1) (2 * b + 1) (by omega)
    simp only [ht]
    (repeat' split) <;> omega
theorem down_ok {j : Nat} : ∀ (f : Nat) (l : List Work) (k s : Nat), l.length ≤ k + f → k < l.length → j ≤ k →
    (∀ i, 1 ≤ i → i < l.length → j ≤ (i - 1) / 2 → (i - 1) / 2 ≠ k → kw l ((i - 1) / 2) ≤ kw l i) →
    (∀ i, 1 ≤ i → i < l.length → (i - 1) / 2 = k → 1 ≤ k → j ≤ (k - 1) / 2 → kw l ((k - 1) / 2) ≤ kw l i) →
    heapF (downF f l k s).1 j ∧ (downF f l k s).1.length = l.length ∧ (∀ x ∈ (downF f l k s).1, x ∈ l) ∧ (∀ x, manyW (downF f l k s).1 x = manyW l x) ∧ (downF f l k s).2 ≤ s + ht l.length f k := by
  intro f
  induction f with
  | zero => intro l k s h1 h2; omega
  | succ f ih =>
    intro l k s h1 h2 h3 ha hb
    have hn := nextB_ok l k
    simp only [downF]
    generalize nextB l k = c at hn
    rcases hn with ⟨rfl, n1, n2⟩ | ⟨n0, n1, n2, n3, n4⟩
    · rw [if_pos rfl]
      refine ⟨?_, rfl, fun x hx => hx, fun _ => rfl, by omega⟩
      intro i i1 i2 i3
      by_cases hp : (i - 1) / 2 = c
      · rcases (show i = 2 * c + 1 ∨ i = 2 * c + 2 by omega) with rfl | rfl
        · rw [hp]; exact n1 i2
        · rw [hp]; exact n2 i2
      · exact ha i i1 i2 i3 hp
    · have hc : c ≠ k := by omega
      rw [if_neg hc]
      have hsw := kw_swap h2 n1
      have hlen := swap_len l k c
      obtain ⟨r1, r2, r3, r4, r5⟩ := ih (swapL l k c) c (s + 1) (by omega) (by omega) (by omega) (by
        intro i i1 i2 i3 i4
        rw [hlen] at i2
        rw [hsw, hsw, if_neg i4]
        by_cases e1 : i = c
        · subst e1
          rw [if_pos (by omega), if_pos rfl]; omega
        · rw [if_neg e1]
          by_cases e2 : (i - 1) / 2 = k
          · rw [if_pos e2, if_neg (by omega)]
            rcases (show i = 2 * k + 1 ∨ i = 2 * k + 2 by omega) with rfl | rfl
            · exact n3 i2
            · exact n4 i2
          · rw [if_neg e2]
            by_cases e3 : i = k
            · subst e3
              rw [if_pos rfl]
              exact hb c (by omega) n1 (by omega) i1 i3
            · rw [if_neg e3]
              exact ha i i1 i2 i3 e2) (by
        intro i i1 i2 i3 _ _
        rw [hlen] at i2
        rw [hsw, hsw, if_neg (by omega), if_pos (by omega), if_neg (by omega), if_neg (by omega)]
        have := ha i i1 i2 (by omega) (by omega)
        rw [i3] at this
        exact this)
      refine ⟨r1, by omega, fun x hx => swap_mem h2 n1 x (r3 x hx), fun x => by rw [r4, many_swap h2 n1 (by omega)], ?_⟩
      have h4 : ht l.length f c ≤ ht l.length f (2 * k + 1) := ht_anti _ _ _ _ (by omega)
      rw [hlen] at r5
      simp only [ht]
      rw [if_pos (by omega)]
      omega
theorem nextB_impl (l : List Work) (k : Nat) : nextB l k = if 2 * k + 1 < l.length then (if kw l (if 2 * k + 2 < l.length ∧ kw l (2 * k + 2) < kw l (2 * k + 1) then 2 * k + 2 else 2 * k + 1) < kw l k then (if 2 * k + 2 < l.length ∧ kw l (2 * k + 2) < kw l (2 * k + 1) then 2 * k + 2 else 2 * k + 1) else k) else k := by
  unfold nextB
  dsimp only
  by_cases h1 : 2 * k + 1 < l.length
  · rw [if_pos h1]
    by_cases h3 : kw l (2 * k + 1) < kw l k
    · have hb : (if 2 * k + 1 < l.length ∧ kw l (2 * k + 1) < kw l k then 2 * k + 1 else k) = 2 * k + 1 := if_pos ⟨h1, h3⟩
      rw [hb]
      by_cases h2 : 2 * k + 2 < l.length ∧ kw l (2 * k + 2) < kw l (2 * k + 1)
      · rw [if_pos h2, if_pos (by omega)]
      · rw [if_neg h2, if_pos h3]
    · have hb : (if 2 * k + 1 < l.length ∧ kw l (2 * k + 1) < kw l k then 2 * k + 1 else k) = k := if_neg (fun h => h3 h.2)
      rw [hb]
      by_cases h2 : 2 * k + 2 < l.length ∧ kw l (2 * k + 2) < kw l (2 * k + 1)
      · rw [if_pos h2]
        by_cases h4 : kw l (2 * k + 2) < kw l k
        · rw [if_pos h4, if_pos ⟨h2.1, h4⟩]
        · rw [if_neg h4, if_neg (fun h => h4 h.2)]
      · rw [if_neg h2, if_neg h3]
        rw [if_neg (by omega)]
  · have hb : (if 2 * k + 1 < l.length ∧ kw l (2 * k + 1) < kw l k then 2 * k + 1 else k) = k := if_neg (fun h => h1 h.1)
    rw [if_neg h1, hb, if_neg (by omega)]
theorem cmp_kw {l : List Work} (hg : ∀ x ∈ l, goodW x) {i j : Nat} (hi : i < l.length) (hj : j < l.length) : impl_compareWork l[i] l[j] = some (cmpW l[i] l[j]) ∧ decide (cmpW l[i] l[j] < 0) = decide (kw l i < kw l j) ∧ spec_l3Less l[i] l[j] = some (decide (kw l i < kw l j)) := by
  have gi := hg _ (List.getElem_mem hi)
  have gj := hg _ (List.getElem_mem hj)
  refine ⟨iCmp gi gj, ?_, ?_⟩
  · rw [iLt gi gj, kw_at hi, kw_at hj]; rfl
  · rw [sLess gi gj, kw_at hi, kw_at hj]; rfl
theorem swap_good {l : List Work} (hg : ∀ x ∈ l, goodW x) {i j : Nat} (hi : i < l.length) (hj : j < l.length) : ∀ x ∈ swapL l i j, goodW x := fun x hx => hg x (swap_mem hi hj x hx)
theorem iDown_go : ∀ (f : Nat) (l : List Work) (k s : Nat), (∀ x ∈ l, goodW x) → l.length ≤ 40 → l.length ≤ k + f → k ≤ 100 → s + f ≤ 1000 →
    whl impl_down_l0 (l, (k : Int), (s : Int)) = some (((downF f l k s).2 : Int), (downF f l k s).1) := by
  intro f
  induction f with
  | zero =>
    intro l k s hg h40 hf hk hs
    rw [whl_eq]
    simp only [impl_down_l0]
    rw [w64 (x := 2 * (k : Int)) (by omega), w64 (x := 2 * (k : Int) + 1) (by omega), dec_f (by omega)]
    rfl
  | succ f ih =>
    intro l k s hg h40 hf hk hs
    rw [whl_eq]
    simp only [impl_down_l0, downF]
    rw [w64 (x := 2 * (k : Int)) (by omega), w64 (x := 2 * (k : Int) + 1) (by omega), w64 (x := 2 * (k : Int) + 1 + 1) (by omega)]
    by_cases h1 : 2 * k + 1 < l.length
    · have hkl : k < l.length := by omega
      rw [dec_t (by omega), show 2 * (k : Int) + 1 + 1 = ((2 * k + 2 : Nat) : Int) by omega, show 2 * (k : Int) + 1 = ((2 * k + 1 : Nat) : Int) by omega]
      have e23 : (bif decide (((2 * k + 2 : Nat) : Int) < l.length) then (idx l ((2 * k + 2 : Nat) : Int)).bind fun b28 => (idx l ((2 * k + 1 : Nat) : Int)).bind fun b30 => (impl_compareWork b28 b30).bind fun b32 => some (decide (b32 < 0)) else some false) = some (decide (2 * k + 2 < l.length ∧ kw l (2 * k + 2) < kw l (2 * k + 1))) := by
        by_cases h2 : 2 * k + 2 < l.length
        · rw [dec_t (p := ((2 * k + 2 : Nat) : Int) < l.length) (by omega), idx_lt h2, idx_lt h1]
          obtain ⟨c1, c2, _⟩ := cmp_kw hg h2 h1
          simp only [cond_true, Option.bind_some, c1, c2, Option.some.injEq]
          rw [decide_eq_decide]
          exact ⟨fun h => ⟨h2, h⟩, fun h => h.2⟩
        · rw [dec_f (p := ((2 * k + 2 : Nat) : Int) < l.length) (by omega), dec_f (by omega)]; rfl
      simp only [cond_true]
      rw [e23]
      have hn := nextB_impl l k
      rw [if_pos h1] at hn
      obtain ⟨m, hm⟩ : ∃ m, m = (if 2 * k + 2 < l.length ∧ kw l (2 * k + 2) < kw l (2 * k + 1) then 2 * k + 2 else 2 * k + 1) := ⟨_, rfl⟩
      rw [← hm] at hn
      have hml : m < l.length := by rw [hm]; split <;> omega
      have hmk : m ≠ k := by rw [hm]; split <;> omega
      have hmm : m ≤ 100 := by omega
      have e33 : (bif decide (2 * k + 2 < l.length ∧ kw l (2 * k + 2) < kw l (2 * k + 1)) then some ((2 * k + 2 : Nat) : Int) else some ((2 * k + 1 : Nat) : Int)) = some (m : Int) := by
        rw [hm]
        by_cases h : 2 * k + 2 < l.length ∧ kw l (2 * k + 2) < kw l (2 * k + 1)
        · rw [dec_t h, if_pos h]; rfl
        · rw [dec_f h, if_neg h]; rfl
      simp only [Option.bind_some]
      rw [e33]
      simp only [Option.bind_some]
      obtain ⟨c1, c2, _⟩ := cmp_kw hg hml hkl
      rw [idx_lt hml, idx_lt hkl]
      simp only [Option.bind_some, c1]
      by_cases h3 : kw l m < kw l k
      · rw [if_pos h3] at hn
        rw [dec_t h3] at c2
        simp only [decide_eq_true_eq] at c2
        rw [dec_f (by omega), hn, if_neg hmk]
        simp only [cond_false]
        rw [idx_lt (show m < (l.set (k : Int).toNat l[m]).length by simpa using hml)]
        simp only [Option.bind_some, Int.toNat_natCast]
        rw [w64 (by omega), show (s : Int) + 1 = ((s + 1 : Nat) : Int) by omega]
        have := ih (swapL l k m) m (s + 1) (swap_good hg hkl hml) (by rw [swap_len]; omega) (by rw [swap_len]; have := hm; split at this <;> omega) hmm (by omega)
        unfold swapL at this ⊢
        rw [getD_at hml, getD_at hkl] at this ⊢
        exact this
      · rw [if_neg h3] at hn
        rw [dec_f h3] at c2
        simp only [decide_eq_false_iff_not] at c2
        rw [dec_t (by omega), hn, if_pos rfl]
        rfl
    · rw [dec_f (by omega)]
      have hn := nextB_impl l k
      rw [if_neg h1] at hn
      rw [hn, if_pos rfl]
      rfl
theorem sNext {l : List Work} (hg : ∀ x ∈ l, goodW x) (h40 : l.length ≤ 40) {k : Nat} (hk : k < l.length) : whl (spec_l3Down_l0 l k) ((k : Int), 0) = some (nextB l k : Int) := by
  have step : ∀ (b i c : Nat), b < l.length → i < 2 → c = 2 * k + 1 + i → whl (spec_l3Down_l0 l k) ((b : Int), (i : Int)) = whl (spec_l3Down_l0 l k) (((if c < l.length ∧ kw l c < kw l b then c else b : Nat) : Int), ((i + 1 : Nat) : Int)) := by
    intro b i c hb hi hc
    rw [whl_eq]
    simp only [spec_l3Down_l0]
    rw [w64 (x := 2 * (k : Int)) (by omega), w64 (x := 2 * (k : Int) + 1) (by omega), w64 (x := 2 * (k : Int) + 2) (by omega)]
    have hl : i < ([2 * (k : Int) + 1, 2 * (k : Int) + 2] : List Int).length := by simpa using hi
    rw [dec_t (by simp <;> omega), idx_lt hl, w64 (x := (i : Int) + 1) (by omega)]
    have hcv : ([2 * (k : Int) + 1, 2 * (k : Int) + 2] : List Int)[i] = (c : Int) := by
      rcases (show i = 0 ∨ i = 1 by omega) with rfl | rfl
      · show 2 * (k : Int) + 1 = c; omega
      · show 2 * (k : Int) + 2 = c; omega
    rw [hcv]
    simp only [cond_true, Option.bind_some]
    rw [show ((i + 1 : Nat) : Int) = (i : Int) + 1 by omega]
    by_cases h1 : c < l.length
    · obtain ⟨_, _, c3⟩ := cmp_kw hg h1 hb
      rw [dec_t (by omega), idx_lt h1, idx_lt hb]
      simp only [cond_true, Option.bind_some, c3]
      by_cases h2 : kw l c < kw l b
      · rw [dec_t h2, if_pos ⟨h1, h2⟩]; rfl
      · rw [dec_f h2, if_neg (fun h => h2 h.2)]; rfl
    · rw [dec_f (by omega), if_neg (fun h => h1 h.1)]; rfl
  have h0 := step k 0 (2 * k + 1) hk (by omega) (by omega)
  rw [show ((0 : Nat) : Int) = 0 from rfl] at h0
  rw [h0]
  have hb1 : (if 2 * k + 1 < l.length ∧ kw l (2 * k + 1) < kw l k then 2 * k + 1 else k) < l.length := by split <;> omega
  rw [step _ 1 (2 * k + 2) hb1 (by omega) (by omega), whl_eq]
  simp only [spec_l3Down_l0]
  rw [dec_f (by simp)]
  simp only [cond_false, Option.bind_some]
  rfl
theorem sDown_go : ∀ (f : Nat) (l : List Work) (k s : Nat), (∀ x ∈ l, goodW x) → l.length ≤ 40 → l.length ≤ k + f → k < l.length → s + f ≤ 1000 →
    whl spec_l3Down_l1 (l, (k : Int), (s : Int)) = some (.done (((downF f l k s).2 : Int), (downF f l k s).1)) := by
  intro f
  induction f with
  | zero => intro l k s hg h40 hf hk hs; omega
  | succ f ih =>
    intro l k s hg h40 hf hk hs
    rw [whl_eq]
    simp only [spec_l3Down_l1, downF]
    rw [sNext hg h40 hk]
    simp only [Option.bind_some]
    have hn := nextB_ok l k
    by_cases hc : nextB l k = k
    · rw [show (((nextB l k : Nat) : Int) == (k : Int)) = true by simp [hc], if_pos hc]; rfl
    · have hml : nextB l k < l.length := by rcases hn with h | h; exact absurd h.1 hc; exact h.2.1
      rw [show (((nextB l k : Nat) : Int) == (k : Int)) = false from beq_eq_false_iff_ne.2 (by omega), if_neg hc, idx_lt hk, idx_lt hml]
      simp only [cond_false, Option.bind_some, Int.toNat_natCast]
      rw [idx_lt (show nextB l k < (l.set k l[nextB l k]).length by simpa using hml)]
      simp only [Option.bind_some]
      rw [w64 (by omega), show (s : Int) + 1 = ((s + 1 : Nat) : Int) by omega]
      have := ih (swapL l k (nextB l k)) (nextB l k) (s + 1) (swap_good hg hk hml) (by rw [swap_len]; omega) (by rw [swap_len]; omega) (by rw [swap_len]; exact hml) (by omega)
      unfold swapL at this ⊢
      rw [getD_at hml, getD_at hk] at this ⊢
      exact this
def dnF (l : List Work) (k : Nat) : List Work × Nat := downF l.length l k 0
theorem iDown {l : List Work} {k : Nat} (hg : ∀ x ∈ l, goodW x) (h40 : l.length ≤ 40) (hk : k ≤ 100) : impl_down l k = some (((dnF l k).2 : Int), (dnF l k).1) := by
  unfold impl_down dnF
  have := iDown_go l.length l k 0 hg h40 (by omega) hk (by omega)
  rw [show ((0 : Nat) : Int) = 0 from rfl] at this
  rw [this]; rfl
theorem sDown {l : List Work} {k : Nat} (hg : ∀ x ∈ l, goodW x) (h40 : l.length ≤ 40) (hk : k < l.length) : spec_l3Down l k = some (((dnF l k).2 : Int), (dnF l k).1) := by
  unfold spec_l3Down dnF
  have := sDown_go l.length l k 0 hg h40 (by omega) hk (by omega)
  rw [show ((0 : Nat) : Int) = 0 from rfl] at this
  rw [this]; rfl
theorem par_w {k : Nat} (h0 : 0 < k) (hk : k ≤ 100) : IntKind.i64.wrap (Int.tdiv (IntKind.i64.wrap ((k : Int) - 1)) 2) = (((k - 1) / 2 : Nat) : Int) := by
  rw [w64 (x := (k : Int) - 1) (by omega), Int.tdiv_eq_ediv_of_nonneg (by omega), w64 (by omega)]; omega
def isH (l : List Work) : Bool := (List.range l.length).all fun i => decide (i = 0) || decide (kw l ((i - 1) / 2) ≤ kw l i)
theorem isH_iff {l : List Work} : isH l = true ↔ heapF l 0 := by
  unfold isH heapF
  simp only [List.all_eq_true, List.mem_range, Bool.or_eq_true, decide_eq_true_eq]
  constructor
  · intro h i h1 h2 _
    rcases h i h2 with h | h
    · omega
    · exact h
  · intro h i hi
    rcases Nat.eq_zero_or_pos i with h0 | h0
    · exact .inl h0
    · exact .inr (h i h0 hi (by omega))
theorem is_go {l : List Work} (hg : ∀ x ∈ l, goodW x) (h40 : l.length ≤ 40) : ∀ (n k : Nat), k + n = l.length → 1 ≤ k →
    whl (impl_isHeap_l0 l) (k : Int) = some (if (List.range' k n).all (fun i => decide (kw l ((i - 1) / 2) ≤ kw l i)) = true then .next () else .done false) ∧
    whl (spec_l3Is_l0 l) (k : Int) = some (if (List.range' k n).all (fun i => decide (kw l ((i - 1) / 2) ≤ kw l i)) = true then .next () else .done false) := by
  intro n
  induction n with
  | zero =>
    intro k h1 h2
    constructor
    · rw [whl_eq]
      simp only [impl_isHeap_l0]
      rw [dec_f (by omega)]; rfl
    · rw [whl_eq]
      simp only [spec_l3Is_l0]
      rw [dec_f (by omega)]; rfl
  | succ n ih =>
    intro k h1 h2
    have hk : k < l.length := by omega
    have hp : (k - 1) / 2 < l.length := by omega
    have hw := par_w (k := k) (by omega) (by omega)
    obtain ⟨c1, c2, c3⟩ := cmp_kw hg hk hp
    obtain ⟨i1, i2⟩ := ih (k + 1) (by omega) (by omega)
    rw [show ((k + 1 : Nat) : Int) = (k : Int) + 1 by omega] at i1 i2
    have hr : List.range' k (n + 1) = k :: List.range' (k + 1) n := by simp [List.range'_succ]
    by_cases hc : kw l k < kw l ((k - 1) / 2)
    · rw [dec_t hc] at c2 c3
      have : (List.range' k (n + 1)).all (fun i => decide (kw l ((i - 1) / 2) ≤ kw l i)) = false := by
        rw [hr, List.all_cons, dec_f (by omega)]; rfl
      rw [this]
      constructor
      · rw [whl_eq]
        simp only [impl_isHeap_l0, hw]
        rw [dec_t (by omega), idx_lt hk, idx_lt hp]
        simp only [cond_true, Option.bind_some, c1, c2]
        rfl
      · rw [whl_eq]
        simp only [spec_l3Is_l0, hw]
        rw [dec_t (by omega), idx_lt hk, idx_lt hp]
        simp only [cond_true, Option.bind_some, c3]
        rfl
    · rw [dec_f hc] at c2 c3
      have : (List.range' k (n + 1)).all (fun i => decide (kw l ((i - 1) / 2) ≤ kw l i)) = (List.range' (k + 1) n).all (fun i => decide (kw l ((i - 1) / 2) ≤ kw l i)) := by
        rw [hr, List.all_cons, dec_t (by omega), Bool.true_and]
      rw [this]
      constructor
      · rw [whl_eq]
        simp only [impl_isHeap_l0, hw]
        rw [dec_t (by omega), idx_lt hk, idx_lt hp]
        simp only [cond_true, Option.bind_some, c1, c2, cond_false]
        rw [w64 (by omega)]
        exact i1
      · rw [whl_eq]
        simp only [spec_l3Is_l0, hw]
        rw [dec_t (by omega), idx_lt hk, idx_lt hp]
        simp only [cond_true, Option.bind_some, c3, cond_false]
        rw [w64 (by omega)]
        exact i2
theorem isH_tail {l : List Work} (h : 1 ≤ l.length) : (List.range' 1 (l.length - 1)).all (fun i => decide (kw l ((i - 1) / 2) ≤ kw l i)) = isH l := by
  unfold isH
  obtain ⟨n, hn⟩ : ∃ n, l.length = n + 1 := ⟨l.length - 1, by omega⟩
  rw [hn, List.range_eq_range', List.range'_succ, List.all_cons, Bool.eq_iff_iff]
  simp only [Nat.add_sub_cancel, decide_true, Bool.true_or, Bool.true_and, List.all_eq_true, List.mem_range', decide_eq_true_eq, Bool.or_eq_true]
  constructor
  · rintro h x ⟨i, hi, rfl⟩; exact .inr (h _ ⟨i, hi, by omega⟩)
  · rintro h x ⟨i, hi, rfl⟩
    rcases h _ ⟨i, hi, rfl⟩ with h | h
    · omega
    · exact h
theorem iIs {l : List Work} (hl : l.length ≤ 1048576) : impl_isHeap l = some (wksB l && isH l) := by
  unfold impl_isHeap
  rw [iWks hl]
  cases h : wksB l
  · rfl
  · obtain ⟨h40, hg⟩ := wksB_iff h
    simp only [Option.bind_some, Bool.not_true, cond_false, Bool.true_and]
    cases l with
    | nil => rw [whl_eq]; rfl
    | cons x xs =>
      have := (is_go hg h40 ((x :: xs).length - 1) 1 (by simp <;> omega) (by omega)).1
      rw [isH_tail (by simp), show ((1 : Nat) : Int) = 1 from rfl] at this
      rw [this]
      cases isH (x :: xs) <;> rfl
theorem sIs {l : List Work} (h : wksB l = true) : spec_l3Is l = some (isH l) := by
  obtain ⟨h40, hg⟩ := wksB_iff h
  unfold spec_l3Is
  cases l with
  | nil => rw [whl_eq]; rfl
  | cons x xs =>
    have := (is_go hg h40 ((x :: xs).length - 1) 1 (by simp <;> omega) (by omega)).2
    rw [isH_tail (by simp), show ((1 : Nat) : Int) = 1 from rfl] at this
    rw [this]
    cases isH (x :: xs) <;> rfl
theorem iIsA {l : List Work} (hl : l.length ≤ 1048576) : impl_IsHeap l = some (wksB l && isH l, wksB l) ∧ spec_IsHeap l = some (wksB l && isH l, wksB l) := by
  unfold impl_IsHeap spec_IsHeap
  rw [iWks hl, iIs hl, sWks hl]
  cases h : wksB l
  · exact ⟨rfl, rfl⟩
  · rw [sIs h]; exact ⟨rfl, rfl⟩
theorem app24g {α : Type} {l m : List α} (h : l.length + m.length ≤ 1048600) : app 24 l m = some (l ++ m) := by
  have : (l.length + m.length + 512) * 24 ≤ (1048600 + 512) * 24 := Nat.mul_le_mul_right _ (by omega)
  simp only [app, roomy, Bool.and_eq_true, decide_eq_true_eq]
  rw [if_pos]; constructor <;> omega
theorem cloneW {l : List Work} (h : l.length ≤ 1048576) : slices_Clone_impl_Work l = some l := by
  unfold slices_Clone_impl_Work
  rw [app24g (by simp <;> omega)]; rfl
theorem many_app (l m : List Work) (x : Work) : manyW (l ++ m) x = manyW l x + manyW m x := by
  unfold manyW
  rw [List.map_append]
  induction l.map fun y => if eqW x y then (1 : Int) else 0 with
  | nil => simp [sumL]
  | cons y ys ih => simp only [List.cons_append, sumL, ih]; omega
theorem many_one (x y : Work) : manyW [y] x = if eqW x y then 1 else 0 := by simp [manyW, sumL]
theorem heap_nil (k : Nat) : heapF [] k := fun i _ h _ => by simp at h
def popL (l : List Work) : List Work := (l.set 0 (l.getD (l.length - 1) ⟨0, 0, 0⟩)).take (l.length - 1)
def popF (l : List Work) : List Work × Work := ((dnF (popL l) 0).1, l.getD 0 ⟨0, 0, 0⟩)
theorem popL_len (l : List Work) : (popL l).length = l.length - 1 := by unfold popL; simp
theorem popL_mem {l : List Work} (h : 1 ≤ l.length) : ∀ x ∈ popL l, x ∈ l := by
  intro x hx
  have hx := List.mem_of_mem_take hx
  rcases List.mem_or_eq_of_mem_set hx with h' | rfl
  · exact h'
  · rw [getD_at (by omega)]; exact List.getElem_mem _
theorem popL_many {l : List Work} (h : 1 ≤ l.length) (x : Work) : manyW (popL l) x + (if eqW x (l.getD 0 ⟨0, 0, 0⟩) then 1 else 0) = manyW l x := by
  have hl : l.length - 1 < l.length := by omega
  have h0 : 0 < l.length := by omega
  unfold popL
  rw [getD_at hl, getD_at h0]
  have h1 := many_setW h0 l[l.length - 1] x
  have h2 : l.set 0 l[l.length - 1] = (l.set 0 l[l.length - 1]).take (l.length - 1) ++ [l[l.length - 1]] := by
    have e := List.take_append_drop (l.length - 1) (l.set 0 l[l.length - 1])
    have hd : (l.set 0 l[l.length - 1]).drop (l.length - 1) = [l[l.length - 1]] := by
      have hll : l.length - 1 < (l.set 0 l[l.length - 1]).length := by simpa using hl
      rw [List.drop_eq_getElem_cons hll, List.getElem_set, List.drop_eq_nil_of_le (by simp <;> omega)]
      split <;> rfl
    rw [hd] at e
    exact e.symm
  rw [h2, many_app, many_one] at h1
  omega
theorem dn_nil (k : Nat) : dnF [] k = ([], 0) := rfl
theorem dn_ok {l : List Work} {j k : Nat} (hk : k < l.length) (hj : j ≤ k) (ha : ∀ i, 1 ≤ i → i < l.length → j ≤ (i - 1) / 2 → (i - 1) / 2 ≠ k → kw l ((i - 1) / 2) ≤ kw l i)
    (hb : ∀ i, 1 ≤ i → i < l.length → (i - 1) / 2 = k → 1 ≤ k → j ≤ (k - 1) / 2 → kw l ((k - 1) / 2) ≤ kw l i) :
    heapF (dnF l k).1 j ∧ (dnF l k).1.length = l.length ∧ (∀ x ∈ (dnF l k).1, x ∈ l) ∧ (∀ x, manyW (dnF l k).1 x = manyW l x) ∧ (dnF l k).2 ≤ ht l.length l.length k := by
  have := down_ok l.length l k 0 (by omega) hk hj ha hb
  rw [Nat.zero_add] at this
  exact this
theorem kw_pop {l : List Work} {i : Nat} (h1 : 1 ≤ i) (h2 : i < l.length - 1) : kw (popL l) i = kw l i := by
  unfold kw popL
  rw [List.getD_eq_getElem?_getD, List.getD_eq_getElem?_getD, List.getElem?_take, if_pos h2, List.getElem?_set, if_neg (by omega), List.getD_eq_getElem?_getD]
theorem pop_ok {l : List Work} (hh : heapF l 0) (h : 1 ≤ l.length) : heapF (popF l).1 0 ∧ (popF l).1.length = l.length - 1 ∧ (∀ x ∈ (popF l).1, x ∈ l) ∧ ∀ x, manyW (popF l).1 x + (if eqW x (popF l).2 then 1 else 0) = manyW l x := by
  have hm := popL_many h
  have hlen := popL_len l
  unfold popF
  dsimp only
  by_cases h2 : 2 ≤ l.length
  · have := dn_ok (l := popL l) (j := 0) (k := 0) (by omega) (Nat.le_refl _) (by
      intro i i1 i2 i3 i4
      rw [hlen] at i2
      rw [kw_pop (by omega) (by omega), kw_pop i1 i2]
      exact hh i i1 (by omega) (by omega)) (by intro i _ _ _ hk; omega)
    exact ⟨this.1, by omega, fun x hx => popL_mem h x (this.2.2.1 x hx), fun x => by rw [this.2.2.2.1]; exact hm x⟩
  · have e : popL l = [] := List.eq_nil_of_length_eq_zero (by omega)
    rw [e, dn_nil]
    rw [e] at hm
    exact ⟨heap_nil 0, by simp <;> omega, by simp, hm⟩
theorem root_min {l : List Work} (hh : heapF l 0) : ∀ i, i < l.length → kw l 0 ≤ kw l i := by
  intro i
  induction i using Nat.strongRecOn with
  | ind i ih =>
    intro hi
    rcases Nat.eq_zero_or_pos i with rfl | h0
    · exact Int.le_refl _
    · have := hh i h0 hi (by omega)
      have := ih ((i - 1) / 2) (by omega) (by omega)
      omega
theorem iPop {l : List Work} (hg : ∀ x ∈ l, goodW x) (h40 : l.length ≤ 40) (h : 1 ≤ l.length) : impl_pop l = some (popF l) ∧ spec_l3Pop l = some (popF l) := by
  have hl : l.length - 1 < l.length := by omega
  have h0 : 0 < l.length := by omega
  have hgp : ∀ x ∈ popL l, goodW x := fun x hx => hg x (popL_mem h x hx)
  have hlen := popL_len l
  have e0 : idx l 0 = some (l.getD 0 ⟨0, 0, 0⟩) := by
    rw [getD_at h0]; exact idx_lt h0
  have e1 : idx l ((l.length : Int) - 1) = some (l.getD (l.length - 1) ⟨0, 0, 0⟩) := by
    rw [getD_at hl, show (l.length : Int) - 1 = ((l.length - 1 : Nat) : Int) by omega]; exact idx_lt hl
  have e2 : slc (l.set 0 (l.getD (l.length - 1) ⟨0, 0, 0⟩)) 0 ((l.length : Int) - 1) = some (popL l) := by
    rw [slc_in (by omega) (by omega) (by rw [List.length_set]; omega)]
    simp only [Int.toNat_zero, List.drop_zero]
    rw [show ((l.length : Int) - 1).toNat - 0 = l.length - 1 by omega]; rfl
  constructor
  · unfold impl_pop
    rw [w64 (by omega), e0, e1]
    simp only [Option.bind_some, Int.toNat_zero]
    rw [e2]
    simp only [Option.bind_some]
    have := iDown hgp (by omega) (k := 0) (by omega)
    rw [show ((0 : Nat) : Int) = 0 from rfl] at this
    rw [this]; rfl
  · unfold spec_l3Pop
    rw [app24g (by simp <;> omega)]
    simp only [List.nil_append, Option.bind_some, Int.toNat_zero, List.length_set]
    rw [w64 (by omega), e0, e1]
    simp only [Option.bind_some]
    rw [e2]
    simp only [Option.bind_some]
    by_cases h1 : 0 < (popL l).length
    · rw [dec_t (by omega)]
      have := sDown hgp (by omega) (k := 0) h1
      rw [show ((0 : Nat) : Int) = 0 from rfl] at this
      rw [this]; rfl
    · rw [dec_f (by omega)]
      have e : popL l = [] := List.eq_nil_of_length_eq_zero (by omega)
      unfold popF
      rw [e]; rfl
def madeF : Nat → List Work → Nat → List Work × Nat
  | 0, l, s => (l, s)
  | k + 1, l, s => madeF k (dnF l k).1 (s + (dnF l k).2)
def htSum (n : Nat) : Nat → Nat
  | 0 => 0
  | k + 1 => htSum n k + ht n n k
theorem made_ok : ∀ (k : Nat) (l : List Work) (s : Nat), k ≤ l.length → heapF l k → heapF (madeF k l s).1 0 ∧ (madeF k l s).1.length = l.length ∧ (∀ x ∈ (madeF k l s).1, x ∈ l) ∧ (∀ x, manyW (madeF k l s).1 x = manyW l x) ∧ (madeF k l s).2 ≤ s + htSum l.length k := by
  intro k
  induction k with
  | zero => intro l s _ hh; exact ⟨hh, rfl, fun x hx => hx, fun _ => rfl, by simp [madeF, htSum]⟩
  | succ k ih =>
    intro l s hk hh
    obtain ⟨d1, d2, d3, d4, d5⟩ := dn_ok (l := l) (j := k) (k := k) (by omega) (Nat.le_refl _) (fun i i1 i2 i3 i4 => hh i i1 i2 (by omega)) (fun i i1 i2 i3 i4 i5 => by omega)
    obtain ⟨r1, r2, r3, r4, r5⟩ := ih (dnF l k).1 (s + (dnF l k).2) (by omega) d1
    simp only [madeF, htSum]
    rw [d2] at r5
    exact ⟨r1, by omega, fun x hx => d3 x (r3 x hx), fun x => by rw [r4, d4], by omega⟩
theorem ht_bound : ((List.range 41).all fun n => n == 0 || decide (htSum n (n / 2) < n)) = true := by decide +kernel
theorem made_go : ∀ (k : Nat) (l : List Work) (s : Nat), (∀ x ∈ l, goodW x) → l.length ≤ 40 → 2 * k ≤ l.length → s + 40 * k ≤ 100000 → heapF l k →
    whl impl_made_l0 (l, (s : Int), (k : Int) - 1) = some ((madeF k l s).1, ((madeF k l s).2 : Int)) ∧ whl spec_l3Make_l0 (l, (s : Int), (k : Int) - 1) = some ((madeF k l s).1, ((madeF k l s).2 : Int)) := by
  intro k
  induction k with
  | zero =>
    intro l s hg h40 hk hs hh
    constructor
    · rw [whl_eq]
      simp only [impl_made_l0]
      rw [dec_f (by omega)]; rfl
    · rw [whl_eq]
      simp only [spec_l3Make_l0]
      rw [dec_f (by omega)]; rfl
  | succ k ih =>
    intro l s hg h40 hk hs hh
    obtain ⟨d1, d2, d3, d4, d5⟩ := dn_ok (l := l) (j := k) (k := k) (by omega) (Nat.le_refl _) (fun i i1 i2 i3 i4 => hh i i1 i2 (by omega)) (fun i i1 i2 i3 i4 i5 => by omega)
    have hle : ∀ (f i : Nat), ht l.length f i ≤ f := by
      intro f
      induction f with
      | zero => intro i; exact Nat.le_refl _
      | succ f ih =>
        intro i
        have := ih (2 * i + 1)
        simp only [ht]
        split <;> omega
    have hst := hle l.length k
    obtain ⟨i1, i2⟩ := ih (dnF l k).1 (s + (dnF l k).2) (fun x hx => hg x (d3 x hx)) (by omega) (by omega) (by omega) d1
    rw [show ((k + 1 : Nat) : Int) - 1 = (k : Int) by omega]
    rw [show ((s + (dnF l k).2 : Nat) : Int) = (s : Int) + ((dnF l k).2 : Int) by omega] at i1 i2
    constructor
    · rw [whl_eq]
      simp only [impl_made_l0, madeF]
      rw [dec_t (by omega), iDown hg h40 (by omega)]
      simp only [cond_true, Option.bind_some]
      rw [w64 (by omega), w64 (by omega)]
      exact i1
    · rw [whl_eq]
      simp only [spec_l3Make_l0, madeF]
      rw [dec_t (by omega), sDown hg h40 (by omega)]
      simp only [cond_true, Option.bind_some]
      rw [w64 (by omega), w64 (by omega)]
      exact i2
def mkF (l : List Work) : List Work × Nat := madeF (l.length / 2) l 0
theorem heap_half (l : List Work) : heapF l (l.length / 2) := fun i h1 h2 h3 => by omega
theorem mk_ok {l : List Work} (h40 : l.length ≤ 40) : heapF (mkF l).1 0 ∧ (mkF l).1.length = l.length ∧ (∀ x ∈ (mkF l).1, x ∈ l) ∧ (∀ x, manyW (mkF l).1 x = manyW l x) ∧ ((mkF l).2 ≤ l.length ∧ (1 ≤ l.length → (mkF l).2 < l.length)) := by
  obtain ⟨r1, r2, r3, r4, r5⟩ := made_ok (l.length / 2) l 0 (by omega) (heap_half l)
  have hb := List.all_eq_true.1 ht_bound l.length (List.mem_range.2 (by omega))
  simp only [Bool.or_eq_true, beq_iff_eq, decide_eq_true_eq] at hb
  refine ⟨r1, r2, r3, r4, ?_⟩
  have e : (mkF l).2 = (madeF (l.length / 2) l 0).2 := rfl
  rcases hb with h0 | h0
  · rw [h0] at r5
    have : htSum 0 (0 / 2) = 0 := rfl
    rw [e, h0]
    omega
  · rw [e]; omega
theorem iMade {l : List Work} (hg : ∀ x ∈ l, goodW x) (h40 : l.length ≤ 40) : impl_made l = some ((mkF l).1, ((mkF l).2 : Int)) ∧ spec_l3Make l = some ((mkF l).1, ((mkF l).2 : Int)) := by
  obtain ⟨i1, i2⟩ := made_go (l.length / 2) l 0 hg h40 (by omega) (by omega) (heap_half l)
  unfold impl_made spec_l3Make
  rw [cloneW (by omega), app24g (by simp <;> omega)]
  simp only [List.nil_append, Option.bind_some]
  rw [Int.tdiv_eq_ediv_of_nonneg (by omega), w64 (x := (l.length : Int) / 2) (by omega), w64 (by omega), show (l.length : Int) / 2 = ((l.length / 2 : Nat) : Int) by omega]
  rw [show ((0 : Nat) : Int) = 0 from rfl] at i1 i2
  rw [i1, i2]
  exact ⟨rfl, rfl⟩
def sortF : Nat → List Work → List Work → List Work
  | 0, _, out => out
  | f + 1, h, out => if h.length = 0 then out else sortF f (popF h).1 (out ++ [(popF h).2])
def upW (l : List Work) : Prop := ∀ i, 1 ≤ i → i < l.length → kw l (i - 1) ≤ kw l i
theorem sort_ok : ∀ (f : Nat) (h out : List Work), h.length ≤ f → heapF h 0 → upW out → (∀ x ∈ out, ∀ y ∈ h, key x ≤ key y) →
    upW (sortF f h out) ∧ (sortF f h out).length = out.length + h.length ∧ (∀ x ∈ sortF f h out, x ∈ out ∨ x ∈ h) ∧ ∀ x, manyW (sortF f h out) x = manyW out x + manyW h x := by
  intro f
  induction f with
  | zero =>
    intro h out hf hh hu hle
    have : h = [] := List.eq_nil_of_length_eq_zero (by omega)
    subst this
    exact ⟨hu, by simp [sortF], fun x hx => .inl hx, fun x => by simp [sortF, manyW, sumL]⟩
  | succ f ih =>
    intro h out hf hh hu hle
    simp only [sortF]
    by_cases h0 : h.length = 0
    · have : h = [] := List.eq_nil_of_length_eq_zero h0
      subst this
      rw [if_pos (show ([] : List Work).length = 0 from rfl)]
      exact ⟨hu, by simp, fun x hx => .inl hx, fun x => by simp [manyW, sumL]⟩
    · rw [if_neg h0]
      obtain ⟨p1, p2, p3, p4⟩ := pop_ok hh (by omega)
      have hmin : ∀ y ∈ h, key (popF h).2 ≤ key y := by
        intro y hy
        obtain ⟨i, hi, rfl⟩ := List.getElem_of_mem hy
        have := root_min hh i hi
        rw [kw_at hi] at this
        exact this
      have hroot : (popF h).2 ∈ h := by
        unfold popF
        dsimp only
        rw [getD_at (by omega)]; exact List.getElem_mem _
      obtain ⟨r1, r2, r3, r4⟩ := ih (popF h).1 (out ++ [(popF h).2]) (by omega) p1 (by
        intro i i1 i2
        simp only [List.length_append, List.length_singleton] at i2
        have hkl : ∀ m, m < out.length → kw (out ++ [(popF h).2]) m = kw out m := fun m hm => by
          unfold kw
          rw [List.getD_eq_getElem?_getD, List.getD_eq_getElem?_getD, List.getElem?_append_left hm]
        by_cases e : i = out.length
        · subst e
          rw [hkl _ (by omega)]
          have e2 : kw (out ++ [(popF h).2]) out.length = key (popF h).2 := by
            unfold kw
            rw [List.getD_eq_getElem?_getD, List.getElem?_append_right (Nat.le_refl _)]
            simp
          rw [e2, kw_at (by omega)]
          exact hle _ (List.getElem_mem _) _ hroot
        · rw [hkl _ (by omega), hkl _ (by omega)]
          exact hu i i1 (by omega)) (by
        intro x hx y hy
        simp only [List.mem_append, List.mem_singleton] at hx
        rcases hx with hx | rfl
        · exact hle x hx y (p3 y hy)
        · exact hmin y (p3 y hy))
      refine ⟨r1, by rw [r2, p2]; simp; omega, ?_, ?_⟩
      · intro x hx
        rcases r3 x hx with h | h
        · simp only [List.mem_append, List.mem_singleton] at h
          rcases h with h | rfl
          · exact .inl h
          · exact .inr hroot
        · exact .inr (p3 x h)
      · intro x
        rw [r4, many_app, many_one]
        have := p4 x
        omega
theorem sort_go : ∀ (f : Nat) (h out : List Work), (∀ x ∈ h, goodW x) → h.length ≤ 40 → h.length ≤ f → heapF h 0 → out.length + h.length ≤ 100 →
    whl impl_SortWork_l0 (out, h) = some (sortF f h out) ∧ whl spec_SortWork_l0 (h, out) = some (sortF f h out) := by
  intro f
  induction f with
  | zero =>
    intro h out hg h40 hf hh hs
    constructor
    · rw [whl_eq]
      simp only [impl_SortWork_l0]
      rw [dec_f (by omega)]; rfl
    · rw [whl_eq]
      simp only [spec_SortWork_l0]
      rw [dec_f (by omega)]; rfl
  | succ f ih =>
    intro h out hg h40 hf hh hs
    simp only [sortF]
    by_cases h0 : h.length = 0
    · rw [if_pos h0]
      constructor
      · rw [whl_eq]
        simp only [impl_SortWork_l0]
        rw [dec_f (by omega)]; rfl
      · rw [whl_eq]
        simp only [spec_SortWork_l0]
        rw [dec_f (by omega)]; rfl
    · rw [if_neg h0]
      obtain ⟨p1, p2, p3, _⟩ := pop_ok hh (by omega)
      obtain ⟨q1, q2⟩ := iPop hg h40 (by omega)
      obtain ⟨i1, i2⟩ := ih (popF h).1 (out ++ [(popF h).2]) (fun x hx => hg x (p3 x hx)) (by omega) (by omega) p1 (by rw [p2]; simp; omega)
      constructor
      · rw [whl_eq]
        simp only [impl_SortWork_l0]
        rw [dec_t (by omega), q1]
        simp only [cond_true, Option.bind_some]
        rw [app24g (by simp <;> omega)]
        exact i1
      · rw [whl_eq]
        simp only [spec_SortWork_l0]
        rw [dec_t (by omega), q2]
        simp only [cond_true, Option.bind_some]
        rw [app24g (by simp <;> omega)]
        exact i2
theorem pick_t {c : L1Cur} {b n : Int} (h : Cur c b) (hb : b ≤ 4000000000000000000) : Tot (spec_l1Cur_pick c n) fun r => 0 ≤ r.1 ∧ (1 ≤ n → r.1 < n) ∧ Cur r.2 (b + 2) := by
  obtain ⟨x, d, e, ⟨h1, h2⟩, h3⟩ := pick_ok (n := n) h hb
  exact ⟨_, e, h1, h2, h3⟩
theorem one_t {c : L1Cur} {b n : Int} (h : Cur c b) (hb : b ≤ 4000000000000000000) : Tot (spec_l1Cur_one c n) fun r => Cur r.2 (b + 2) := by
  obtain ⟨x, d, e, h3⟩ := one_ok (n := n) h hb
  exact ⟨_, e, h3⟩
theorem among_t {c : L1Cur} {b : Int} {l : List Int} (h : Cur c b) (hb : b ≤ 4000000000000000000) (hl : l ≠ []) : Tot (spec_l1Cur_among c l) fun r => r.1 ∈ l ∧ Cur r.2 (b + 2) := by
  obtain ⟨x, d, e, h2, h3⟩ := among_ok h hb hl
  exact ⟨_, e, h2, h3⟩
theorem iMany {l : List Work} (hl : l.length ≤ 1048576) (x : Work) : laws_manyOf l x = some (manyW l x) := by
  unfold laws_manyOf
  have := whl_lgo l (laws_manyOf_l0 l x) (fun k (s : Int) => (s, k)) (fun _ y s => .next (s + if eqW x y then 1 else 0)) (fun s => s) (fun k s => 0 ≤ s ∧ s ≤ k) (fun k hk s hs => by
    simp only [laws_manyOf_l0]
    rw [dec_t (by omega), idx_lt hk]
    simp only [cond_true, Option.bind_some]
    rw [w64 (x := s + 1) (by omega), w64 (x := (k : Int) + 1) (by omega)]
    have e : ((x.End == l[k].End) && ((x.Rank == l[k].Rank) && ((x.Id == l[k].Id) && true))) = eqW x l[k] := rfl
    rw [e]
    by_cases h : eqW x l[k] = true
    · rw [h]
      refine ⟨rfl, fun s' h => ?_⟩
      simp only [if_true, LR.next.injEq] at h
      omega
    · simp only [Bool.not_eq_true] at h
      rw [h]
      refine ⟨by simp [LR.mapN], fun s' h => ?_⟩
      simp only [Bool.false_eq_true, if_false, LR.next.injEq] at h
      omega) (fun s _ => by simp [laws_manyOf_l0]) 0 (by simp)
  rw [this, lgo_fold (fun (s : Int) (y : Work) => s + if eqW x y then 1 else 0) (fun _ _ _ => rfl)]
  have hf : ∀ (l : List Work) (s : Int), l.foldl (fun (s : Int) (y : Work) => s + if eqW x y then 1 else 0) s = s + manyW l x := by
    intro l
    induction l with
    | nil => intro s; simp [manyW, sumL]
    | cons y ys ih =>
      intro s
      simp only [List.foldl_cons]
      rw [ih]
      unfold manyW
      simp only [List.map_cons, sumL]; omega
  rw [hf]; simp
theorem sameW {l : List Work} (hl : l.length ≤ 1048576) : laws_sameWorks l l = some true := by
  unfold laws_sameWorks
  rw [eqS_go (l := l) (fun k hk => by
    simp only [laws_sameWorks_l0]
    rw [dec_t (by omega), idx_lt hk, w64 (by omega)]
    simp) (by simp [laws_sameWorks_l0])]
  simp
def hpB (l : List Work) : Bool := wksB l && isH l
theorem hpB_iff {l : List Work} : hpB l = true ↔ (l.length ≤ 40 ∧ ∀ x ∈ l, goodW x) ∧ heapF l 0 := by
  unfold hpB
  rw [Bool.and_eq_true, isH_iff]
  constructor
  · rintro ⟨h1, h2⟩; exact ⟨wksB_iff h1, h2⟩
  · rintro ⟨h1, h2⟩; exact ⟨wksB_of h1.1 h1.2, h2⟩
def mkLF (l : List Work) : List Work × Bool := if wksB l then ((mkF l).1, true) else ([], false)
theorem iMk {l : List Work} (hl : l.length ≤ 1048576) : impl_MakeHeap l = some (mkLF l) ∧ spec_MakeHeap l = some (mkLF l) := by
  unfold impl_MakeHeap spec_MakeHeap mkLF
  rw [iWks hl, sWks hl]
  cases h : wksB l
  · exact ⟨rfl, rfl⟩
  · obtain ⟨h40, hg⟩ := wksB_iff h
    rw [(iMade hg h40).1, (iMade hg h40).2]
    exact ⟨rfl, rfl⟩
def stepLF (l : List Work) : Int × Bool := if wksB l then ((mkF l).2, true) else (0, false)
theorem iStep {l : List Work} (hl : l.length ≤ 1048576) : impl_StepsToMake l = some (stepLF l) ∧ spec_StepsToMake l = some (stepLF l) := by
  unfold impl_StepsToMake spec_StepsToMake stepLF
  rw [iWks hl, sWks hl]
  cases h : wksB l
  · exact ⟨rfl, rfl⟩
  · obtain ⟨h40, hg⟩ := wksB_iff h
    rw [(iMade hg h40).1, (iMade hg h40).2]
    exact ⟨rfl, rfl⟩
def sortLF (l : List Work) : List Work × Bool := if wksB l then (sortF l.length (mkF l).1 [], true) else ([], false)
theorem iSort {l : List Work} (hl : l.length ≤ 1048576) : impl_SortWork l = some (sortLF l) ∧ spec_SortWork l = some (sortLF l) := by
  unfold impl_SortWork spec_SortWork sortLF
  rw [iWks hl, sWks hl]
  cases h : wksB l
  · exact ⟨rfl, rfl⟩
  · obtain ⟨h40, hg⟩ := wksB_iff h
    obtain ⟨m1, m2, m3, m4, m5⟩ := mk_ok h40
    obtain ⟨s1, s2⟩ := sort_go l.length (mkF l).1 [] (fun x hx => hg x (m3 x hx)) (by omega) (by omega) m1 (by simp <;> omega)
    rw [(iMade hg h40).1, (iMade hg h40).2]
    simp only [Option.bind_some, Bool.not_true, cond_false]
    rw [s1, s2]
    exact ⟨rfl, rfl⟩
theorem work_t {c : L1Cur} {b : Int} (h : Cur c b) (hb : b ≤ 2000000000000000000) : Tot (spec_l1Cur_work c) fun r => True ∧ Cur r.2 (b + 10) := by
  unfold spec_l1Cur_work
  refine Tot.then (one_t (by assumption) (by omega)) ?_
  rintro ⟨x, c_x⟩ x_c
  dsimp only at x_c ⊢
  refine Tot.cnd (fun hc => ?_) (fun hc => ?_)
  · refine Tot.then (among_t (by assumption) (by omega) (by simp)) ?_
    rintro ⟨p, c_p⟩ ⟨p_m, p_c⟩
    dsimp only at p_m p_c ⊢
    exact .ret ⟨trivial, p_c.mono (by omega)⟩
  · refine Tot.then (pick_t (by assumption) (by omega)) ?_
    rintro ⟨p, c_p⟩ ⟨p_0, p_1, p_c⟩
    dsimp only at p_0 p_1 p_c ⊢
    refine Tot.then (pick_t (by assumption) (by omega)) ?_
    rintro ⟨q, c_q⟩ ⟨q_0, q_1, q_c⟩
    dsimp only at q_0 q_1 q_c ⊢
    refine Tot.then (pick_t (by assumption) (by omega)) ?_
    rintro ⟨r, c_r⟩ ⟨r_0, r_1, r_c⟩
    dsimp only at r_0 r_1 r_c ⊢
    exact .ret ⟨trivial, r_c.mono (by omega)⟩
theorem works_t {c : L1Cur} {b : Int} (h : Cur c b) (hb : b ≤ 1000000000000000000) : Tot (spec_l1Cur_works c) fun r => r.1.length ≤ 41 ∧ Cur r.2 (b + 1000) := by
  unfold spec_l1Cur_works
  refine Tot.then (pick_t (by assumption) (by omega)) ?_
  rintro ⟨x, c_x⟩ ⟨x_0, x_1, x_c⟩
  dsimp only at x_0 x_1 x_c ⊢
  have x_2 := x_1 (by omega)
  refine Tot.then (one_t (by assumption) (by omega)) ?_
  rintro ⟨y, c_y⟩ y_c
  dsimp only at y_c ⊢
  refine Tot.then (P := fun r => (0 ≤ r.1 ∧ r.1 ≤ 41) ∧ Cur ⟨r.2.1, r.2.2.1, r.2.2.2⟩ (b + 10)) ?_ ?_
  · refine Tot.cnd (fun hc => ?_) (fun hc => ?_)
    · refine Tot.then (pick_t (by assumption) (by omega)) ?_
      rintro ⟨z, c_z⟩ ⟨z_0, z_1, z_c⟩
      dsimp only at z_0 z_1 z_c ⊢
      have z_2 := z_1 (by omega)
      rw [w64 (by omega)]
      exact .ret ⟨(by first | omega | (dsimp only; omega)), z_c.mono (by omega)⟩
    · exact .ret ⟨(by first | omega | (dsimp only; omega)), y_c.mono (by omega)⟩
  · rintro ⟨n, co, a, se⟩ ⟨hn, hc0⟩
    dsimp only at hn hc0 ⊢
    refine Tot.then (P := fun r => r.1.length ≤ 41 ∧ Cur ⟨r.2.1, r.2.2.1, r.2.2.2⟩ (b + 1000)) (Tot.whl (fun s => s.2.1.toNat) (fun s => ((0 ≤ s.2.1 ∧ s.2.1 ≤ 41) ∧ s.1.length + s.2.1.toNat ≤ 41) ∧ Cur ⟨s.2.2.1, s.2.2.2.1, s.2.2.2.2⟩ (b + 10 + 10 * (41 - s.2.1))) ?_ ⟨⟨(by first | omega | (dsimp only; omega)), by simp only [List.length_nil]; omega⟩, hc0.mono (by first | omega | (dsimp only; omega))⟩) ?_
    · rintro ⟨l, n, co, a, se⟩ ⟨⟨h1, h2⟩, hc0⟩
      dsimp only at h1 h2 hc0 ⊢
      unfold spec_l1Cur_works_l0
      dsimp only
      refine Tot.cnd (fun hc => ?_) (fun hc => ?_)
      · simp only [decide_eq_true_eq] at hc
        refine Tot.then (work_t (by assumption) (by omega)) ?_
        rintro ⟨y, c_y⟩ ⟨y_p, y_c⟩
        dsimp only at y_p y_c ⊢
        rw [app24g (by simp <;> omega), Option.bind_some, w64 (x := n - 1) (by omega)]
        exact .ret ⟨⟨⟨(by first | omega | (dsimp only; omega)), by simp only [List.length_append, List.length_singleton]; omega⟩, y_c.mono (by first | omega | (dsimp only; omega))⟩, (by first | omega | (dsimp only; omega))⟩
      · simp only [decide_eq_false_iff_not, Int.not_lt] at hc
        exact .ret ⟨(by first | omega | (dsimp only; omega)), hc0.mono (by first | omega | (dsimp only; omega))⟩
    · rintro ⟨l, co, a, se⟩ ⟨h1, hc0⟩
      exact .ret ⟨h1, hc0⟩
theorem mkLF_len (l : List Work) : (mkLF l).1.length ≤ l.length := by
  unfold mkLF
  split
  · rename_i h
    have := (mk_ok (wksB_iff h).1).2.1
    dsimp only; omega
  · simp
theorem drawMk {l : List Int} (hl : l.length ≤ 1048576) (hb : ∀ x ∈ l, 0 ≤ x ∧ x ≤ 255) : Tot (spec_DrawMakeHeap l) fun r => r.length ≤ 41 := by
  unfold spec_DrawMakeHeap
  have h := cur0 hl hb
  refine Tot.then (works_t (by assumption) (by omega)) ?_
  rintro ⟨j, c_j⟩ ⟨j_p, j_c⟩
  dsimp only at j_p j_c ⊢
  exact .ret j_p
theorem drawLess {l : List Int} (hl : l.length ≤ 1048576) (hb : ∀ x ∈ l, 0 ≤ x ∧ x ≤ 255) : Tot (spec_DrawLessWork l) fun _ => True := by
  unfold spec_DrawLessWork
  have h := cur0 hl hb
  refine Tot.then (work_t (by assumption) (by omega)) ?_
  rintro ⟨j, c_j⟩ ⟨j_p, j_c⟩
  dsimp only at j_p j_c ⊢
  refine Tot.then (work_t (by assumption) (by omega)) ?_
  rintro ⟨x, c_x⟩ ⟨x_p, x_c⟩
  dsimp only at x_p x_c ⊢
  exact .ret trivial
theorem less_key {x y : Work} (hx : goodW x) (hy : goodW y) : lessF x y = (decide (key x < key y), true) := by
  unfold lessF
  rw [wkB_iff.2 hx, wkB_iff.2 hy]; rfl
theorem less_both (x y : Work) : (lessF x y).2 = (wkB x && wkB y) := by
  unfold lessF
  cases wkB x && wkB y <;> rfl
theorem pureSorted (a b : List Int) (ha : a.length < 2 ^ 47) (hb : b.length < 2 ^ 47) (ka : ∀ x ∈ a, 0 ≤ x ∧ x ≤ 255) (kb : ∀ x ∈ b, 0 ≤ x ∧ x ≤ 255) : laws_FnSorted a b = some true := by
  unfold laws_FnSorted
  rw [w64 (by omega)]
  by_cases h : (1048576 : Int) < (a.length : Int) + (b.length : Int)
  · rw [dec_t h]; rfl
  rw [dec_f h]
  simp only [cond_false]
  obtain ⟨l, e1, n1⟩ := drawMk (l := a) (by omega) ka
  obtain ⟨⟨x, y⟩, e2, _⟩ := drawLess (l := b) (by omega) kb
  simp only [e1, e2, Option.bind_some]
  rw [(iMk (l := l) (by omega)).1, (iMk (l := l) (by omega)).2, (iStep (by omega)).1, (iStep (by omega)).2, (iSort (by omega)).1, (iSort (by omega)).2, iLessA x y, sLessA x y, iLessA y x]
  have hm := mkLF_len l
  have hs : (sortLF l).1.length ≤ 100 := by
    unfold sortLF
    split
    · rename_i hw
      obtain ⟨h40, hg⟩ := wksB_iff hw
      obtain ⟨m1, m2, m3, m4, m5⟩ := mk_ok h40
      have := (sort_ok l.length (mkF l).1 [] (by omega) m1 (fun i _ h => by simp at h) (by simp)).2.1
      dsimp only
      rw [this, m2]; simp; omega
    · simp
  simp only [Option.bind_some, beq_self_eq_true, Bool.not_true, cond_false, bne_self_eq_false]
  rw [sameW (l := (mkLF l).1) (by omega)]
  simp only [Option.bind_some, Bool.not_true, cond_false]
  rw [sameW (l := (sortLF l).1) (by omega)]
  simp only [Option.bind_some, Bool.not_true, cond_false]
  have hlast : (bif (lessF x y).2 then bif (lessF y x).2 then bif (lessF x y).1 then bif !(lessF y x).1 then some true else some false else bif (lessF y x).1 then some true else some ((x.End == y.End) && ((x.Rank == y.Rank) && ((x.Id == y.Id) && true))) else some false else some true) = some true := by
    cases hp : (lessF x y).2
    · rfl
    · rw [less_both, Bool.and_eq_true] at hp
      have gx := wkB_iff.1 hp.1
      have gy := wkB_iff.1 hp.2
      rw [less_key gx gy, less_key gy gx]
      simp only [cond_true]
      by_cases h1 : key x < key y
      · rw [dec_t h1, dec_f (p := key y < key x) (by omega)]; rfl
      · rw [dec_f h1]
        by_cases h2 : key y < key x
        · rw [dec_t h2]; rfl
        · have : x = y := key_inj gx gy (by omega)
          subst this
          rw [dec_f h2]; simp
  cases hw : wksB l
  · have : mkLF l = ([], false) := by unfold mkLF; rw [hw]; rfl
    rw [this]
    exact hlast
  · obtain ⟨h40, hg⟩ := wksB_iff hw
    obtain ⟨m1, m2, m3, m4, m5, m6⟩ := mk_ok h40
    obtain ⟨s1, s2, s3, s4⟩ := sort_ok l.length (mkF l).1 [] (by omega) m1 (fun i _ h => by simp at h) (by simp)
    have f1 : mkLF l = ((mkF l).1, true) := by unfold mkLF; rw [hw]; rfl
    have f2 : stepLF l = (((mkF l).2 : Int), true) := by unfold stepLF; rw [hw]; rfl
    have f3 : sortLF l = (sortF l.length (mkF l).1 [], true) := by unfold sortLF; rw [hw]; rfl
    rw [f1, f2, f3]
    rw [f3] at hs
    simp only at hs
    generalize sortF l.length (mkF l).1 [] = s at s1 s2 s3 s4 hs ⊢
    have hmg : ∀ z ∈ (mkF l).1, goodW z := fun z hz => hg z (m3 z hz)
    have hsg : ∀ z ∈ s, goodW z := by
      intro z hz
      rcases s3 z hz with h | h
      · simp at h
      · exact hmg z h
    have hh : hpB (mkF l).1 = true := hpB_iff.2 ⟨⟨by omega, hmg⟩, m1⟩
    have g1 : (wksB (mkF l).1 && isH (mkF l).1) = true := hh
    have g2 : wksB (mkF l).1 = true := by rw [Bool.and_eq_true] at g1; exact g1.1
    have hsl : s.length = l.length := by rw [s2, m2]; simp
    simp only [cond_true]
    rw [(iIsA (by omega)).1, g1, g2]
    simp only [Option.bind_some, Bool.not_true, cond_false]
    rw [dec_f (p := (l.length : Int) < ((mkF l).2 : Int)) (by omega), show ((s.length : Int) != (l.length : Int)) = false by simp [hsl]]
    have hcnd : (bif decide ((0 : Int) < (l.length : Int)) then bif decide ((l.length : Int) ≤ ((mkF l).2 : Int)) then some true else some false else some false : Option Bool) = some false := by
      by_cases h0 : 0 < l.length
      · rw [dec_t (by omega), dec_f (by omega)]; rfl
      · rw [dec_f (by omega)]; rfl
    simp only [cond_false]
    rw [hcnd]
    simp only [Option.bind_some, cond_false]
    rw [whl_lg s _ (fun k (_ : Unit) => k) (fun _ _ s => .next s) (fun _ => .next ()) (fun i hi u => by
      simp only [laws_FnSorted_l0]
      have hz := hsg _ (List.getElem_mem hi)
      have c1 := s4 s[i]
      have c2 := m4 s[i]
      have c0 : manyW [] s[i] = 0 := rfl
      rw [dec_t (by omega), idx_lt hi]
      simp only [cond_true, Option.bind_some]
      rw [iMany (l := s) (by omega), iMany (l := l) (by omega), iMany (l := (mkF l).1) (by omega)]
      simp only [Option.bind_some]
      rw [show (manyW s s[i] != manyW l s[i]) = false by simp <;> omega, show (manyW (mkF l).1 s[i] != manyW l s[i]) = false by simp <;> omega]
      simp only [cond_false, Option.bind_some]
      by_cases h0 : 0 < i
      · have hp : i - 1 < s.length := by omega
        have hu := s1 i (by omega) hi
        rw [kw_at hi, kw_at hp] at hu
        rw [dec_t (by omega), w64 (x := (i : Int) - 1) (by omega), show (i : Int) - 1 = ((i - 1 : Nat) : Int) by omega, idx_lt hp]
        simp only [cond_true, Option.bind_some]
        rw [iLessA, less_key hz (hsg _ (List.getElem_mem hp)), dec_f (by omega)]
        simp only [Option.bind_some, Bool.not_true, cond_false]
        rw [w64 (by omega)]
        rfl
      · rw [dec_f (by omega), w64 (x := (i : Int) + 1) (by omega)]
        rfl) (fun u => by simp [laws_FnSorted_l0]) (), lgo_fold (fun s _ => s) (fun _ _ _ => rfl)]
    exact hlast
end Go.VxW
