/-
  FnAgain: tasks that come again: how long one takes at most is when its first coming is done; the law.
-/
import Derived.Test.YtkmcnmjjfgahpaaVpU
import Derived.Test.YtkmcnmjjfgahpaaVpT
open Go Go.VS
namespace Go.VxW

theorem ixf_impl_Again {l : List Again} (hl : l.length < 2 ^ 60) {g : Again → Option Bool} (p : Again → Bool) (hg : ∀ x ∈ l, g x = some (p x)) : slices_IndexFunc_impl_Again l g = some (ixF p l) := by
  unfold slices_IndexFunc_impl_Again
  rw [ixf_go p (f := slices_IndexFunc_impl_Again_l0 l g) (fun _ => rfl) hl hg]
  have := ixF_ge p l
  by_cases h : ixF p l < 0
  · rw [if_pos h]; simp; omega
  · rw [if_neg h]; rfl
theorem cf_impl_Again {l : List Again} (hl : l.length < 2 ^ 60) {g : Again → Option Bool} (p : Again → Bool) (hg : ∀ x ∈ l, g x = some (p x)) : slices_ContainsFunc_impl_Again l g = some (l.any p) := by
  unfold slices_ContainsFunc_impl_Again
  rw [ixf_impl_Again hl p hg, Option.bind_some, ixF_any]
def agB1 (x : Again) : Bool := inB x.Need 1 10 && inB x.Every x.Need 40
def agB (l : List Again) : Bool := decide (l.length ≤ 5) && l.all agB1
theorem iAg {l : List Again} (hl : l.length ≤ 1048576) : impl_GoodAgain l = some (agB l) := by
  unfold impl_GoodAgain agB
  rw [cf_impl_Again (by omega) (fun w => !agB1 w) (fun w _ => by
    unfold impl_GoodAgain_1 agB1
    rw [iIn, iIn]
    cases inB w.Need 1 10 <;> rfl)]
  have : (!l.any fun w => !agB1 w) = l.all agB1 := by simp [List.all_eq_not_any_not]
  simp only [Option.bind_some, this]
  by_cases h : l.length ≤ 5
  · rw [dec_t (by omega), dec_t h]; rfl
  · rw [dec_f (by omega), dec_f h]; rfl
theorem sAg {l : List Again} (hl : l.length ≤ 1048576) : spec_GoodAgain l = some (agB l) := by
  unfold spec_GoodAgain agB
  rw [whl_lg l (spec_GoodAgain_l0 l) (fun k (_ : Unit) => k) (fun _ x s => if agB1 x then .next s else .done (.done false)) (fun _ => .next ()) (fun k hk s => by
    simp only [spec_GoodAgain_l0]
    rw [dec_t (by omega), idx_lt hk, w64 (by omega)]
    simp only [cond_true, Option.bind_some, sIn]
    by_cases h1 : inB l[k].Need 1 10 = true <;> by_cases h2 : inB l[k].Every l[k].Need 40 = true <;> simp [agB1, h1, h2, LR.mapN]) (fun s => by simp [spec_GoodAgain_l0]) (), lgo_all _ _ (fun _ _ _ => rfl)]
  have : decide ((l.length : Int) ≤ 5) = decide (l.length ≤ 5) := by
    by_cases h : l.length ≤ 5
    · rw [dec_t (by omega), dec_t h]
    · rw [dec_f (by omega), dec_f h]
  cases l.all agB1 <;> simp [this]
def goodT (x : Again) : Prop := (1 ≤ x.Need ∧ x.Need ≤ 10) ∧ x.Need ≤ x.Every ∧ x.Every ≤ 40
theorem agB_iff {l : List Again} (h : agB l = true) : l.length ≤ 5 ∧ ∀ x ∈ l, goodT x := by
  unfold agB agB1 at h
  simp only [Bool.and_eq_true, decide_eq_true_eq, List.all_eq_true, inB_iff] at h
  exact ⟨h.1, h.2⟩
theorem iOne {l : List Again} {k : Int} (hl : l.length ≤ 1048576) : impl_isOne l k = some (agB l && inB k 0 ((l.length : Int) - 1)) := by
  unfold impl_isOne
  rw [iAg hl, iIn, w64 (by omega)]
  cases agB l <;> rfl
theorem sThere {l : List Again} {k : Int} (hl : l.length ≤ 1048576) : spec_l6There l k = some (agB l && inB k 0 ((l.length : Int) - 1)) := by
  unfold spec_l6There
  rw [sAg hl]
  cases agB l
  · rfl
  · simp only [Option.bind_some, cond_true, Bool.true_and, inB]
    by_cases h : 0 ≤ k
    · rw [dec_t h]
      simp only [cond_true, Bool.true_and, Option.some.injEq]
      by_cases h2 : k < l.length
      · rw [dec_t h2, dec_t (by omega)]
      · rw [dec_f h2, dec_f (by omega)]
    · rw [dec_f h]; rfl

/-! a slot -/
def arrL (t : Int) : List Again → List Int → List Int
  | x :: xs, y :: ys => (if t % x.Every = 0 then y + x.Need else y) :: arrL t xs ys
  | _, ys => ys
def posB (y : Int) : Bool := decide (0 < y)
theorem arrL_len (t : Int) : ∀ (l : List Again) (ys : List Int), (arrL t l ys).length = ys.length
  | [], ys => by simp [arrL]
  | x :: xs, [] => by simp [arrL]
  | x :: xs, y :: ys => by simp [arrL, arrL_len t xs ys]
theorem slot_go {l : List Again} (h5 : l.length ≤ 5) (hT : ∀ x ∈ l, goodT x) {t : Nat} (ht : t ≤ 1000) : ∀ (n k : Nat) (ys : List Int) (own B : Int), k + n = l.length → ys.length = l.length → (∀ y ∈ ys, 0 ≤ y ∧ y ≤ B) → B + 10 * n ≤ 1000000000 →
    whl (impl_run_l0 l t) (ys, own, (k : Int)) = some (ys.take k ++ arrL t (l.drop k) (ys.drop k), if 0 ≤ own then own else if ixF posB (arrL t (l.drop k) (ys.drop k)) < 0 then own else k + ixF posB (arrL t (l.drop k) (ys.drop k))) := by
  intro n
  induction n with
  | zero =>
    intro k ys own B h1 h2 h3 hB
    rw [whl_eq]
    simp only [impl_run_l0]
    rw [dec_f (by omega), List.drop_eq_nil_of_le (by omega), List.drop_eq_nil_of_le (by omega), List.take_of_length_le (by omega)]
    simp [arrL, ixF]
  | succ n ih =>
    intro k ys own B h1 h2 h3 hB
    have hk : k < l.length := by omega
    have hk2 : k < ys.length := by omega
    have hx := hT _ (List.getElem_mem hk)
    have hy := h3 _ (List.getElem_mem hk2)
    unfold goodT at hx
    obtain ⟨v, hv⟩ : ∃ v, v = (if (t : Int) % l[k].Every = 0 then ys[k] + l[k].Need else ys[k]) := ⟨_, rfl⟩
    have hv0 : 0 ≤ v ∧ v ≤ ys[k] + 10 := by rw [hv]; split <;> omega
    have harr : arrL t (l.drop k) (ys.drop k) = v :: arrL t (l.drop (k + 1)) (ys.drop (k + 1)) := by
      rw [List.drop_eq_getElem_cons hk, List.drop_eq_getElem_cons hk2, hv]; rfl
    rw [whl_eq, harr]
    simp only [impl_run_l0]
    rw [dec_t (by omega), idx_lt hk]
    simp only [cond_true, Option.bind_some]
    rw [md_in (by omega) (by omega)]
    have e1 : (bif (t : Int) % l[k].Every == 0 then (idx ys k).bind fun b65 => (idx ys k).bind fun _ => some (ys.set (k : Int).toNat (IntKind.i64.wrap (b65 + l[k].Need))) else some ys) = some (ys.set k v) := by
      by_cases h : (t : Int) % l[k].Every = 0
      · rw [show ((t : Int) % l[k].Every == 0) = true by simpa using h, hv, if_pos h, idx_lt hk2]
        simp only [cond_true, Option.bind_some, Int.toNat_natCast]
        rw [w64 (by omega)]
      · rw [show ((t : Int) % l[k].Every == 0) = false by simpa using h, hv, if_neg h]
        simp
    simp only [Option.bind_some]
    rw [e1]
    simp only [Option.bind_some]
    rw [idx_set hk2]
    simp only [Option.bind_some]
    rw [w64 (x := (k : Int) + 1) (by omega), show (k : Int) + 1 = ((k + 1 : Nat) : Int) by omega]
    have hlen : (ys.set k v).length = l.length := by simpa using h2
    have hbd : ∀ y ∈ ys.set k v, 0 ≤ y ∧ y ≤ B + 10 := by
      intro y hy
      rcases List.mem_or_eq_of_mem_set hy with h | rfl
      · have := h3 y h; omega
      · omega
    have e2 : (ys.set k v).take (k + 1) = ys.take k ++ [v] := by
      rw [List.take_succ_eq_append_getElem (by simpa using hk2), List.take_set_of_le (Nat.le_refl k)]
      simp
    have e3 : (ys.set k v).drop (k + 1) = ys.drop (k + 1) := by rw [List.drop_set_of_lt (by omega)]
    have h2' : ∀ o : Int, whl (impl_run_l0 l t) (ys.set k v, o, ((k + 1 : Nat) : Int)) = _ := fun o => ih (k + 1) (ys.set k v) o (B + 10) (by omega) hlen hbd (by omega)
    rw [e2, e3] at h2'
    have hge := ixF_ge posB (arrL t (l.drop (k + 1)) (ys.drop (k + 1)))
    have hix : ixF posB (v :: arrL t (l.drop (k + 1)) (ys.drop (k + 1))) = if posB v then 0 else if ixF posB (arrL t (l.drop (k + 1)) (ys.drop (k + 1))) < 0 then -1 else ixF posB (arrL t (l.drop (k + 1)) (ys.drop (k + 1))) + 1 := rfl
    by_cases ho : own < 0
    · rw [dec_t ho]
      simp only [cond_true, Option.bind_some]
      by_cases hp : 0 < v
      · rw [dec_t hp]
        simp only [cond_true, Option.bind_some]
        rw [h2', hix, show posB v = true from dec_t hp, if_pos (by omega)]
        simp only [if_true]
        rw [if_neg (by omega), if_neg (by omega)]
        simp
      · rw [dec_f hp]
        simp only [cond_false, Option.bind_some]
        have ho' : ¬ 0 ≤ own := by omega
        rw [h2', hix, show posB v = false from dec_f hp]
        simp only [if_neg ho', Bool.false_eq_true, if_false, List.append_assoc, List.singleton_append]
        by_cases hi : ixF posB (arrL t (l.drop (k + 1)) (ys.drop (k + 1))) < 0
        · simp only [if_pos hi]
          rw [if_pos (by omega)]
        · simp only [if_neg hi]
          rw [if_neg (by omega)]
          congr 2; omega
    · rw [dec_f ho]
      simp only [cond_false, Option.bind_some]
      rw [h2', if_pos (by omega), if_pos (by omega)]
      simp
def ownO (t : Int) (l : List Again) (ys : List Int) : Int := ixF posB (arrL t l ys)
def nextL (t : Int) (l : List Again) (ys : List Int) : List Int := if 0 ≤ ownO t l ys then (arrL t l ys).set (ownO t l ys).toNat ((arrL t l ys).getD (ownO t l ys).toNat 0 - 1) else arrL t l ys
def lf (l : List Again) : Nat → List Int
  | 0 => List.replicate l.length 0
  | t + 1 => nextL t l (lf l t)
def ow (l : List Again) (t : Nat) : Int := ownO t l (lf l t)
theorem nextL_len (t : Int) (l : List Again) (ys : List Int) : (nextL t l ys).length = ys.length := by
  unfold nextL; split <;> simp [arrL_len]
theorem lf_len (l : List Again) (t : Nat) : (lf l t).length = l.length := by
  induction t with
  | zero => simp [lf]
  | succ t ih => simp only [lf, nextL_len, ih]
theorem arrL_in (t B : Int) : ∀ (l : List Again) (ys : List Int), (∀ x ∈ l, goodT x) → (∀ y ∈ ys, 0 ≤ y ∧ y ≤ B) → ∀ y ∈ arrL t l ys, 0 ≤ y ∧ y ≤ B + 10
  | [], ys, _, h => fun y hy => by have := h y (by simpa [arrL] using hy); omega
  | x :: xs, [], _, h => by simp [arrL]
  | x :: xs, y :: ys, hT, h => by
    intro z hz
    have hx := hT x (by simp)
    have hy := h y (by simp)
    unfold goodT at hx
    simp only [arrL, List.mem_cons] at hz
    rcases hz with rfl | hz
    · split <;> omega
    · exact arrL_in t B xs ys (fun a ha => hT a (by simp [ha])) (fun a ha => h a (by simp [ha])) z hz
theorem own_at {t : Int} {l : List Again} {ys : List Int} (h : 0 ≤ ownO t l ys) : (ownO t l ys).toNat < (arrL t l ys).length ∧ 0 < (arrL t l ys).getD (ownO t l ys).toNat 0 := by
  obtain ⟨x, h1, h2, _⟩ := ixF_get posB (arrL t l ys) h
  have hh := ixF_ge posB (arrL t l ys)
  unfold ownO at h ⊢
  refine ⟨by omega, ?_⟩
  rw [List.getD_eq_getElem?_getD, h1]
  simpa [posB] using h2
theorem lf_in {l : List Again} (hT : ∀ x ∈ l, goodT x) (t : Nat) : ∀ y ∈ lf l t, 0 ≤ y ∧ y ≤ 10 * t := by
  induction t with
  | zero => intro y hy; rw [List.eq_of_mem_replicate hy]; omega
  | succ t ih =>
    intro y hy
    have ha := arrL_in t (10 * t) l (lf l t) hT ih
    simp only [lf, nextL] at hy
    split at hy
    · rename_i h
      obtain ⟨o1, o2⟩ := own_at h
      rcases List.mem_or_eq_of_mem_set hy with h | rfl
      · have := ha y h; omega
      · rw [List.getD_eq_getElem?_getD, List.getElem?_eq_getElem o1] at o2 ⊢
        have := ha _ (List.getElem_mem o1)
        simp only [Option.getD_some] at o2 ⊢
        omega
    · have := ha y hy; omega
def outL (l : List Again) : Nat → Nat → List Int
  | 0, _ => []
  | j + 1, t => ow l t :: outL l j (t + 1)
theorem outL_len (l : List Again) : ∀ (j t : Nat), (outL l j t).length = j
  | 0, _ => rfl
  | j + 1, t => by simp [outL, outL_len l j (t + 1)]
theorem outL_get (l : List Again) : ∀ (j t i : Nat), i < j → (outL l j t)[i]? = some (ow l (t + i))
  | 0, _, _, h => by omega
  | j + 1, t, 0, _ => by simp [outL]
  | j + 1, t, i + 1, h => by
    simp only [outL, List.getElem?_cons_succ]
    rw [outL_get l j (t + 1) i (by omega)]
    congr 2; omega
theorem slot_one {l : List Again} (h5 : l.length ≤ 5) (hT : ∀ x ∈ l, goodT x) {t : Nat} (ht : t ≤ 1000) : whl (impl_run_l0 l t) (lf l t, -1, 0) = some (arrL t l (lf l t), ow l t) := by
  have := slot_go h5 hT ht l.length 0 (lf l t) (-1) (10 * t) (by omega) (lf_len l t) (lf_in hT t) (by omega)
  rw [show ((0 : Nat) : Int) = 0 from rfl] at this
  rw [this]
  have hge := ixF_ge posB (arrL t l (lf l t))
  simp only [List.take_zero, List.drop_zero, List.nil_append, ow, ownO]
  rw [if_neg (by omega)]
  by_cases h : ixF posB (arrL t l (lf l t)) < 0
  · rw [if_pos h, show ixF posB (arrL t l (lf l t)) = -1 by omega]
  · rw [if_neg h, Int.zero_add]
theorem dec_one {l : List Again} {t : Nat} (hT : ∀ x ∈ l, goodT x) (ht : t ≤ 1000) : (bif decide (0 ≤ ow l t) then (idx (arrL t l (lf l t)) (ow l t)).bind fun b91 => (idx (arrL t l (lf l t)) (ow l t)).bind fun _ => some ((arrL t l (lf l t)).set (ow l t).toNat (IntKind.i64.wrap (b91 - 1))) else some (arrL t l (lf l t))) = some (lf l (t + 1)) := by
  simp only [lf, nextL]
  by_cases h : 0 ≤ ow l t
  · have h' : 0 ≤ ownO t l (lf l t) := h
    obtain ⟨o1, o2⟩ := own_at h'
    have ha := arrL_in t (10 * t) l (lf l t) hT (lf_in hT t)
    have e : ow l t = ownO t l (lf l t) := rfl
    rw [dec_t h, if_pos h', e]
    have hin := ha _ (List.getElem_mem o1)
    rw [idx_in h' (by omega)]
    simp only [cond_true, Option.bind_some]
    rw [w64 (by omega), List.getD_eq_getElem?_getD, List.getElem?_eq_getElem o1]
    rfl
  · have h' : ¬ 0 ≤ ownO t l (lf l t) := h
    rw [dec_f h, if_neg h']; rfl
theorem iRun_go {l : List Again} (h5 : l.length ≤ 5) (hT : ∀ x ∈ l, goodT x) {m : Nat} (hm : m ≤ 200) : ∀ (j t : Nat) (out : List Int), t + j = m → out.length = t → whl (impl_run_l1 l m) (out, lf l t, (t : Int)) = some (out ++ outL l j t) := by
  intro j
  induction j with
  | zero =>
    intro t out h1 h2
    rw [whl_eq]
    simp only [impl_run_l1]
    rw [dec_f (by omega)]
    simp [outL]
  | succ j ih =>
    intro t out h1 h2
    rw [whl_eq]
    simp only [impl_run_l1]
    rw [dec_t (by omega), slot_one h5 hT (by omega)]
    simp only [cond_true, Option.bind_some]
    rw [dec_one hT (by omega)]
    simp only [Option.bind_some]
    rw [app_in (by simp <;> omega) (by omega)]
    simp only [Option.bind_some]
    rw [w64 (by omega), show (t : Int) + 1 = ((t + 1 : Nat) : Int) by omega, ih (t + 1) _ (by omega) (by simp [h2])]
    simp [outL]
theorem sRun_go {l : List Again} (h5 : l.length ≤ 5) (hT : ∀ x ∈ l, goodT x) {m : Nat} (hm : m ≤ 200) : ∀ (j t : Nat) (out : List Int), t + j = m → out.length = t → whl (spec_l6Run_l1 l m) (lf l t, out, (t : Int)) = some (out ++ outL l j t) := by
  intro j
  induction j with
  | zero =>
    intro t out h1 h2
    rw [whl_eq]
    simp only [spec_l6Run_l1]
    rw [dec_f (by omega)]
    simp [outL]
  | succ j ih =>
    intro t out h1 h2
    rw [whl_eq]
    simp only [spec_l6Run_l1]
    rw [show spec_l6Run_l0 = impl_run_l0 from rfl, dec_t (by omega), slot_one h5 hT (by omega)]
    simp only [cond_true, Option.bind_some]
    rw [dec_one hT (by omega)]
    simp only [Option.bind_some]
    rw [app_in (by simp <;> omega) (by omega)]
    simp only [Option.bind_some]
    rw [w64 (by omega), show (t : Int) + 1 = ((t + 1 : Nat) : Int) by omega, ih (t + 1) _ (by omega) (by simp [h2])]
    simp [outL]
theorem iRun {l : List Again} (h5 : l.length ≤ 5) (hT : ∀ x ∈ l, goodT x) {m : Nat} (hm : m ≤ 200) : impl_run l m = some (outL l m 0) := by
  unfold impl_run
  rw [mkL_in (by omega) (by omega) (by omega)]
  simp only [Option.bind_some, Int.toNat_natCast]
  have := iRun_go h5 hT hm m 0 [] (by omega) rfl
  rw [show ((0 : Nat) : Int) = 0 from rfl] at this
  simp only [lf] at this
  rw [this]; simp
theorem sRun {l : List Again} (h5 : l.length ≤ 5) (hT : ∀ x ∈ l, goodT x) {m : Nat} (hm : m ≤ 200) : spec_l6Run l m = some (outL l m 0) := by
  unfold spec_l6Run
  rw [mkL_in (by omega) (by omega) (by omega)]
  simp only [Option.bind_some, Int.toNat_natCast]
  have := sRun_go h5 hT hm m 0 [] (by omega) rfl
  rw [show ((0 : Nat) : Int) = 0 from rfl] at this
  simp only [lf] at this
  rw [this]; simp
end Go.VxW
