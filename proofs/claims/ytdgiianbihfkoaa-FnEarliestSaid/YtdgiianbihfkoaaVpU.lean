/-
  Flows: what conforms, what passes, what waits.
-/
import Derived.Test.YtdgiianbihfkoaaVpR
open Go Go.VS
namespace Go.VxW

theorem ixf_int {l : List Int} (hl : l.length < 2 ^ 60) {g : Int → Option Bool} (p : Int → Bool) (hg : ∀ x ∈ l, g x = some (p x)) : slices_IndexFunc_int l g = some (ixF p l) := by
  unfold slices_IndexFunc_int
  rw [ixf_go p (f := slices_IndexFunc_int_l0 l g) (fun _ => rfl) hl hg]
  have := ixF_ge p l
  by_cases h : ixF p l < 0
  · rw [if_pos h]; simp; omega
  · rw [if_neg h]; rfl
theorem cf_int {l : List Int} (hl : l.length < 2 ^ 60) {g : Int → Option Bool} (p : Int → Bool) (hg : ∀ x ∈ l, g x = some (p x)) : slices_ContainsFunc_int l g = some (l.any p) := by
  unfold slices_ContainsFunc_int
  rw [ixf_int hl p hg, Option.bind_some, ixF_any]
def flowB (l : List Int) : Bool := decide (l.length ≤ 40) && l.all (inB · 0 60)
def rateB (r d : Int) : Bool := inB r 1 20 && inB d 1 60
theorem iFlow {l : List Int} (hl : l.length ≤ 1048576) : impl_isFlow l = some (flowB l) := by
  unfold impl_isFlow flowB
  by_cases h : l.length ≤ 40
  · rw [dec_t (by omega), cond_true, cf_int (by omega) (fun x => !inB x 0 60) (fun x _ => by simp [impl_isFlow_1, iIn])]
    simp [h, List.all_eq_not_any_not]
  · rw [dec_f (by omega)]; simp [h]
theorem sFlow {l : List Int} (hl : l.length ≤ 1048576) : spec_l7Flow l = some (flowB l) := by
  unfold spec_l7Flow flowB
  by_cases h : l.length ≤ 40
  · rw [dec_t (by omega), cond_true, sAll hl]; simp [h]
  · rw [dec_f (by omega)]; simp [h]
theorem iRate (r d : Int) : impl_isRate r d = some (rateB r d) := by
  unfold impl_isRate rateB
  rw [iIn, iIn]
  cases inB r 1 20 <;> rfl
theorem sRate (r d : Int) : spec_l7Rate r d = some (rateB r d) := by
  unfold spec_l7Rate rateB
  rw [sIn, sIn]
  cases inB r 1 20 <;> rfl
theorem flow_iff {l : List Int} (h : flowB l = true) : l.length ≤ 40 ∧ ∀ x ∈ l, 0 ≤ x ∧ x ≤ 60 := by
  unfold flowB at h
  simp only [Bool.and_eq_true, decide_eq_true_eq, List.all_eq_true] at h
  exact ⟨h.1, fun x hx => inB_iff.1 (h.2 x hx)⟩

/-! what conforms -/
def okF (r d : Int) : List Int → Int → Int → Bool
  | [], _, _ => true
  | x :: xs, k, s => if d + r * k < s + x then false else okF r d xs (k + 1) (s + x)
def okT (r d : Int) : List Int → Bool
  | [] => true
  | x :: xs => okF r d (x :: xs) 0 0 && okT r d xs
abbrev CR := LR Unit (LR Int (LR Unit (Bool × Bool)))
theorem lgo_okF {r d : Int} {q : CR} {g : Nat → Int → Int → LR Int CR} (hg : ∀ k x s, g k x s = if d + r * k < s + x then .done q else .next (s + x)) (l : List Int) (k : Nat) (s : Int) :
    lgo g (fun _ => .next ()) k l s = if okF r d l k s then .next () else q := by
  induction l generalizing k s with
  | nil => simp [lgo, okF]
  | cons x xs ih =>
    simp only [lgo, hg, okF]
    by_cases h : d + r * k < s + x
    · simp [h]
    · simp only [h, if_false]
      rw [ih]; rfl
theorem mul_small {r : Int} {k : Nat} (hr : 1 ≤ r ∧ r ≤ 20) (hk : k ≤ 40) : 0 ≤ r * (k : Int) ∧ r * (k : Int) ≤ 800 :=
  ⟨Int.mul_nonneg (by omega) (by omega), Int.le_trans (Int.mul_le_mul hr.2 (by omega : (k : Int) ≤ 40) (by omega) (by omega)) (by omega)⟩
theorem iOk {r d : Int} {l : List Int} (hr : 1 ≤ r ∧ r ≤ 20) (hd : 1 ≤ d ∧ d ≤ 60) (h40 : l.length ≤ 40) (hl : ∀ x ∈ l, 0 ≤ x ∧ x ≤ 60) :
    whl (impl_Conforms_l0 r d l) (0, 0) = some (if okF r d l 0 0 then .next () else .done (.done (.done (false, true)))) := by
  rw [whl_lgo l (impl_Conforms_l0 r d l) (fun k (s : Int) => (s, k)) (fun k x s => if d + r * k < s + x then .done (.done (.done (.done (false, true)))) else .next (s + x)) (fun _ => .next ())
    (fun k s => 0 ≤ s ∧ s ≤ 60 * k) (fun k hk s hs => by
    simp only [impl_Conforms_l0]
    rw [dec_t (by omega), idx_lt hk]
    have hx := hl _ (List.getElem_mem hk)
    have hm := mul_small hr (k := k) (by omega)
    simp only [cond_true, Option.bind_some]
    rw [w64 (x := r * (k : Int)) (by omega), w64 (by omega), w64 (by omega), w64 (by omega)]
    by_cases h : d + r * k < s + l[k]
    · rw [dec_t h, if_pos h]; exact ⟨rfl, fun s' h => by simp at h⟩
    · rw [dec_f h, if_neg h]
      refine ⟨rfl, fun s' h => ?_⟩
      simp only [LR.next.injEq] at h
      omega) (fun s _ => by simp [impl_Conforms_l0]) 0 (by simp), lgo_okF (fun _ _ _ => rfl)]
  rfl
theorem sOk {r d : Int} {l : List Int} {i : Nat} (hr : 1 ≤ r ∧ r ≤ 20) (hd : 1 ≤ d ∧ d ≤ 60) (h40 : l.length ≤ 40) (hl : ∀ x ∈ l, 0 ≤ x ∧ x ≤ 60) (hi : i ≤ l.length) :
    whl (spec_Conforms_l0 r d l i) (0, (i : Int)) = some (if okF r d (l.drop i) 0 0 then .next () else .done (.done (.done (false, true)))) := by
  have := whl_lgo (l.drop i) (spec_Conforms_l0 r d l i) (fun k (s : Int) => (s, (i : Int) + k)) (fun k x s => if d + r * k < s + x then .done (.done (.done (.done (false, true)))) else .next (s + x)) (fun _ => .next ())
    (fun k s => 0 ≤ s ∧ s ≤ 60 * k) (fun k hk s hs => by
    rw [List.length_drop] at hk
    simp only [spec_Conforms_l0]
    rw [dec_t (by omega), show (i : Int) + (k : Int) = ((i + k : Nat) : Int) by omega, idx_lt (by omega)]
    have hx := hl _ (List.getElem_mem (show i + k < l.length by omega))
    have hm := mul_small hr (k := k) (by omega)
    simp only [cond_true, Option.bind_some, List.getElem_drop]
    rw [w64 (x := ((i + k : Nat) : Int) - (i : Int)) (by omega), show ((i + k : Nat) : Int) - (i : Int) = k by omega, w64 (x := r * (k : Int)) (by omega), w64 (by omega), w64 (by omega), w64 (by omega)]
    by_cases h : d + r * k < s + l[i + k]
    · rw [dec_t h, if_pos h]; exact ⟨rfl, fun s' h => by simp at h⟩
    · rw [dec_f h, if_neg h]
      refine ⟨by simp only [LR.mapN, cond_false]; rw [show ((i + k : Nat) : Int) + 1 = (i : Int) + ((k : Int) + 1) by omega], fun s' h => ?_⟩
      simp only [LR.next.injEq] at h
      omega) (fun s _ => by
    simp only [spec_Conforms_l0, List.length_drop]
    rw [dec_f (by omega)]; rfl) 0 (by simp)
  rw [show (i : Int) + 0 = i by omega] at this
  rw [this, lgo_okF (fun _ _ _ => rfl)]
  rfl
def conF (r d : Int) (l : List Int) : Bool × Bool := if rateB r d && flowB l then (okT r d l, true) else (false, false)
abbrev CQ := LR Unit (Bool × Bool)
theorem lgo_okT {r d : Int} {l0 : List Int} {q : CQ} {g : Nat → Int → Unit → LR Unit CQ} (hg : ∀ k x s, g k x s = if okF r d (l0.drop k) 0 0 then .next () else .done q) (l : List Int) (k : Nat) (s : Unit) (hl : l0.drop k = l) :
    lgo g (fun _ => .next ()) k l s = if okT r d l then .next () else q := by
  induction l generalizing k s with
  | nil => simp [lgo, okT]
  | cons x xs ih =>
    simp only [lgo, hg, okT, hl]
    by_cases h : okF r d (x :: xs) 0 0 = true
    · simp only [h, if_true, Bool.true_and]
      rw [ih (k + 1) () (by rw [← List.drop_drop, hl]; rfl)]
    · simp [h]
theorem iCon {r d : Int} {l : List Int} (hl : l.length ≤ 1048576) : impl_Conforms r d l = some (conF r d l) := by
  unfold impl_Conforms conF
  rw [iRate, iFlow hl]
  cases hr : rateB r d
  · rfl
  cases hf : flowB l
  · rfl
  obtain ⟨f1, f2⟩ := flow_iff hf
  unfold rateB at hr
  simp only [Bool.and_eq_true, inB_iff] at hr
  simp only [Option.bind_some, Bool.not_true, cond_false, Bool.and_self, if_true]
  rw [whl_lg l (impl_Conforms_l1 r d l) (fun k (_ : Unit) => k) (fun k _ _ => if okF r d (l.drop k) 0 0 then .next () else .done (.done (false, true))) (fun _ => .next ()) (fun k hk s => by
    simp only [impl_Conforms_l1]
    rw [dec_t (by omega), slc_in (by omega) (by omega) (by omega)]
    simp only [cond_true, Option.bind_some, Int.toNat_natCast]
    rw [List.take_of_length_le (by simp), iOk hr.1 hr.2 (by simp <;> omega) (fun x hx => f2 x (List.mem_of_mem_drop hx)), w64 (by omega)]
    cases okF r d (l.drop k) 0 0 <;> rfl) (fun s => by simp [impl_Conforms_l1]) (), lgo_okT (fun _ _ _ => rfl) _ _ _ (by simp)]
  cases okT r d l <;> rfl
theorem sCon {r d : Int} {l : List Int} (hl : l.length ≤ 1048576) : spec_Conforms r d l = some (conF r d l) := by
  unfold spec_Conforms conF
  rw [sRate, sFlow hl]
  cases hr : rateB r d
  · rfl
  cases hf : flowB l
  · rfl
  obtain ⟨f1, f2⟩ := flow_iff hf
  unfold rateB at hr
  simp only [Bool.and_eq_true, inB_iff] at hr
  simp only [Option.bind_some, Bool.not_true, cond_false, Bool.and_self, if_true]
  rw [whl_lg l (spec_Conforms_l1 r d l) (fun k (_ : Unit) => k) (fun k _ _ => if okF r d (l.drop k) 0 0 then .next () else .done (.done (false, true))) (fun _ => .next ()) (fun k hk s => by
    simp only [spec_Conforms_l1]
    rw [dec_t (by omega)]
    simp only [cond_true]
    rw [sOk hr.1 hr.2 f1 f2 (by omega), w64 (by omega)]
    cases okF r d (l.drop k) 0 0 <;> rfl) (fun s => by simp [spec_Conforms_l1]) (), lgo_okT (fun _ _ _ => rfl) _ _ _ (by simp)]
  cases okT r d l <;> rfl

/-! what passes -/
def passF (m : Int) : List Int → Int → List Int × List Int
  | [], _ => ([], [])
  | x :: xs, w => (leastF (w + x) m :: (passF m xs (w + x - leastF (w + x) m)).1, (w + x - leastF (w + x) m) :: (passF m xs (w + x - leastF (w + x) m)).2)
def passLF (l : List Int) (m : Int) : List Int × List Int × Bool := if flowB l && inB m 1 60 then ((passF m l 0).1, (passF m l 0).2, true) else ([], [], false)
def passU (m : Int) (s : List Int × List Int × Int) (x : Int) : List Int × List Int × Int := (s.1 ++ [leastF (s.2.2 + x) m], s.2.1 ++ [s.2.2 + x - leastF (s.2.2 + x) m], s.2.2 + x - leastF (s.2.2 + x) m)
theorem pass_fold (m : Int) (l : List Int) (a b : List Int) (w : Int) : ((l.foldl (passU m) (a, b, w)).1, (l.foldl (passU m) (a, b, w)).2.1) = (a ++ (passF m l w).1, b ++ (passF m l w).2) := by
  induction l generalizing a b w with
  | nil => simp [passF]
  | cons x xs ih =>
    simp only [List.foldl_cons, passU, passF]
    rw [ih]
    simp
theorem least_le (a b : Int) : leastF a b ≤ a ∧ leastF a b ≤ b ∧ (leastF a b = a ∨ leastF a b = b) := by unfold leastF; split <;> omega
theorem iPass {l : List Int} {m : Int} (hl : l.length ≤ 1048576) : impl_PassThrough l m = some (passLF l m) := by
  unfold impl_PassThrough passLF
  rw [iFlow hl, iIn]
  cases hf : flowB l
  · rfl
  cases hm : inB m 1 60
  · rfl
  obtain ⟨f1, f2⟩ := flow_iff hf
  rw [inB_iff] at hm
  simp only [Option.bind_some, Bool.not_true, cond_false, Bool.and_self, if_true, impl_serve]
  rw [whl_lgo l _ (fun k (s : List Int × List Int × Int) => (s.1, s.2.1, s.2.2, k)) (fun _ x s => .next (passU m s x)) (fun s => (s.1, s.2.1)) (fun k s => s.1.length = k ∧ s.2.1.length = k ∧ 0 ≤ s.2.2 ∧ s.2.2 ≤ 60 * k) (fun k hk s hs => by
    simp only [impl_serve_l0, impl_PassThrough_1]
    rw [dec_t (by omega), idx_lt hk]
    have hx := f2 _ (List.getElem_mem hk)
    simp only [cond_true, Option.bind_some]
    rw [w64 (x := s.2.2 + l[k]) (by omega)]
    have e : (if m < s.2.2 + l[k] then m else s.2.2 + l[k]) = leastF (s.2.2 + l[k]) m := by unfold leastF; split <;> split <;> omega
    have := least_le (s.2.2 + l[k]) m
    simp only [e]
    rw [app_in (by simp <;> omega) (by omega)]
    simp only [Option.bind_some]
    rw [app_in (by simp <;> omega) (by omega)]
    simp only [Option.bind_some]
    rw [w64 (by omega), w64 (by omega)]
    refine ⟨rfl, fun s' h => ?_⟩
    simp only [LR.next.injEq] at h
    subst h
    simp only [passU, List.length_append, List.length_singleton]
    omega) (fun s _ => by simp [impl_serve_l0]) ([], [], 0) (by simp), lgo_fold (passU m) (fun _ _ _ => rfl)]
  have := pass_fold m l [] [] 0
  simp only [Prod.mk.injEq, List.nil_append] at this
  simp [this.1, this.2]
theorem sPass {l : List Int} {m : Int} (hl : l.length ≤ 1048576) : spec_PassThrough l m = some (passLF l m) := by
  unfold spec_PassThrough passLF
  rw [sFlow hl, sIn]
  cases hf : flowB l
  · rfl
  cases hm : inB m 1 60
  · rfl
  obtain ⟨f1, f2⟩ := flow_iff hf
  rw [inB_iff] at hm
  simp only [Option.bind_some, Bool.not_true, cond_false, Bool.and_self, if_true]
  rw [whl_lgo l _ (fun k (s : List Int × List Int × Int) => (s.1, s.2.1, s.2.2, k)) (fun _ x s => .next (passU m s x)) (fun s => (s.1, s.2.1)) (fun k s => s.1.length = k ∧ s.2.1.length = k ∧ 0 ≤ s.2.2 ∧ s.2.2 ≤ 60 * k) (fun k hk s hs => by
    simp only [spec_PassThrough_l0, sLeast]
    rw [dec_t (by omega), idx_lt hk]
    have hx := f2 _ (List.getElem_mem hk)
    simp only [cond_true, Option.bind_some]
    rw [w64 (x := s.2.2 + l[k]) (by omega)]
    have := least_le (s.2.2 + l[k]) m
    rw [app_in (by simp <;> omega) (by omega)]
    simp only [Option.bind_some]
    rw [app_in (by simp <;> omega) (by omega)]
    simp only [Option.bind_some]
    rw [w64 (by omega), w64 (by omega)]
    refine ⟨rfl, fun s' h => ?_⟩
    simp only [LR.next.injEq] at h
    subst h
    simp only [passU, List.length_append, List.length_singleton]
    omega) (fun s _ => by simp [spec_PassThrough_l0]) ([], [], 0) (by simp), lgo_fold (passU m) (fun _ _ _ => rfl)]
  have := pass_fold m l [] [] 0
  simp only [Prod.mk.injEq, List.nil_append] at this
  simp [this.1, this.2]

/-! how long all waits -/
def comeF : List Int → Int → List Int
  | [], _ => []
  | x :: xs, s => (s + x) :: comeF xs (s + x)
def outB : List Int → List Int → Int → Int → Bool
  | x :: xs, o :: os, i, f => decide (0 ≤ o) && (decide (o ≤ i + x - f) && outB xs os (i + x) (f + o))
  | _, _, _, _ => true
def lagN (n : Int) (gs : List Int) : Nat := (gs.takeWhile fun g => decide (g < n)).length
theorem lagN_cons (n g : Int) (gs : List Int) : lagN n (g :: gs) = if g < n then lagN n gs + 1 else 0 := by
  by_cases h : g < n <;> simp [lagN, h]
def lagsF : List Int → List Int → Int → Int
  | n :: ns, g :: gs, w => lagsF ns gs (if (lagN n (g :: gs) : Int) > w then (lagN n (g :: gs) : Int) else w)
  | _, _, w => w
def worstF (l o : List Int) : Int × Bool := if flowB l && decide (o.length = l.length) && outB l o 0 0 then (lagsF (comeF l 0) (comeF o 0) 0, true) else (0, false)
theorem comeF_len (l : List Int) (s : Int) : (comeF l s).length = l.length := by
  induction l generalizing s with
  | nil => rfl
  | cons x xs ih => simp [comeF, ih]
/-- What has come, and what has gone, with what is checked of it. -/
def upF : List Int → List Int → Int → Int → List Int → List Int → Option (List Int × List Int)
  | x :: xs, o :: os, i, f, a, b => if 0 ≤ o ∧ o ≤ i + x - f then upF xs os (i + x) (f + o) (a ++ [i + x]) (b ++ [f + o]) else none
  | _, _, _, _, a, b => some (a, b)
theorem upF_eq : ∀ (l o : List Int) (i f : Int) (a b : List Int), o.length = l.length → upF l o i f a b = if outB l o i f then some (a ++ comeF l i, b ++ comeF o f) else none
  | [], [], i, f, a, b, _ => by simp [upF, outB, comeF]
  | [], _ :: _, _, _, _, _, h => by simp at h
  | _ :: _, [], _, _, _, _, h => by simp at h
  | x :: xs, o :: os, i, f, a, b, h => by
    simp only [upF, outB, comeF]
    by_cases hc : 0 ≤ o ∧ o ≤ i + x - f
    · rw [if_pos hc, upF_eq xs os _ _ _ _ (by simpa using h)]
      simp [hc.1, hc.2]
    · rw [if_neg hc]
      have : (decide (0 ≤ o) && (decide (o ≤ i + x - f) && outB xs os (i + x) (f + o))) = false := by
        by_cases h0 : 0 ≤ o
        · rw [dec_f (p := o ≤ i + x - f) (by omega)]; simp
        · rw [dec_f h0]; rfl
      simp [this]
theorem up_go {l o : List Int} (ho : o.length = l.length) (h40 : l.length ≤ 40) (hl : ∀ x ∈ l, 0 ≤ x ∧ x ≤ 60) :
    ∀ (n k : Nat) (a b : List Int) (i f : Int), k + n = l.length → a.length = k → b.length = k → 0 ≤ f → f ≤ i → i ≤ 60 * k →
    whl (impl_WorstDelay_l0 l o) (a, b, i, f, (k : Int)) = some (match upF (l.drop k) (o.drop k) i f a b with | some r => .next r | none => .done (0, false)) := by
  intro n
  induction n with
  | zero =>
    intro k a b i f h1 _ _ _ _ _
    rw [whl_eq, List.drop_eq_nil_of_le (by omega)]
    simp only [impl_WorstDelay_l0]
    rw [dec_f (by omega)]
    simp [upF]
  | succ n ih =>
    intro k a b i f h1 h2 h3 h4 h5 h6
    have hk : k < l.length := by omega
    have hx := hl _ (List.getElem_mem hk)
    rw [whl_eq, List.drop_eq_getElem_cons hk, List.drop_eq_getElem_cons (show k < o.length by omega)]
    simp only [impl_WorstDelay_l0, upF]
    rw [dec_t (by omega), idx_lt hk, idx_lt (show k < o.length by omega)]
    simp only [cond_true, Option.bind_some]
    rw [w64 (x := i + l[k]) (by omega), w64 (x := i + l[k] - f) (by omega)]
    by_cases h0 : 0 ≤ o[k]
    · rw [dec_f (p := o[k] < 0) (by omega)]
      simp only [cond_false]
      by_cases hc : o[k] ≤ i + l[k] - f
      · rw [dec_f (by omega), if_pos ⟨h0, hc⟩]
        simp only [Option.bind_some, cond_false]
        rw [w64 (x := f + o[k]) (by omega), app_in (by simp <;> omega) (by omega)]
        simp only [Option.bind_some]
        rw [app_in (by simp <;> omega) (by omega)]
        simp only [Option.bind_some]
        rw [w64 (by omega), show (k : Int) + 1 = ((k + 1 : Nat) : Int) by omega]
        exact ih (k + 1) _ _ _ _ (by omega) (by simp <;> omega) (by simp <;> omega) (by omega) (by omega) (by omega)
      · rw [dec_t (by omega), if_neg (by omega)]; rfl
    · rw [dec_t (p := o[k] < 0) (by omega), if_neg (by omega)]; rfl
theorem lag_go {gs : List Int} {i : Nat} {n : Int} (hi : i ≤ gs.length) (hg : gs.length ≤ 40) : whl (impl_WorstDelay_l1 gs i n) 0 = some (lagN n (gs.drop i) : Int) := by
  have : ∀ (m t : Nat), i + t + m = gs.length → whl (impl_WorstDelay_l1 gs i n) (t : Int) = some (t + lagN n (gs.drop (i + t)) : Int) := by
    intro m
    induction m with
    | zero =>
      intro t ht
      rw [whl_eq]
      simp only [impl_WorstDelay_l1]
      rw [w64 (by omega), dec_f (by omega), List.drop_eq_nil_of_le (by omega)]
      simp [lagN]
    | succ m ih =>
      intro t ht
      rw [whl_eq]
      simp only [impl_WorstDelay_l1]
      rw [w64 (x := (i : Int) + (t : Int)) (by omega), dec_t (by omega), show (i : Int) + (t : Int) = ((i + t : Nat) : Int) by omega, idx_lt (by omega), List.drop_eq_getElem_cons (show i + t < gs.length by omega)]
      simp only [cond_true, Option.bind_some, lagN, List.takeWhile_cons]
      by_cases hc : gs[i + t] < n
      · rw [dec_t hc, w64 (by omega)]
        simp only [cond_true, if_true, List.length_cons]
        have := ih (t + 1) (by omega)
        simp only [lagN] at this
        rw [show i + (t + 1) = i + t + 1 by omega, show ((t + 1 : Nat) : Int) = (t : Int) + 1 by omega] at this
        simp only [Option.bind_some]
        rw [this]
        congr 1; omega
      · rw [dec_f hc]; simp
  have h := this (gs.length - i) 0 (by omega)
  simpa using h
theorem lgo_lags {gs0 : List Int} {g : Nat → Int → Int → LR Int Int} (hg : ∀ k n w, g k n w = .next (if (lagN n (gs0.drop k) : Int) > w then (lagN n (gs0.drop k) : Int) else w)) (ns : List Int) (k : Nat) (w : Int) (gs : List Int) (hl : gs.length = ns.length) (hd : gs0.drop k = gs) :
    lgo g (fun w => w) k ns w = lagsF ns gs w := by
  induction ns generalizing k w gs with
  | nil => cases gs <;> simp [lgo, lagsF]
  | cons n ns ih =>
    cases gs with
    | nil => simp at hl
    | cons y ys =>
      simp only [lgo, hg, lagsF, hd]
      exact ih (k + 1) _ ys (by simpa using hl) (by rw [← List.drop_drop, hd]; rfl)
theorem iWorst {l o : List Int} (hl : l.length ≤ 1048576) (_ho : o.length ≤ 1048576) : impl_WorstDelay l o = some (worstF l o) := by
  unfold impl_WorstDelay worstF
  rw [iFlow hl]
  cases hf : flowB l
  · rfl
  obtain ⟨f1, f2⟩ := flow_iff hf
  simp only [Option.bind_some, Bool.not_true, cond_false, Bool.true_and]
  by_cases he : o.length = l.length
  · rw [show ((o.length : Int) != (l.length : Int)) = false by simp [he], dec_t he]
    simp only [cond_false, Bool.true_and]
    have h0 := up_go he f1 f2 l.length 0 [] [] 0 0 (by omega) rfl rfl (by omega) (by omega) (by omega)
    simp only [List.drop_zero, Int.natCast_zero, upF_eq l o _ _ _ _ he] at h0
    rw [h0]
    cases hb : outB l o 0 0
    · simp
    · simp only [if_true, List.nil_append, Option.bind_some]
      rw [whl_lg (comeF l 0) _ (fun k (w : Int) => (w, k)) (fun k n w => .next (if (lagN n ((comeF o 0).drop k) : Int) > w then (lagN n ((comeF o 0).drop k) : Int) else w)) (fun w => w) (fun k hk s => by
        simp only [impl_WorstDelay_l2]
        have hk' : k < l.length := by rw [comeF_len] at hk; exact hk
        rw [dec_t (by rw [comeF_len]; omega), idx_lt hk]
        simp only [cond_true, Option.bind_some]
        rw [lag_go (by rw [comeF_len]; omega) (by rw [comeF_len]; omega)]
        simp only [Option.bind_some]
        rw [w64 (by omega)]
        rfl) (fun s => by simp [impl_WorstDelay_l2]) 0, lgo_lags (fun _ _ _ => rfl) _ _ _ (comeF o 0) (by rw [comeF_len, comeF_len, he]) (by simp)]
      simp
  · rw [show ((o.length : Int) != (l.length : Int)) = true by simp <;> omega, dec_f he]; rfl
theorem outB_all : ∀ (l o : List Int) (i f : Int), o.length = l.length → outB l o i f = true → 0 ≤ f → (∀ x ∈ l, 0 ≤ x ∧ x ≤ 60) → i + 60 * l.length ≤ 2400 → o.all (inB · 0 2400) = true
  | [], [], _, _, _, _, _, _, _ => rfl
  | [], _ :: _, _, _, h, _, _, _, _ => by simp at h
  | _ :: _, [], _, _, h, _, _, _, _ => by simp at h
  | x :: xs, o :: os, i, f, h, hb, h0, hl, hi => by
    simp only [outB, Bool.and_eq_true, decide_eq_true_eq] at hb
    have hx := hl x (by simp)
    simp only [List.length_cons] at hi
    simp only [List.all_cons, Bool.and_eq_true]
    exact ⟨inB_iff.2 (by omega), outB_all xs os (i + x) (f + o) (by simpa using h) hb.2.2 (by omega) (fun y hy => hl y (by simp [hy])) (by omega)⟩
theorem chk_go {l o : List Int} (ho : o.length = l.length) (h40 : l.length ≤ 40) (hl : ∀ x ∈ l, 0 ≤ x ∧ x ≤ 60) (hO : ∀ y ∈ o, 0 ≤ y ∧ y ≤ 2400) :
    ∀ (n k : Nat) (i f : Int), k + n = l.length → 0 ≤ i → i ≤ 60 * k → 0 ≤ f → f ≤ 2400 * k →
    whl (spec_WorstDelay_l0 l o) (i, f, (k : Int)) = some (if outB (l.drop k) (o.drop k) i f = true then .next () else .done (0, false)) := by
  intro n
  induction n with
  | zero =>
    intro k i f h1 _ _ _ _
    rw [whl_eq, List.drop_eq_nil_of_le (by omega)]
    simp only [spec_WorstDelay_l0]
    rw [dec_f (by omega)]
    simp [outB]
  | succ n ih =>
    intro k i f h1 h2 h3 h4 h5
    have hk : k < l.length := by omega
    have hk' : k < o.length := by omega
    have hx := hl _ (List.getElem_mem hk)
    have hy := hO _ (List.getElem_mem hk')
    rw [whl_eq, List.drop_eq_getElem_cons hk, List.drop_eq_getElem_cons hk']
    simp only [spec_WorstDelay_l0, outB]
    rw [dec_t (by omega), idx_lt hk, idx_lt hk']
    simp only [cond_true, Option.bind_some]
    rw [w64 (x := i + l[k]) (by omega), w64 (x := f + o[k]) (by omega)]
    by_cases hc : o[k] ≤ i + l[k] - f
    · rw [dec_f (by omega), w64 (by omega)]
      simp only [cond_false, Option.bind_some, hc, hy.1, decide_true, Bool.true_and]
      rw [show (k : Int) + 1 = ((k + 1 : Nat) : Int) by omega]
      exact ih (k + 1) _ _ (by omega) (by omega) (by omega) (by omega) (by omega)
    · rw [dec_t (by omega)]
      simp [hc]
theorem run_go {o : List Int} {c x y : Int} (hO : ∀ y ∈ o, 0 ≤ y ∧ y ≤ 2400) (h40 : o.length ≤ 40) (hc : IntKind.i64.wrap (x + y) = c) :
    ∀ (m j : Nat) (s : Int), j + m = o.length → 0 ≤ s → s ≤ 2400 * j → ∃ (s' : Int) (j' : Nat), whl (spec_WorstDelay_l1 o x y) (s, (j : Int)) = some (s', (j' : Int)) ∧ j' ≤ 40 ∧
      (s < c → if lagN c (comeF (o.drop j) s) = m then s' < c else c ≤ s' ∧ j' = j + lagN c (comeF (o.drop j) s) + 1) ∧ (c ≤ s → s' = s ∧ j' = j) := by
  intro m
  induction m with
  | zero =>
    intro j s h1 h2 h3
    refine ⟨s, j, ?_, by omega, ?_, fun _ => ⟨rfl, rfl⟩⟩
    · rw [whl_eq]
      simp only [spec_WorstDelay_l1]
      rw [dec_f (by omega)]; rfl
    · intro h
      rw [List.drop_eq_nil_of_le (by omega)]
      simpa [lagN, comeF] using h
  | succ m ih =>
    intro j s h1 h2 h3
    have hj : j < o.length := by omega
    have hy := hO _ (List.getElem_mem hj)
    rw [whl_eq]
    simp only [spec_WorstDelay_l1]
    rw [dec_t (by omega), hc]
    simp only [cond_true, Option.bind_some]
    by_cases h : s < c
    · rw [dec_t h, idx_lt hj]
      simp only [cond_true, Option.bind_some]
      rw [w64 (x := s + o[j]) (by omega), w64 (by omega), show (j : Int) + 1 = ((j + 1 : Nat) : Int) by omega]
      obtain ⟨s', j', e, e0, e1, e2⟩ := ih (j + 1) (s + o[j]) (by omega) (by omega) (by omega)
      refine ⟨s', j', e, e0, fun _ => ?_, by omega⟩
      rw [List.drop_eq_getElem_cons hj]
      simp only [comeF, lagN_cons]
      by_cases hn : s + o[j] < c
      · have := e1 hn
        rw [if_pos hn]
        by_cases hq : lagN c (comeF (o.drop (j + 1)) (s + o[j])) = m
        · rw [if_pos hq] at this
          rw [if_pos (by omega)]; exact this
        · rw [if_neg hq] at this
          rw [if_neg (by omega)]; omega
      · obtain ⟨e3, e4⟩ := e2 (by omega)
        rw [if_neg hn, if_neg (by omega)]
        omega
    · rw [dec_f h]
      exact ⟨s, j, rfl, by omega, by omega, fun _ => ⟨rfl, rfl⟩⟩
theorem comeF_ge (o : List Int) (s : Int) (h : ∀ y ∈ o, 0 ≤ y) : ∀ g ∈ comeF o s, s ≤ g := by
  induction o generalizing s with
  | nil => simp [comeF]
  | cons x xs ih =>
    have hx := h x (by simp)
    intro g hg
    simp only [comeF, List.mem_cons] at hg
    rcases hg with rfl | hg
    · omega
    · have := ih (s + x) (fun y hy => h y (by simp [hy])) g hg
      omega
theorem comeF_up (o : List Int) (s : Int) (h : ∀ y ∈ o, 0 ≤ y) : (comeF o s).Pairwise (· ≤ ·) := by
  induction o generalizing s with
  | nil => simp [comeF]
  | cons x xs ih =>
    simp only [comeF, List.pairwise_cons]
    exact ⟨comeF_ge xs (s + x) (fun y hy => h y (by simp [hy])), ih _ (fun y hy => h y (by simp [hy]))⟩
theorem lag_drop (n : Int) : ∀ (gs : List Int) (k : Nat), gs.Pairwise (· ≤ ·) → lagN n (gs.drop k) = lagN n gs - k
  | [], k, _ => by simp [lagN]
  | g :: gs, 0, _ => by simp
  | g :: gs, k + 1, h => by
    simp only [List.drop_succ_cons]
    rw [List.pairwise_cons] at h
    rw [lag_drop n gs k h.2]
    by_cases hg : g < n
    · simp [lagN, hg]
    · have : lagN n gs = 0 := by
        cases gs with
        | nil => rfl
        | cons y ys =>
          have := h.1 y (by simp)
          have hy : ¬ y < n := by omega
          simp [lagN, hy]
      have e2 : lagN n (g :: gs) = 0 := by simp [lagN, hg]
      rw [this, e2]; omega
theorem lag_le (n : Int) (gs : List Int) : lagN n gs ≤ gs.length := (List.takeWhile_sublist _).length_le
def worstU (gs : List Int) (k : Nat) (n w : Int) : Int := if (lagN n gs : Int) - k > w then (lagN n gs : Int) - k else w
theorem lgo_worst {gs0 : List Int} (hup : gs0.Pairwise (· ≤ ·)) {g : Nat → Int → Int × Int → LR (Int × Int) Int} (hg : ∀ k x s, g k x s = .next (s.1 + x, worstU gs0 k (s.1 + x) s.2)) (l : List Int) (k : Nat) (c w : Int) (gs : List Int) (hw : 0 ≤ w) (hl : gs.length = l.length) (hd : gs0.drop k = gs) :
    lgo g (fun s => s.2) k l (c, w) = lagsF (comeF l c) gs w := by
  induction l generalizing k c w gs with
  | nil => cases gs <;> simp [lgo, lagsF, comeF]
  | cons x xs ih =>
    cases gs with
    | nil => simp at hl
    | cons y ys =>
      simp only [lgo, hg, lagsF, comeF]
      have e : worstU gs0 k (c + x) w = if (lagN (c + x) (y :: ys) : Int) > w then (lagN (c + x) (y :: ys) : Int) else w := by
        rw [← hd, lag_drop _ _ _ hup]
        unfold worstU
        split <;> split <;> omega
      rw [e]
      exact ih (k + 1) _ _ ys (by split <;> omega) (by simpa using hl) (by rw [← List.drop_drop, hd]; rfl)
theorem sMost (a b : Int) : spec_l1Most a b = some (if b < a then a else b) := by
  unfold spec_l1Most
  by_cases h : b < a
  · rw [dec_t h, if_pos h]; rfl
  · rw [dec_f h, if_neg h]; rfl
theorem sWorst {l o : List Int} (hl : l.length ≤ 1048576) (ho : o.length ≤ 1048576) : spec_WorstDelay l o = some (worstF l o) := by
  unfold spec_WorstDelay worstF
  rw [sFlow hl, sAll ho]
  cases hf : flowB l
  · rfl
  obtain ⟨f1, f2⟩ := flow_iff hf
  simp only [Option.bind_some, Bool.not_true, cond_false, Bool.true_and]
  by_cases he : o.length = l.length
  · rw [show ((o.length : Int) != (l.length : Int)) = false by simp [he], dec_t he]
    simp only [Bool.true_and]
    cases ha : o.all (inB · 0 2400)
    · have : outB l o 0 0 = false := by
        cases hb : outB l o 0 0
        · rfl
        · have := outB_all l o 0 0 he hb (by omega) f2 (by omega)
          rw [ha] at this; simp at this
      simp [this]
    · have hO : ∀ y ∈ o, 0 ≤ y ∧ y ≤ 2400 := fun y hy => inB_iff.1 (List.all_eq_true.1 ha y hy)
      simp only [Bool.not_true, cond_false, Option.bind_some]
      have h0 := chk_go he f1 f2 hO l.length 0 0 0 (by omega) (by omega) (by omega) (by omega) (by omega)
      simp only [List.drop_zero, Int.natCast_zero] at h0
      rw [h0]
      cases hb : outB l o 0 0
      · simp
      · simp only [if_true, Option.bind_some]
        have hup := comeF_up o 0 (fun y hy => (hO y hy).1)
        rw [whl_lgo l _ (fun k (s : Int × Int) => (s.1, s.2, k)) (fun k x s => .next (s.1 + x, worstU (comeF o 0) k (s.1 + x) s.2)) (fun s => s.2) (fun k s => (0 ≤ s.1 ∧ s.1 ≤ 60 * k) ∧ 0 ≤ s.2 ∧ s.2 ≤ 40) (fun k hk s hs => by
          obtain ⟨⟨s1, s2⟩, s3, s4⟩ := hs
          have hx := f2 _ (List.getElem_mem hk)
          simp only [spec_WorstDelay_l2]
          rw [dec_t (by omega), idx_lt hk]
          simp only [cond_true, Option.bind_some]
          have hc := w64 (x := s.1 + l[k]) (by omega)
          obtain ⟨s', j', e, e0, e1, e2⟩ := run_go hO (by omega) hc o.length 0 0 (by omega) (by omega) (by omega)
          simp only [Int.natCast_zero, List.drop_zero] at e e1
          have hle := lag_le (s.1 + l[k]) (comeF o 0)
          rw [comeF_len] at hle
          rw [e]
          simp only [Option.bind_some, sMost]
          rw [hc, w64 (x := (l.length : Int) - k) (by omega), w64 (x := (j' : Int) - 1) (by omega), w64 (x := (j' : Int) - 1 - k) (by omega), w64 (x := (k : Int) + 1) (by omega)]
          have key : (bif decide (s' < s.1 + l[k]) then some ((l.length : Int) - k) else some ((j' : Int) - 1 - k)).bind (fun x97 => some (if x97 < s.2 then s.2 else x97)) = some (worstU (comeF o 0) k (s.1 + l[k]) s.2) := by
            unfold worstU
            by_cases hp : 0 < s.1 + l[k]
            · have := e1 hp
              split at this
              · rw [dec_t this]
                simp only [cond_true, Option.bind_some, Option.some.injEq]
                split <;> split <;> omega
              · rw [dec_f (by omega)]
                simp only [cond_false, Option.bind_some, Option.some.injEq]
                split <;> split <;> omega
            · obtain ⟨q1, q2⟩ := e2 (by omega)
              have hz : lagN (s.1 + l[k]) (comeF o 0) = 0 := by
                cases hq : comeF o 0 with
                | nil => rfl
                | cons y ys =>
                  have := comeF_ge o 0 (fun y hy => (hO y hy).1) y (by rw [hq]; simp)
                  have hy : ¬ y < s.1 + l[k] := by omega
                  simp [lagN, hy]
              rw [dec_f (by omega), hz]
              simp only [cond_false, Option.bind_some, Option.some.injEq]
              split <;> split <;> omega
          refine ⟨?_, fun s' h => ?_⟩
          · simp only [LR.mapN]
            revert key
            cases decide (s' < s.1 + l[k]) <;> simp only [cond_true, cond_false, Option.bind_some, Option.some.injEq] <;> intro key <;> rw [key]
          · simp only [LR.next.injEq] at h
            subst h
            dsimp only
            refine ⟨by omega, ?_⟩
            unfold worstU
            split <;> omega) (fun s _ => by simp [spec_WorstDelay_l2]) (0, 0) (by simp), lgo_worst hup (fun _ _ _ => rfl) _ _ _ _ (comeF o 0) (by omega) (by rw [comeF_len, he]) (by simp)]
        simp
  · rw [show ((o.length : Int) != (l.length : Int)) = true by simp <;> omega, dec_f he]
    cases o.all (inB · 0 2400) <;> rfl
end Go.VxW
