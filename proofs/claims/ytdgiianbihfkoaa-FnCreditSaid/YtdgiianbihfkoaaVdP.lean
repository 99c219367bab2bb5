/-
  The plain law and all that it needs.
-/
import Derived.Test.YtdgiianbihfkoaaVdF
import Derived.Test.YtdgiianbihfkoaaVaF


open Go Go.VS
namespace Go.VxW
def inB (n a b : Int) : Bool := decide (a ≤ n) && decide (n ≤ b)
theorem sIn (n a b : Int) : spec_l1In n a b = some (inB n a b) := by
  unfold spec_l1In inB; cases decide (a ≤ n) <;> rfl
theorem iIn (n a b : Int) : impl_in n a b = some (inB n a b) := by
  unfold impl_in inB; cases decide (a ≤ n) <;> rfl
theorem inB_iff {n a b : Int} : inB n a b = true ↔ a ≤ n ∧ n ≤ b := by simp [inB]
theorem sAll {l : List Int} (hl : l.length ≤ 1048576) (a b : Int) : spec_l1All l a b = some (l.all (inB · a b)) := by
  unfold spec_l1All
  rw [whl_lg l (spec_l1All_l0 l a b) (fun k (_ : Unit) => k) (fun _ x s => if inB x a b then .next s else .done (.done false)) (fun _ => .next ()) (fun k hk s => by
    simp only [spec_l1All_l0]
    rw [dec_t (by omega), idx_lt hk, w64 (by omega)]
    simp only [cond_true, Option.bind_some, sIn]
    cases inB l[k] a b <;> rfl) (fun s => by simp [spec_l1All_l0]) (), lgo_all _ _ (fun _ _ _ => rfl)]
  cases l.all (inB · a b) <;> rfl
theorem ixf_int {l : List Int} (hl : l.length < 2 ^ 60) {g : Int → Option Bool} (p : Int → Bool) (hg : ∀ x ∈ l, g x = some (p x)) : slices_IndexFunc_int l g = some (ixF p l) := by
  unfold slices_IndexFunc_int
  rw [ixf_go p (f := slices_IndexFunc_int_l0 l g) (fun _ => rfl) hl hg]
  have := ixF_ge p l
  by_cases h : ixF p l < 0
  · rw [if_pos h]; simp; omega
  · rw [if_neg h]; rfl
theorem cf_int {l : List Int} (hl : l.length < 2 ^ 60) {g : Int → Option Bool} (p : Int → Bool) (hg : ∀ x ∈ l, g x = some (p x)) : slices_ContainsFunc_int l g = some (l.any p) := by
  unfold slices_ContainsFunc_int
  rw [ixf_int hl p hg, Option.bind_some, ixF_any]
theorem bne_nat {a b : Nat} (h : a ≠ b) : ((a : Int) != (b : Int)) = true := bne_iff_ne.2 (by omega)
theorem beq_nat {a b : Nat} (h : a ≠ b) : ((a : Int) == (b : Int)) = false := beq_eq_false_iff_ne.2 (by omega)
theorem all_get {α : Type} {l : List α} {p : α → Bool} : l.all p = true ↔ ∀ (k : Nat) (x : α), l[k]? = some x → p x = true := by
  rw [List.all_eq_true]
  exact ⟨fun h k x hx => h x (List.mem_of_getElem? hx), fun h x hx => by obtain ⟨k, hk⟩ := List.mem_iff_getElem?.1 hx; exact h k x hk⟩
def quB (l : List Int) : Bool := inB l.length 1 4 && l.all (inB · 20 100)
theorem quB_iff {l : List Int} : quB l = true ↔ (1 ≤ l.length ∧ l.length ≤ 4) ∧ ∀ x ∈ l, 20 ≤ x ∧ x ≤ 100 := by
  simp only [quB, Bool.and_eq_true, inB_iff, List.all_eq_true]
  constructor
  · rintro ⟨h1, h2⟩; exact ⟨by omega, h2⟩
  · rintro ⟨h1, h2⟩; exact ⟨by omega, h2⟩
theorem iQuanta {l : List Int} (hl : l.length < 2 ^ 60) : impl_areQuanta l = some (quB l) := by
  unfold impl_areQuanta quB
  rw [iIn, Option.bind_some]
  cases h : inB (l.length : Int) 1 4
  · rfl
  · rw [cond_true, cf_int hl (fun x => !inB x 20 100) (fun x _ => by simp [impl_areQuanta_1, iIn]), Option.bind_some, Bool.true_and]
    congr 1
    rw [List.all_eq_not_any_not]
def rowB (x : List Int × Int × Int) : Bool := decide (x.1.length ≤ 30) && x.1.all (inB · 1 20) && inB x.2.1 0 19 && inB x.2.2 0 1000000 && !(decide (x.1.length = 0) && decide (x.2.1 ≠ 0))
theorem rowB_iff {q : List Int} {c s : Int} : rowB (q, c, s) = true ↔ q.length ≤ 30 ∧ (∀ x ∈ q, 1 ≤ x ∧ x ≤ 20) ∧ (0 ≤ c ∧ c ≤ 19) ∧ (0 ≤ s ∧ s ≤ 1000000) ∧ (q.length = 0 → c = 0) := by
  simp only [rowB, Bool.and_eq_true, inB_iff, List.all_eq_true, decide_eq_true_eq, Bool.not_eq_true', Bool.and_eq_false_iff, decide_eq_false_iff_not, ne_eq, Decidable.not_not]
  constructor
  · rintro ⟨⟨⟨⟨h1, h2⟩, h3⟩, h4⟩, h5⟩
    exact ⟨h1, h2, h3, h4, fun h => h5.resolve_left (fun hn => hn h)⟩
  · rintro ⟨h1, h2, h3, h4, h5⟩
    refine ⟨⟨⟨⟨h1, h2⟩, h3⟩, h4⟩, ?_⟩
    by_cases h : q.length = 0
    · exact .inr (h5 h)
    · exact .inl h
def rowsL (t : Turns) : List (List Int × Int × Int) := t.Queues.zip (t.Credit.zip t.Sent)
def lensB (t : Turns) : Bool := decide (t.Queues.length = t.Quanta.length) && decide (t.Credit.length = t.Quanta.length) && decide (t.Sent.length = t.Quanta.length)
def goodTB (t : Turns) : Bool := quB t.Quanta && lensB t && inB t.At 0 ((t.Quanta.length : Int) - 1) && (rowsL t).all rowB
structure GT (t : Turns) : Prop where
  qu : quB t.Quanta = true
  l1 : t.Queues.length = t.Quanta.length
  l2 : t.Credit.length = t.Quanta.length
  l3 : t.Sent.length = t.Quanta.length
  at_ : 0 ≤ t.At ∧ t.At < t.Quanta.length
  row : ∀ (k : Nat) (q : List Int) (c s : Int), t.Queues[k]? = some q → t.Credit[k]? = some c → t.Sent[k]? = some s → rowB (q, c, s) = true
theorem zip3 {t : Turns} {k : Nat} {x : List Int × Int × Int} : (rowsL t)[k]? = some x ↔ t.Queues[k]? = some x.1 ∧ t.Credit[k]? = some x.2.1 ∧ t.Sent[k]? = some x.2.2 := by
  unfold rowsL
  rw [List.getElem?_zip_eq_some, List.getElem?_zip_eq_some]
theorem lensB_iff {t : Turns} : lensB t = true ↔ t.Queues.length = t.Quanta.length ∧ t.Credit.length = t.Quanta.length ∧ t.Sent.length = t.Quanta.length := by
  simp [lensB, and_assoc]
theorem goodTB_iff {t : Turns} : goodTB t = true ↔ GT t := by
  simp only [goodTB, Bool.and_eq_true, lensB_iff, inB_iff, all_get]
  constructor
  · rintro ⟨⟨⟨h1, h2, h3, h4⟩, h5⟩, h6⟩
    exact ⟨h1, h2, h3, h4, by omega, fun k q c s a1 a2 a3 => h6 k (q, c, s) (zip3.2 ⟨a1, a2, a3⟩)⟩
  · rintro ⟨h1, h2, h3, h4, h5, h6⟩
    exact ⟨⟨⟨h1, h2, h3, h4⟩, by omega⟩, fun k x hx => by obtain ⟨a1, a2, a3⟩ := zip3.1 hx; exact h6 k _ _ _ a1 a2 a3⟩
theorem rows_len {t : Turns} (h : lensB t = true) : (rowsL t).length = t.Quanta.length := by
  obtain ⟨h1, h2, h3⟩ := lensB_iff.1 h
  simp [rowsL, h1, h2, h3]
theorem rows_idx {t : Turns} {k : Nat} (hk : k < (rowsL t).length) : idx t.Queues (k : Int) = some (rowsL t)[k].1 ∧ idx t.Credit (k : Int) = some (rowsL t)[k].2.1 ∧ idx t.Sent (k : Int) = some (rowsL t)[k].2.2 := by
  have := zip3.1 (List.getElem?_eq_getElem hk)
  rw [idx_nat, idx_nat, idx_nat]
  exact this
theorem iGoodT (t : Turns) (hz : t.Quanta.length < 2 ^ 60) (hq : ∀ q ∈ t.Queues, q.length < 2 ^ 60) : impl_GoodTurns t = some (goodTB t) := by
  unfold impl_GoodTurns goodTB
  rw [iQuanta hz, Option.bind_some]
  cases h1 : quB t.Quanta
  · simp
  simp only [Bool.not_true, cond_false, Bool.true_and]
  have hn := (quB_iff.1 h1).1
  cases h2 : lensB t
  · have h2' : ¬ (t.Queues.length = t.Quanta.length ∧ t.Credit.length = t.Quanta.length ∧ t.Sent.length = t.Quanta.length) := fun h => by rw [lensB_iff.2 h] at h2; simp at h2
    by_cases a1 : t.Queues.length = t.Quanta.length
    · by_cases a2 : t.Credit.length = t.Quanta.length
      · have a3 : t.Sent.length ≠ t.Quanta.length := fun h => h2' ⟨a1, a2, h⟩
        have e3 : ((t.Sent.length : Int) != (t.Quanta.length : Int)) = true := bne_nat a3
        simp only [a1, a2, bne_self_eq_false, e3, cond_false, cond_true, Option.bind_some, Bool.false_and]
      · have e3 : ((t.Credit.length : Int) != (t.Quanta.length : Int)) = true := bne_nat a2
        simp only [a1, bne_self_eq_false, e3, cond_false, cond_true, Option.bind_some, Bool.false_and]
    · have e3 : ((t.Queues.length : Int) != (t.Quanta.length : Int)) = true := bne_nat a1
      simp only [e3, cond_true, Option.bind_some, Bool.false_and]
  obtain ⟨a1, a2, a3⟩ := lensB_iff.1 h2
  simp only [a1, a2, a3, bne_self_eq_false, cond_false, Bool.true_and, iIn, Option.bind_some]
  rw [w64 (by omega)]
  cases h3 : inB t.At 0 ((t.Quanta.length : Int) - 1)
  · rfl
  simp only [Bool.not_true, cond_false, Bool.true_and]
  have hl := rows_len h2
  rw [whl_lg (rowsL t) (impl_GoodTurns_l0 t) (fun k (_ : Unit) => k) (fun _ x s => if rowB x then .next s else .done (.done false)) (fun _ => .next ()) (fun k hk s => by
    obtain ⟨b1, b2, b3⟩ := rows_idx hk
    have hm : (rowsL t)[k].1 ∈ t.Queues := List.mem_of_getElem? (zip3.1 (List.getElem?_eq_getElem hk)).1
    have hq' := hq _ hm
    generalize (rowsL t)[k] = x at b1 b2 b3 hq'
    obtain ⟨q, c, s'⟩ := x
    simp only at b1 b2 b3 hq'
    simp only [impl_GoodTurns_l0, b1, b2, b3, Option.bind_some, iIn]
    rw [dec_t (by omega), w64 (by omega), cf_int hq' (fun x => !inB x 1 20) (fun x _ => by simp [impl_GoodTurns_1, impl_isPacket, iIn])]
    simp only [cond_true, Option.bind_some]
    have e1 : (q.any fun x => !inB x 1 20) = !(q.all (inB · 1 20)) := by rw [List.all_eq_not_any_not]; simp
    rw [e1]
    by_cases c1 : q.length ≤ 30
    · rw [dec_f (show ¬ 30 < (q.length : Int) by omega)]
      simp only [cond_false, Option.bind_some, rowB, dec_t c1, Bool.true_and]
      cases q.all (inB · 1 20)
      · rfl
      · simp only [Bool.not_true, cond_false, Bool.true_and]
        cases c2 : inB c 0 19
        · rfl
        · simp only [Bool.not_true, cond_false, Bool.true_and]
          have hc := inB_iff.1 c2
          by_cases c3 : q.length = 0
          · have e2 : ((q.length : Int) == 0) = true := by simp [c3]
            rw [e2]
            simp only [cond_true]
            by_cases c4 : 0 < c
            · rw [dec_t c4, dec_t (show c ≠ 0 by omega), dec_t c3]; simp [LR.mapN]
            · rw [dec_f c4, dec_f (show ¬ c ≠ 0 by omega)]
              simp only [cond_false]
              cases inB s' 0 1000000 <;> simp [LR.mapN]
          · have e2 : ((q.length : Int) == 0) = false := by simpa using c3
            rw [e2, dec_f c3]
            simp only [cond_false]
            cases inB s' 0 1000000 <;> simp [LR.mapN]
    · rw [dec_t (show 30 < (q.length : Int) by omega)]
      simp only [cond_true, Option.bind_some, rowB, dec_f c1, Bool.false_and]
      rfl) (fun s => by
    simp only [impl_GoodTurns_l0]
    rw [dec_f (by omega)]; rfl) (), lgo_all _ _ (fun _ _ _ => rfl)]
  cases (rowsL t).all rowB <;> rfl
def rowB' (x : List Int × Int × Int) : Bool := decide (x.1.length ≤ 30) && x.1.all (inB · 1 20) && !(decide (x.1.length = 0) && decide (x.2.1 ≠ 0))
theorem good2 {t : Turns} (h : lensB t = true) : (t.Credit.all (inB · 0 19) && t.Sent.all (inB · 0 1000000) && (rowsL t).all rowB') = (rowsL t).all rowB := by
  obtain ⟨a1, a2, a3⟩ := lensB_iff.1 h
  rw [Bool.eq_iff_iff]
  simp only [Bool.and_eq_true, all_get]
  constructor
  · rintro ⟨⟨h1, h2⟩, h3⟩ k ⟨q, c, s⟩ hx
    obtain ⟨b1, b2, b3⟩ := zip3.1 hx
    have c1 := h1 k c b2
    have c2 := h2 k s b3
    have c3 := h3 k _ hx
    simp only [rowB', Bool.and_eq_true] at c3
    simp only [rowB, Bool.and_eq_true]
    exact ⟨⟨⟨c3.1, c1⟩, c2⟩, c3.2⟩
  · intro h
    have one : ∀ k, k < t.Quanta.length → ∃ q c s, t.Queues[k]? = some q ∧ t.Credit[k]? = some c ∧ t.Sent[k]? = some s ∧ rowB (q, c, s) = true := fun k hk => by
      have b1 := List.getElem?_eq_getElem (show k < t.Queues.length by omega)
      have b2 := List.getElem?_eq_getElem (show k < t.Credit.length by omega)
      have b3 := List.getElem?_eq_getElem (show k < t.Sent.length by omega)
      exact ⟨_, _, _, b1, b2, b3, h k (_, _, _) (zip3.2 ⟨b1, b2, b3⟩)⟩
    refine ⟨⟨fun k c hc => ?_, fun k s hs => ?_⟩, fun k x hx => ?_⟩
    · obtain ⟨q, c', s, _, b2, _, b4⟩ := one k (by rw [← a2]; exact (List.getElem?_eq_some_iff.1 hc).1)
      rw [hc] at b2; simp only [Option.some.injEq] at b2; subst b2
      simp only [rowB, Bool.and_eq_true] at b4
      exact b4.1.1.2
    · obtain ⟨q, c', s', _, _, b3, b4⟩ := one k (by rw [← a3]; exact (List.getElem?_eq_some_iff.1 hs).1)
      rw [hs] at b3; simp only [Option.some.injEq] at b3; subst b3
      simp only [rowB, Bool.and_eq_true] at b4
      exact b4.1.2
    · have := h k x hx
      simp only [rowB, Bool.and_eq_true] at this
      simp only [rowB', Bool.and_eq_true]
      exact ⟨this.1.1.1, this.2⟩
theorem sGoodT (t : Turns) (hq : ∀ q ∈ t.Queues, q.length < 2 ^ 60) : spec_GoodTurns t = some (goodTB t) := by
  unfold spec_GoodTurns goodTB quB
  rw [sIn, Option.bind_some]
  cases h1 : inB (t.Quanta.length : Int) 1 4
  · rfl
  simp only [Bool.not_true, cond_false, Bool.true_and]
  have hn := inB_iff.1 h1
  rw [sAll (by omega), Option.bind_some]
  cases h1' : t.Quanta.all (inB · 20 100)
  · rfl
  simp only [Bool.not_true, cond_false, Bool.true_and]
  cases h2 : lensB t
  · have h2' : ¬ (t.Queues.length = t.Quanta.length ∧ t.Credit.length = t.Quanta.length ∧ t.Sent.length = t.Quanta.length) := fun h => by rw [lensB_iff.2 h] at h2; simp at h2
    by_cases a1 : t.Queues.length = t.Quanta.length
    · by_cases a2 : t.Credit.length = t.Quanta.length
      · have a3 : t.Sent.length ≠ t.Quanta.length := fun h => h2' ⟨a1, a2, h⟩
        have e3 : ((t.Sent.length : Int) != (t.Quanta.length : Int)) = true := bne_nat a3
        simp only [a1, a2, bne_self_eq_false, e3, cond_false, cond_true, Option.bind_some, Bool.false_and]
      · have e3 : ((t.Credit.length : Int) != (t.Quanta.length : Int)) = true := bne_nat a2
        simp only [a1, bne_self_eq_false, e3, cond_false, cond_true, Option.bind_some, Bool.false_and]
    · have e3 : ((t.Queues.length : Int) != (t.Quanta.length : Int)) = true := bne_nat a1
      simp only [e3, cond_true, Option.bind_some, Bool.false_and]
  rw [← good2 h2]
  obtain ⟨a1, a2, a3⟩ := lensB_iff.1 h2
  have hl := rows_len h2
  rw [sAll (l := t.Credit) (by omega), sAll (l := t.Sent) (by omega)]
  simp only [a1, a2, a3, bne_self_eq_false, cond_false, Bool.true_and, sIn, Option.bind_some]
  rw [w64 (by omega)]
  cases t.Credit.all (inB · 0 19)
  · simp
  cases t.Sent.all (inB · 0 1000000)
  · simp
  cases h3 : inB t.At 0 ((t.Quanta.length : Int) - 1)
  · simp
  simp only [Bool.not_true, cond_false, Bool.true_and, Option.bind_some]
  rw [whl_lg (rowsL t) (spec_GoodTurns_l0 t) (fun k (_ : Unit) => k) (fun _ x s => if rowB' x then .next s else .done (.done false)) (fun _ => .next ()) (fun k hk s => by
    obtain ⟨b1, b2, b3⟩ := rows_idx hk
    have hm : (rowsL t)[k].1 ∈ t.Queues := List.mem_of_getElem? (zip3.1 (List.getElem?_eq_getElem hk)).1
    have hq' := hq _ hm
    generalize (rowsL t)[k] = x at b1 b2 b3 hq'
    obtain ⟨q, c, s'⟩ := x
    simp only at b1 b2 b3 hq'
    simp only [spec_GoodTurns_l0, b1, b2, Option.bind_some]
    rw [dec_t (by omega), w64 (by omega)]
    simp only [cond_true]
    by_cases c1 : q.length ≤ 30
    · rw [dec_f (show ¬ 30 < (q.length : Int) by omega), sAll (by omega)]
      simp only [cond_false, Option.bind_some, rowB', dec_t c1, Bool.true_and]
      cases q.all (inB · 1 20)
      · rfl
      · simp only [Bool.not_true, cond_false, Bool.true_and]
        by_cases c3 : q.length = 0
        · have e2 : ((q.length : Int) == 0) = true := by simp [c3]
          rw [e2, dec_t c3]
          by_cases c4 : c = 0
          · subst c4; rfl
          · have e3 : (c != 0) = true := by simpa using c4
            rw [e3, dec_t c4]; rfl
        · have e2 : ((q.length : Int) == 0) = false := by simpa using c3
          rw [e2, dec_f c3]; rfl
    · rw [dec_t (show 30 < (q.length : Int) by omega)]
      simp only [cond_true, Option.bind_some, rowB', dec_f c1, Bool.false_and]
      rfl) (fun s => by
    simp only [spec_GoodTurns_l0]
    rw [dec_f (by omega)]; rfl) (), lgo_all _ _ (fun _ _ _ => rfl)]
  cases (rowsL t).all rowB' <;> rfl
theorem clone_in {l : List Int} (h : l.length ≤ 1099511627776) : slices_Clone_int l = some l := by
  unfold slices_Clone_int
  rw [app_in (by simpa using h) (by omega)]; rfl
theorem own_go {l : List (List Int)} {f : Int × List (List Int) → Option (LR (Int × List (List Int)) (List (List Int)))} (_hl : l.length ≤ 1048576)
    (hs : ∀ (k : Nat) (s : List (List Int)) (hk : k < l.length), s.length = k → f (k, s) = some (.next ((k : Int) + 1, s ++ [l[k]]))) (hz : ∀ s, f (l.length, s) = some (.done s)) : whl f (0, []) = some l := by
  rw [whl_lgo l f (fun k (s : List (List Int)) => (k, s)) (fun _ x s => .next (s ++ [x])) (fun s => s) (fun k s => s.length = k) (fun k hk s hi => by
    rw [hs k s hk hi]
    exact ⟨rfl, fun s' e => by simp at e; rw [← e]; simp; omega⟩) (fun s _ => by rw [hz]) [] rfl, lgo_fold (fun s x => s ++ [x]) (fun _ _ _ => rfl)]
  congr 1
  have : ∀ (m : List (List Int)) (s : List (List Int)), m.foldl (fun s x => s ++ [x]) s = s ++ m := by
    intro m
    induction m with
    | nil => simp
    | cons x xs ih => intro s; simp [ih]
  simpa using this l []
structure TL (t : Turns) : Prop where
  l1 : t.Quanta.length ≤ 1048576
  l2 : t.Queues.length ≤ 1048576
  l3 : t.Credit.length ≤ 1048576
  l4 : t.Sent.length ≤ 1048576
  l5 : ∀ q ∈ t.Queues, q.length ≤ 1048576
theorem iCopy {t : Turns} (h : TL t) : impl_Turns_copied t = some t := by
  obtain ⟨h1, h2, h3, h4, h5⟩ := h
  unfold impl_Turns_copied
  rw [clone_in (by omega), Option.bind_some, clone_in (by omega), Option.bind_some, clone_in (by omega), Option.bind_some, own_go (l := t.Queues) h2 (fun k s hk hs => by
    simp only [impl_Turns_copied_l0]
    have := h5 _ (List.getElem_mem hk)
    rw [dec_t (by omega), idx_lt hk]
    simp only [cond_true, Option.bind_some]
    rw [clone_in (by omega), Option.bind_some, app_of (by simp <;> omega) (by omega), Option.bind_some, w64 (by omega)]) (fun s => by
    simp only [impl_Turns_copied_l0]
    rw [dec_f (by omega)]; rfl)]
  rfl
theorem sOwn {t : Turns} (h : TL t) : spec_l8Own t = some t := by
  obtain ⟨h1, h2, h3, h4, h5⟩ := h
  unfold spec_l8Own
  rw [app_in (by simp <;> omega) (by omega), Option.bind_some, app_in (by simp <;> omega) (by omega), Option.bind_some, app_in (by simp <;> omega) (by omega), Option.bind_some, own_go (l := t.Queues) h2 (fun k s hk hs => by
    simp only [spec_l8Own_l0]
    have := h5 _ (List.getElem_mem hk)
    rw [dec_t (by omega), idx_lt hk]
    simp only [cond_true, Option.bind_some]
    rw [app_in (by simp <;> omega) (by omega), Option.bind_some, app_of (by simp <;> omega) (by omega), Option.bind_some, w64 (by omega)]
    simp) (fun s => by
    simp only [spec_l8Own_l0]
    rw [dec_f (by omega)]; rfl)]
  simp
theorem GT.tl {t : Turns} (h : GT t) : TL t := by
  have hn := (quB_iff.1 h.qu).1
  have h1 := h.l1; have h2 := h.l2; have h3 := h.l3
  refine ⟨by omega, by omega, by omega, by omega, fun q hq => ?_⟩
  obtain ⟨k, hk⟩ := List.mem_iff_getElem?.1 hq
  have hlt := (List.getElem?_eq_some_iff.1 hk).1
  have := rowB_iff.1 (h.row k q _ _ hk (List.getElem?_eq_getElem (show k < t.Credit.length by omega)) (List.getElem?_eq_getElem (show k < t.Sent.length by omega)))
  omega
def noT : Turns := ⟨[], [], [], [], 0⟩
def putF (t : Turns) (k n : Int) : Turns × Bool :=
  if goodTB t && inB k 0 ((t.Queues.length : Int) - 1) && inB n 1 20 && decide ((t.Queues.getD k.toNat []).length ≠ 30) then ({ t with Queues := t.Queues.set k.toNat (t.Queues.getD k.toNat [] ++ [n]) }, true) else (noT, false)
theorem putGo {t : Turns} {k n : Int} (h : GT t) (hk : inB k 0 ((t.Queues.length : Int) - 1) = true) : ∃ q, idx t.Queues k = some q ∧ t.Queues.getD k.toNat [] = q ∧ app 8 q [n] = some (q ++ [n]) := by
  have hk' := inB_iff.1 hk
  have e := idx_in (l := t.Queues) (i := k) (by omega) (by omega)
  have hm := h.tl.l5 _ (List.getElem_mem (l := t.Queues) (n := k.toNat) (by omega))
  refine ⟨_, e, by simp [List.getD, List.getElem?_eq_getElem (show k.toNat < t.Queues.length by omega)], app_in (by simp <;> omega) (by omega)⟩
theorem sPut {t : Turns} (ht : TL t) (k n : Int) : spec_PutPacket t k n = some (putF t k n) := by
  unfold spec_PutPacket putF
  have h1 := ht.l2
  rw [sGoodT t (fun q hq => by have := ht.l5 q hq; omega), Option.bind_some]
  cases hg : goodTB t
  · rfl
  have hG := goodTB_iff.1 hg
  simp only [Bool.not_true, cond_false, Bool.true_and, sIn, Option.bind_some]
  cases hk : inB k 0 ((t.Queues.length : Int) - 1)
  · have hk' : ¬ (0 ≤ k ∧ k ≤ (t.Queues.length : Int) - 1) := fun h => by rw [inB_iff.2 h] at hk; simp at hk
    by_cases h0 : k < 0
    · rw [dec_t h0]; rfl
    · rw [dec_f h0, dec_t (show (t.Queues.length : Int) ≤ k by omega)]; rfl
  have hk' := inB_iff.1 hk
  rw [dec_f (show ¬ k < 0 by omega), dec_f (show ¬ (t.Queues.length : Int) ≤ k by omega)]
  cases hn : inB n 1 20
  · rfl
  obtain ⟨q, e1, e2, e3⟩ := putGo (n := n) hG hk
  simp only [Bool.not_true, cond_false, Bool.true_and, Option.bind_some, e1, e2]
  by_cases hq : q.length = 30
  · have : ((q.length : Int) == 30) = true := by simp [hq]
    rw [this, dec_f (show ¬ q.length ≠ 30 by omega)]; rfl
  · have : ((q.length : Int) == 30) = false := beq_nat (b := 30) hq
    rw [this, dec_t (show q.length ≠ 30 by omega)]
    simp only [cond_false, sOwn ht, Option.bind_some, e1, e3, if_true]
def sumLen : List (List Int) → Int
  | [] => 0
  | q :: l => q.length + sumLen l
theorem sumLen_in {B : Int} : ∀ (l : List (List Int)), (∀ q ∈ l, (q.length : Int) ≤ B) → 0 ≤ B → 0 ≤ sumLen l ∧ sumLen l ≤ B * l.length
  | [], _, _ => by simp [sumLen]
  | q :: l, h, hB => by
    have h1 := sumLen_in l (fun p hp => h p (by simp [hp])) hB
    have h2 := h q (by simp)
    simp only [sumLen, List.length_cons]
    rw [show ((l.length + 1 : Nat) : Int) = (l.length : Int) + 1 by omega, Int.mul_add, Int.mul_one]
    omega
theorem putF_ok {t : Turns} (k n : Int) : TL (putF t k n).1 ∧ sumLen (putF t k n).1.Queues ≤ 500000000 := by
  unfold putF
  split
  · rename_i h
    simp only [Bool.and_eq_true, decide_eq_true_eq] at h
    have hG := goodTB_iff.1 h.1.1.1
    have hk := inB_iff.1 h.1.1.2
    have hq : ∀ q ∈ t.Queues, q.length ≤ 30 := fun q hq => by
      obtain ⟨k, hk⟩ := List.mem_iff_getElem?.1 hq
      have hlt := (List.getElem?_eq_some_iff.1 hk).1
      have h1 := hG.l1; have h2 := hG.l2; have h3 := hG.l3
      exact (rowB_iff.1 (hG.row k q _ _ hk (List.getElem?_eq_getElem (show k < t.Credit.length by omega)) (List.getElem?_eq_getElem (show k < t.Sent.length by omega)))).1
    have hq2 : ∀ q ∈ t.Queues.set k.toNat (t.Queues.getD k.toNat [] ++ [n]), q.length ≤ 31 := fun q hq' => by
      rcases List.mem_or_eq_of_mem_set hq' with h | rfl
      · have := hq q h; omega
      · have hlt : k.toNat < t.Queues.length := by omega
        have e : t.Queues.getD k.toNat [] = t.Queues[k.toNat] := by simp [List.getD, List.getElem?_eq_getElem hlt]
        have := hq _ (List.getElem_mem hlt)
        rw [e]; simp; omega
    have ht := hG.tl
    have hl := (quB_iff.1 hG.qu).1
    have h1 := hG.l1
    refine ⟨⟨ht.l1, by simpa using ht.l2, ht.l3, ht.l4, fun q hq => by have := hq2 q hq; omega⟩, ?_⟩
    have := (sumLen_in (B := 31) (t.Queues.set k.toNat (t.Queues.getD k.toNat [] ++ [n])) (fun q hq => by have := hq2 q hq; omega) (by omega)).2
    simp only [List.length_set] at this
    simp only
    omega
  · exact ⟨⟨by simp [noT], by simp [noT], by simp [noT], by simp [noT], by simp [noT]⟩, by simp [noT, sumLen]⟩
structure Srv where
  o : List Int
  q : List Int
  c : Int
  s : Int
def serve : List Int → Int → Int → List Int → Srv
  | [], c, s, o => ⟨o, [], c, s⟩
  | x :: q, c, s, o => if x ≤ c then serve q (c - x) (s + x) (o ++ [x]) else ⟨o, x :: q, c, s⟩
theorem serve_ok : ∀ (q : List Int) (c s : Int) (o : List Int), (∀ x ∈ q, 1 ≤ x ∧ x ≤ 20) → 0 ≤ c → 0 ≤ s →
    (serve q c s o).q.length ≤ q.length ∧ (∀ x ∈ (serve q c s o).q, 1 ≤ x ∧ x ≤ 20) ∧ 0 ≤ (serve q c s o).c ∧ (0 < (serve q c s o).q.length → (serve q c s o).c ≤ 19) ∧ 0 ≤ (serve q c s o).s ∧ (serve q c s o).s ≤ s + 20 * q.length ∧ (serve q c s o).o.length ≤ o.length + q.length
  | [], c, s, o, _, hc, hs => by simp [serve]; omega
  | x :: q, c, s, o, h, hc, hs => by
    unfold serve
    have hx := h x (by simp)
    split
    · have := serve_ok q (c - x) (s + x) (o ++ [x]) (fun y hy => h y (by simp [hy])) (by omega) (by omega)
      simp only [List.length_append, List.length_cons, List.length_nil] at this ⊢
      refine ⟨by omega, this.2.1, this.2.2.1, this.2.2.2.1, this.2.2.2.2.1, by omega, by omega⟩
    · refine ⟨by simp, h, hc, fun _ => by simp only; omega, hs, by simp only [List.length_cons]; omega, by simp⟩
/-- The turn of queue k. -/
def srvT (t : Turns) : Srv :=
  let q := t.Queues.getD t.At.toNat []
  let c := t.Credit.getD t.At.toNat 0
  serve q (if 0 < q.length then c + t.Quanta.getD t.At.toNat 0 else c) (t.Sent.getD t.At.toNat 0) []
def turnF (t : Turns) : Turns :=
  { t with Queues := t.Queues.set t.At.toNat (srvT t).q, Credit := t.Credit.set t.At.toNat (if (srvT t).q.length = 0 then 0 else (srvT t).c), Sent := t.Sent.set t.At.toNat (srvT t).s, At := (t.At + 1) % t.Quanta.length }
theorem idx_set {α : Type} {l : List α} {i : Int} (h0 : 0 ≤ i) (h : i < l.length) (x : α) : idx (l.set i.toNat x) i = some x := by
  obtain ⟨k, rfl⟩ := Int.eq_ofNat_of_zero_le h0
  rw [idx_nat, Int.toNat_natCast, List.getElem?_set_self (by omega)]
theorem set_self {α : Type} (l : List α) (k : Nat) (d : α) (h : k < l.length) : l.set k (l.getD k d) = l := by
  have : l.getD k d = l[k] := by simp [List.getD, List.getElem?_eq_getElem h]
  rw [this, List.set_getElem_self]
theorem slc_tail {x : Int} {q : List Int} : slc (x :: q) 1 ((x :: q).length : Int) = some q := by
  simp [slc]; omega
theorem iServe {t : Turns} (h0 : 0 ≤ t.At) {Q : List (List Int)} {Cr S : List Int} (hQ : t.At < Q.length) (hC : t.At < Cr.length) (hS : t.At < S.length) :
    ∀ (q : List Int) (c s : Int) (o : List Int), (∀ x ∈ q, 1 ≤ x ∧ x ≤ 20) → 0 ≤ c → c ≤ 1000 → 0 ≤ s → s + 20 * q.length ≤ 1000000000 → o.length + q.length ≤ 1000 →
    whl (impl_Turns_turn_l0 t) (o, Q.set t.At.toNat q, Cr.set t.At.toNat c, S.set t.At.toNat s) = some ((serve q c s o).o, Q.set t.At.toNat (serve q c s o).q, Cr.set t.At.toNat (serve q c s o).c, S.set t.At.toNat (serve q c s o).s)
  | [], c, s, o, _, hc, hc', hs, hs', ho => by
    rw [whl_eq]
    simp only [impl_Turns_turn_l0, idx_set h0 hQ, Option.bind_some]
    rw [dec_f (by simp)]
    rfl
  | x :: q, c, s, o, h, hc, hc', hs, hs', ho => by
    have hx := h x (by simp)
    simp only [List.length_cons] at hs' ho
    rw [whl_eq]
    simp only [impl_Turns_turn_l0, idx_set h0 hQ, idx_set h0 hC, idx_set h0 hS, Option.bind_some]
    rw [dec_t (by simp <;> omega)]
    have e0 : idx (x :: q) 0 = some x := by simp [idx]
    simp only [cond_true, e0, Option.bind_some]
    unfold serve
    by_cases hxc : x ≤ c
    · rw [dec_t hxc, if_pos hxc]
      simp only [cond_true, slc_tail, Option.bind_some]
      rw [app_of (by simp <;> omega) (by omega), Option.bind_some]
      simp only [List.set_set]
      rw [w64 (by omega), w64 (by omega)]
      exact iServe h0 hQ hC hS q (c - x) (s + x) (o ++ [x]) (fun y hy => h y (by simp [hy])) (by omega) (by omega) (by omega) (by omega) (by simp <;> omega)
    · rw [dec_f hxc, if_neg hxc]
      rfl
theorem sServe {t : Turns} (h0 : 0 ≤ t.At) {Cr S : List Int} (hC : t.At < Cr.length) (hS : t.At < S.length) :
    ∀ (q : List Int) (c s : Int) (o : List Int), (∀ x ∈ q, 1 ≤ x ∧ x ≤ 20) → 0 ≤ c → c ≤ 1000 → 0 ≤ s → s + 20 * q.length ≤ 1000000000 → o.length + q.length ≤ 1000 →
    whl (spec_l8Next_l0 t) (o, q, Cr.set t.At.toNat c, S.set t.At.toNat s) = some ((serve q c s o).o, (serve q c s o).q, Cr.set t.At.toNat (serve q c s o).c, S.set t.At.toNat (serve q c s o).s)
  | [], c, s, o, _, hc, hc', hs, hs', ho => by
    rw [whl_eq]
    simp only [spec_l8Next_l0]
    rw [dec_f (by simp)]
    rfl
  | x :: q, c, s, o, h, hc, hc', hs, hs', ho => by
    have hx := h x (by simp)
    simp only [List.length_cons] at hs' ho
    rw [whl_eq]
    simp only [spec_l8Next_l0, idx_set h0 hC, idx_set h0 hS, Option.bind_some]
    rw [dec_t (by simp <;> omega)]
    have e0 : idx (x :: q) 0 = some x := by simp [idx]
    simp only [cond_true, e0, Option.bind_some]
    unfold serve
    by_cases hxc : x ≤ c
    · rw [dec_t hxc, if_pos hxc]
      simp only [cond_true, slc_tail, Option.bind_some]
      rw [app_of (by simp <;> omega) (by omega), Option.bind_some]
      simp only [List.set_set]
      rw [w64 (by omega), w64 (by omega)]
      exact sServe h0 hC hS q (c - x) (s + x) (o ++ [x]) (fun y hy => h y (by simp [hy])) (by omega) (by omega) (by omega) (by omega) (by simp <;> omega)
    · rw [dec_f hxc, if_neg hxc]
      rfl
/-- What stands at the queue of the turn. -/
structure AtT (t : Turns) : Prop where
  h0 : 0 ≤ t.At
  k1 : t.At < t.Quanta.length
  k2 : t.At < t.Queues.length
  k3 : t.At < t.Credit.length
  k4 : t.At < t.Sent.length
  e1 : idx t.Quanta t.At = some (t.Quanta.getD t.At.toNat 0)
  e2 : idx t.Queues t.At = some (t.Queues.getD t.At.toNat [])
  e3 : idx t.Credit t.At = some (t.Credit.getD t.At.toNat 0)
  e4 : idx t.Sent t.At = some (t.Sent.getD t.At.toNat 0)
  b1 : 20 ≤ t.Quanta.getD t.At.toNat 0 ∧ t.Quanta.getD t.At.toNat 0 ≤ 100
  row : rowB (t.Queues.getD t.At.toNat [], t.Credit.getD t.At.toNat 0, t.Sent.getD t.At.toNat 0) = true
theorem idx_D {α : Type} {l : List α} {i : Int} (d : α) (h0 : 0 ≤ i) (h : i < l.length) : idx l i = some (l.getD i.toNat d) := by
  rw [idx_in h0 h]; simp [List.getD, List.getElem?_eq_getElem (show i.toNat < l.length by omega)]
theorem get_D {α : Type} {l : List α} {k : Nat} (d : α) (h : k < l.length) : l[k]? = some (l.getD k d) := by
  simp [List.getD, List.getElem?_eq_getElem h]
theorem GT.atT {t : Turns} (h : GT t) : AtT t := by
  obtain ⟨a0, a1⟩ := h.at_
  have l1 := h.l1; have l2 := h.l2; have l3 := h.l3
  refine ⟨a0, a1, by omega, by omega, by omega, idx_D _ a0 a1, idx_D _ a0 (by omega), idx_D _ a0 (by omega), idx_D _ a0 (by omega), ?_, ?_⟩
  · exact (quB_iff.1 h.qu).2 _ (List.mem_of_getElem? (get_D 0 (by omega)))
  · exact h.row t.At.toNat _ _ _ (get_D _ (by omega)) (get_D _ (by omega)) (get_D _ (by omega))
theorem md_at {t : Turns} (h : GT t) : md (IntKind.i64.wrap (t.At + 1)) (t.Quanta.length : Int) = some ((t.At + 1) % t.Quanta.length) ∧ 0 ≤ (t.At + 1) % (t.Quanta.length : Int) ∧ (t.At + 1) % (t.Quanta.length : Int) < t.Quanta.length := by
  have h1 := h.at_
  have h2 := (quB_iff.1 h.qu).1
  rw [w64 (by omega), md, if_neg (by omega), Int.tmod_eq_emod_of_nonneg (by omega)]
  exact ⟨rfl, Int.emod_nonneg _ (by omega), Int.emod_lt_of_pos _ (by omega)⟩
theorem srvT_ok {t : Turns} (h : GT t) : (srvT t).q.length ≤ 30 ∧ (∀ x ∈ (srvT t).q, 1 ≤ x ∧ x ≤ 20) ∧ 0 ≤ (srvT t).c ∧ (0 < (srvT t).q.length → (srvT t).c ≤ 19) ∧ 0 ≤ (srvT t).s ∧ (srvT t).o.length ≤ 30 := by
  have a := h.atT
  obtain ⟨r1, r2, r3, r4, r5⟩ := rowB_iff.1 a.row
  have := serve_ok (t.Queues.getD t.At.toNat []) (if 0 < (t.Queues.getD t.At.toNat []).length then t.Credit.getD t.At.toNat 0 + t.Quanta.getD t.At.toNat 0 else t.Credit.getD t.At.toNat 0) (t.Sent.getD t.At.toNat 0) [] r2 (by have := a.b1; split <;> omega) (by omega)
  refine ⟨by unfold srvT; simp only; omega, this.2.1, this.2.2.1, this.2.2.2.1, this.2.2.2.2.1, ?_⟩
  have := this.2.2.2.2.2.2
  unfold srvT
  simp only
  simp only [List.length_nil] at this
  omega
theorem iTurn {t : Turns} (h : GT t) : impl_Turns_turn t = some ((srvT t).o, decide ((srvT t).s ≤ 1000000), turnF t) := by
  have a := h.atT
  obtain ⟨r1, r2, r3, r4, r5⟩ := rowB_iff.1 a.row
  have hb := a.b1
  unfold impl_Turns_turn
  rw [(md_at h).1, Option.bind_some, a.e2, Option.bind_some]
  have key : ((bif (decide (0 < ((t.Queues.getD t.At.toNat []).length : Int))) then (idx t.Credit t.At).bind fun b19 => (idx t.Quanta t.At).bind fun b21 => (idx t.Credit t.At).bind fun _b23 => some ((t.Credit.set t.At.toNat (IntKind.i64.wrap (b19 + b21)))) else some (t.Credit))) = some (t.Credit.set t.At.toNat (if 0 < (t.Queues.getD t.At.toNat []).length then t.Credit.getD t.At.toNat 0 + t.Quanta.getD t.At.toNat 0 else t.Credit.getD t.At.toNat 0)) := by
    by_cases hq : 0 < (t.Queues.getD t.At.toNat []).length
    · rw [dec_t (by omega), if_pos hq, a.e3, a.e1]
      simp only [cond_true, Option.bind_some]
      rw [w64 (by omega)]
    · rw [dec_f (by omega), if_neg hq, set_self _ _ _ (by have := a.k3; have := a.h0; omega)]; rfl
  rw [key, Option.bind_some]
  have hw := iServe (t := t) a.h0 a.k2 a.k3 a.k4 (t.Queues.getD t.At.toNat []) (if 0 < (t.Queues.getD t.At.toNat []).length then t.Credit.getD t.At.toNat 0 + t.Quanta.getD t.At.toNat 0 else t.Credit.getD t.At.toNat 0) (t.Sent.getD t.At.toNat 0) [] r2 (by split <;> omega) (by split <;> omega) (by omega) (by omega) (by simp only [List.length_nil]; omega)
  rw [set_self t.Queues _ _ (by have := a.k2; have := a.h0; omega), set_self t.Sent _ _ (by have := a.k4; have := a.h0; omega)] at hw
  rw [show (serve (t.Queues.getD t.At.toNat []) (if 0 < (t.Queues.getD t.At.toNat []).length then t.Credit.getD t.At.toNat 0 + t.Quanta.getD t.At.toNat 0 else t.Credit.getD t.At.toNat 0) (t.Sent.getD t.At.toNat 0) []) = srvT t from rfl] at hw
  rw [hw, Option.bind_some]
  simp only
  simp only [idx_set a.h0 a.k2, Option.bind_some]
  have k2 : ((bif (((srvT t).q.length : Int) == 0) then (idx (t.Credit.set t.At.toNat (srvT t).c) t.At).bind fun _b118 => some (((t.Credit.set t.At.toNat (srvT t).c).set t.At.toNat 0)) else some (t.Credit.set t.At.toNat (srvT t).c))) = some (t.Credit.set t.At.toNat (if (srvT t).q.length = 0 then 0 else (srvT t).c)) := by
    by_cases hq : (srvT t).q.length = 0
    · have : (((srvT t).q.length : Int) == 0) = true := by simp [hq]
      rw [this, if_pos hq, idx_set a.h0 a.k3]
      simp only [cond_true, Option.bind_some, List.set_set]
    · have : (((srvT t).q.length : Int) == 0) = false := beq_nat (b := 0) hq
      rw [this, if_neg hq]; rfl
  rw [k2, Option.bind_some]
  rw [idx_set a.h0 a.k4, Option.bind_some]
  rfl
theorem sTurn {t : Turns} (h : GT t) : spec_l8Next t = some (turnF t, (srvT t).o) := by
  have a := h.atT
  obtain ⟨r1, r2, r3, r4, r5⟩ := rowB_iff.1 a.row
  have hb := a.b1
  unfold spec_l8Next
  rw [h.l1, (md_at h).1, Option.bind_some, a.e2, Option.bind_some]
  have key : ((bif (decide (0 < ((t.Queues.getD t.At.toNat []).length : Int))) then (idx t.Credit t.At).bind fun b19 => (idx t.Quanta t.At).bind fun b21 => (idx t.Credit t.At).bind fun _b23 => some ((t.Credit.set t.At.toNat (IntKind.i64.wrap (b19 + b21)))) else some (t.Credit))) = some (t.Credit.set t.At.toNat (if 0 < (t.Queues.getD t.At.toNat []).length then t.Credit.getD t.At.toNat 0 + t.Quanta.getD t.At.toNat 0 else t.Credit.getD t.At.toNat 0)) := by
    by_cases hq : 0 < (t.Queues.getD t.At.toNat []).length
    · rw [dec_t (by omega), if_pos hq, a.e3, a.e1]
      simp only [cond_true, Option.bind_some]
      rw [w64 (by omega)]
    · rw [dec_f (by omega), if_neg hq, set_self _ _ _ (by have := a.k3; have := a.h0; omega)]; rfl
  rw [key, Option.bind_some]
  have hw := sServe (t := t) a.h0 a.k3 a.k4 (t.Queues.getD t.At.toNat []) (if 0 < (t.Queues.getD t.At.toNat []).length then t.Credit.getD t.At.toNat 0 + t.Quanta.getD t.At.toNat 0 else t.Credit.getD t.At.toNat 0) (t.Sent.getD t.At.toNat 0) [] r2 (by split <;> omega) (by split <;> omega) (by omega) (by omega) (by simp only [List.length_nil]; omega)
  rw [set_self t.Sent _ _ (by have := a.k4; have := a.h0; omega)] at hw
  rw [show (serve (t.Queues.getD t.At.toNat []) (if 0 < (t.Queues.getD t.At.toNat []).length then t.Credit.getD t.At.toNat 0 + t.Quanta.getD t.At.toNat 0 else t.Credit.getD t.At.toNat 0) (t.Sent.getD t.At.toNat 0) []) = srvT t from rfl] at hw
  rw [hw, Option.bind_some]
  simp only
  have k2 : ((bif (((srvT t).q.length : Int) == 0) then (idx (t.Credit.set t.At.toNat (srvT t).c) t.At).bind fun _b118 => some (((t.Credit.set t.At.toNat (srvT t).c).set t.At.toNat 0)) else some (t.Credit.set t.At.toNat (srvT t).c))) = some (t.Credit.set t.At.toNat (if (srvT t).q.length = 0 then 0 else (srvT t).c)) := by
    by_cases hq : (srvT t).q.length = 0
    · have : (((srvT t).q.length : Int) == 0) = true := by simp [hq]
      rw [this, if_pos hq, idx_set a.h0 a.k3]
      simp only [cond_true, Option.bind_some, List.set_set]
    · have : (((srvT t).q.length : Int) == 0) = false := beq_nat (b := 0) hq
      rw [this, if_neg hq]; rfl
  rw [k2, Option.bind_some]
  have hl : (srvT t).q.length ≤ 30 := (srvT_ok h).1
  rw [app_in (by simp <;> omega) (by omega), Option.bind_some, List.nil_append]
  rfl
theorem turn_good {t : Turns} (h : GT t) : goodTB (turnF t) = decide ((srvT t).s ≤ 1000000) := by
  have a := h.atT
  obtain ⟨s1, s2, s3, s4, s5, s6⟩ := srvT_ok h
  have hn := quB_iff.1 h.qu
  have hm := md_at h
  have l1 := h.l1; have l2 := h.l2; have l3 := h.l3
  have hA := a.h0; have ha1 := a.k1
  rw [Bool.eq_iff_iff, goodTB_iff, decide_eq_true_eq]
  constructor
  · intro g
    have := g.row t.At.toNat (srvT t).q (if (srvT t).q.length = 0 then 0 else (srvT t).c) (srvT t).s (by simp only [turnF]; rw [List.getElem?_set_self (by omega)]) (by simp only [turnF]; rw [List.getElem?_set_self (by omega)]) (by simp only [turnF]; rw [List.getElem?_set_self (by omega)])
    exact (rowB_iff.1 this).2.2.2.1.2
  · intro hs
    refine ⟨h.qu, by simpa [turnF] using l1, by simpa [turnF] using l2, by simpa [turnF] using l3, ⟨hm.2.1, hm.2.2⟩, fun k q c s e1 e2 e3 => ?_⟩
    simp only [turnF, List.getElem?_set] at e1 e2 e3
    by_cases hk : t.At.toNat = k
    · rw [if_pos hk, if_pos (by omega)] at e1 e2 e3
      simp only [Option.some.injEq] at e1 e2 e3
      subst e1; subst e2; subst e3
      rw [rowB_iff]
      refine ⟨s1, s2, ?_, ⟨s5, hs⟩, fun h0 => by rw [if_pos h0]⟩
      split
      · omega
      · exact ⟨s3, s4 (by omega)⟩
    · rw [if_neg hk] at e1 e2 e3
      exact h.row k q c s e1 e2 e3
def nextF (t : Turns) : Turns × List Int × Bool :=
  if goodTB t then if (srvT t).s ≤ 1000000 then (turnF t, (srvT t).o, true) else (noT, [], false) else (noT, [], false)
theorem turn_tl {t : Turns} (h : GT t) : TL (turnF t) ∧ sumLen (turnF t).Queues ≤ 500000000 := by
  have hl := (quB_iff.1 h.qu).1
  have l1 := h.l1; have l2 := h.l2; have l3 := h.l3
  have hq : ∀ q ∈ (turnF t).Queues, q.length ≤ 30 := fun q hq => by
    simp only [turnF] at hq
    rcases List.mem_or_eq_of_mem_set hq with h' | rfl
    · obtain ⟨k, hk⟩ := List.mem_iff_getElem?.1 h'
      have hlt := (List.getElem?_eq_some_iff.1 hk).1
      exact (rowB_iff.1 (h.row k q _ _ hk (List.getElem?_eq_getElem (show k < t.Credit.length by omega)) (List.getElem?_eq_getElem (show k < t.Sent.length by omega)))).1
    · exact (srvT_ok h).1
  have e : (turnF t).Queues.length = t.Queues.length := by simp [turnF]
  refine ⟨⟨by simp only [turnF]; omega, by omega, by simp only [turnF, List.length_set]; omega, by simp only [turnF, List.length_set]; omega, fun q hq' => by have := hq q hq'; omega⟩, ?_⟩
  have := (sumLen_in (B := 31) (turnF t).Queues (fun q hq' => by have := hq q hq'; omega) (by omega)).2
  omega
theorem sNext {t : Turns} (ht : TL t) : spec_NextTurn t = some (nextF t) := by
  unfold spec_NextTurn nextF
  rw [sGoodT t (fun q hq => by have := ht.l5 q hq; omega), Option.bind_some]
  cases hg : goodTB t
  · rfl
  have hG := goodTB_iff.1 hg
  have hT := (turn_tl hG).1
  simp only [Bool.not_true, cond_false, sOwn ht, sTurn hG, Option.bind_some, if_true]
  rw [sGoodT _ (fun q hq => by have := hT.l5 q hq; omega), Option.bind_some, turn_good hG]
  by_cases hs : (srvT t).s ≤ 1000000
  · rw [dec_t hs, if_pos hs, sOwn hT]; rfl
  · rw [dec_f hs, if_neg hs]; rfl
theorem noT_ok : TL noT ∧ sumLen noT.Queues ≤ 500000000 := ⟨⟨by simp [noT], by simp [noT], by simp [noT], by simp [noT], by simp [noT]⟩, by simp [noT, sumLen]⟩
theorem nextF_ok (t : Turns) : TL (nextF t).1 ∧ sumLen (nextF t).1.Queues ≤ 500000000 ∧ (nextF t).2.1.length ≤ 30 := by
  unfold nextF
  split
  · rename_i h
    have hG := goodTB_iff.1 h
    split
    · exact ⟨(turn_tl hG).1, (turn_tl hG).2, (srvT_ok hG).2.2.2.2.2⟩
    · exact ⟨noT_ok.1, noT_ok.2, by simp⟩
  · exact ⟨noT_ok.1, noT_ok.2, by simp⟩
def runF : Nat → Turns → Turns × Bool
  | 0, t => (t, true)
  | n + 1, t => if (srvT t).s ≤ 1000000 then runF n (turnF t) else (noT, false)
theorem turns_eta (t : Turns) : (⟨t.Quanta, t.Queues, t.Credit, t.Sent, t.At⟩ : Turns) = t := rfl
def outR (y : LR ((List Int) × (List (List Int)) × (List Int) × (List Int) × Int) (Turns × Bool)) : Turns × Bool := match y with
  | .next (a, b, c, d, e) => (⟨a, b, c, d, e⟩, true)
  | .done z => z
theorem iRunGo (a1 : Int) : ∀ (n : Nat) (t : Turns) (i : Int), GT t → 0 ≤ i → a1 = i + n → a1 ≤ 60 → ∃ y, whl (impl_RunTurns_l0 a1) (i, t.Quanta, t.Queues, t.Credit, t.Sent, t.At) = some y ∧ outR y = runF n t
  | 0, t, i, h, h0, h1, h2 => by
    rw [whl_eq]
    simp only [impl_RunTurns_l0]
    rw [dec_f (by omega)]
    exact ⟨_, rfl, rfl⟩
  | n + 1, t, i, h, h0, h1, h2 => by
    rw [whl_eq]
    simp only [impl_RunTurns_l0]
    rw [dec_t (by omega)]
    simp only [cond_true, turns_eta, iTurn h, Option.bind_some, runF]
    by_cases hs : (srvT t).s ≤ 1000000
    · rw [dec_t hs, if_pos hs, w64 (by omega)]
      have hg : GT (turnF t) := goodTB_iff.1 (by rw [turn_good h, dec_t hs])
      exact iRunGo a1 n (turnF t) (i + 1) hg (by omega) (by omega) h2
    · rw [dec_f hs, if_neg hs]
      exact ⟨_, rfl, rfl⟩
theorem sRunGo : ∀ (n : Nat) (t : Turns), GT t → n ≤ 60 → ∃ y, whl spec_RunTurns_l0 ((n : Int), t.Quanta, t.Queues, t.Credit, t.Sent, t.At) = some y ∧ outR y = runF n t
  | 0, t, h, h2 => by
    rw [whl_eq]
    simp only [spec_RunTurns_l0]
    rw [dec_f (by omega)]
    exact ⟨_, rfl, rfl⟩
  | n + 1, t, h, h2 => by
    rw [whl_eq]
    simp only [spec_RunTurns_l0]
    rw [dec_t (by omega)]
    have hg' : goodTB t = true := goodTB_iff.2 h
    simp only [cond_true, turns_eta, sNext h.tl, Option.bind_some, runF, nextF, hg', if_true]
    by_cases hs : (srvT t).s ≤ 1000000
    · simp only [if_pos hs, Bool.not_true, cond_false]
      rw [w64 (by omega), show ((n + 1 : Nat) : Int) - 1 = (n : Int) by omega]
      have hg : GT (turnF t) := goodTB_iff.1 (by rw [turn_good h, dec_t hs])
      exact sRunGo n (turnF t) hg (by omega)
    · simp only [if_neg hs, Bool.not_false, cond_true]
      exact ⟨_, rfl, rfl⟩
def runTF (t : Turns) (n : Int) : Turns × Bool := if goodTB t && inB n 0 60 then runF n.toNat t else (noT, false)
theorem iRun {t : Turns} (ht : TL t) (n : Int) : impl_RunTurns t n = some (runTF t n) := by
  unfold impl_RunTurns runTF
  rw [iGoodT t (by have := ht.l1; omega) (fun q hq => by have := ht.l5 q hq; omega), Option.bind_some]
  cases hg : goodTB t
  · rfl
  have hG := goodTB_iff.1 hg
  simp only [Bool.not_true, cond_false, iIn, Option.bind_some, Bool.true_and]
  cases hn : inB n 0 60
  · rfl
  have hn' := inB_iff.1 hn
  simp only [Bool.not_true, cond_false, iCopy ht, Option.bind_some, if_true]
  obtain ⟨y, e1, e2⟩ := iRunGo n n.toNat t 0 hG (by omega) (by omega) (by omega)
  rw [e1, Option.bind_some, ← e2]
  rcases y with ⟨a, b, c, d, e⟩ | z <;> rfl
theorem sRun {t : Turns} (ht : TL t) (n : Int) : spec_RunTurns t n = some (runTF t n) := by
  unfold spec_RunTurns runTF
  rw [sGoodT t (fun q hq => by have := ht.l5 q hq; omega), Option.bind_some]
  cases hg : goodTB t
  · rfl
  have hG := goodTB_iff.1 hg
  simp only [Bool.not_true, cond_false, sIn, Option.bind_some, Bool.true_and]
  cases hn : inB n 0 60
  · rfl
  have hn' := inB_iff.1 hn
  simp only [Bool.not_true, cond_false, sOwn ht, Option.bind_some, if_true]
  obtain ⟨y, e1, e2⟩ := sRunGo n.toNat t hG (by omega)
  rw [Int.toNat_of_nonneg hn'.1] at e1
  rw [e1, Option.bind_some, ← e2]
  rcases y with ⟨a, b, c, d, e⟩ | z <;> rfl
theorem GT.tls {t : Turns} (h : GT t) : TL t ∧ sumLen t.Queues ≤ 500000000 := by
  refine ⟨h.tl, ?_⟩
  have hl := (quB_iff.1 h.qu).1
  have l1 := h.l1; have l2 := h.l2; have l3 := h.l3
  have := (sumLen_in (B := 31) t.Queues (fun q hq' => by
    obtain ⟨k, hk⟩ := List.mem_iff_getElem?.1 hq'
    have hlt := (List.getElem?_eq_some_iff.1 hk).1
    have := (rowB_iff.1 (h.row k q _ _ hk (List.getElem?_eq_getElem (show k < t.Credit.length by omega)) (List.getElem?_eq_getElem (show k < t.Sent.length by omega)))).1
    omega) (by omega)).2
  omega
theorem runF_ok : ∀ (n : Nat) (t : Turns), GT t → TL (runF n t).1 ∧ sumLen (runF n t).1.Queues ≤ 500000000
  | 0, t, h => h.tls
  | n + 1, t, h => by
    unfold runF
    split
    · rename_i hs
      exact runF_ok n (turnF t) (goodTB_iff.1 (by rw [turn_good h, dec_t hs]))
    · exact noT_ok
theorem runTF_ok (t : Turns) (n : Int) : TL (runTF t n).1 ∧ sumLen (runTF t n).1.Queues ≤ 500000000 := by
  unfold runTF
  split
  · rename_i h
    simp only [Bool.and_eq_true] at h
    exact runF_ok _ t (goodTB_iff.1 h.1)
  · exact noT_ok
structure Cur (c : L1Cur) (b : Int) : Prop where
  len : c.Code.length ≤ 1048576
  bytes : ∀ x ∈ c.Code, 0 ≤ x ∧ x ≤ 255
  lo : 0 ≤ c.At
  hi : c.At ≤ b
theorem Cur.mono {c : L1Cur} {b d : Int} (h : Cur c b) (hd : b ≤ d) : Cur c d := ⟨h.len, h.bytes, h.lo, by have := h.hi; omega⟩
theorem and255 (k : Int) : 0 ≤ andL .u64 k 255 ∧ andL .u64 k 255 ≤ 255 := by
  have h : (BitVec.ofInt IntKind.u64.bits k &&& BitVec.ofInt IntKind.u64.bits 255).toNat ≤ 255 := by
    rw [BitVec.toNat_and]
    exact Nat.and_le_right
  unfold andL
  rw [IntWalk.u64_in _ (by omega)]
  omega
theorem next_ok {c : L1Cur} {b : Int} (h : Cur c b) (hb : b ≤ 4611686018427387904) : ∃ x d, spec_l1Cur_next c = some (x, d) ∧ (0 ≤ x ∧ x ≤ 255) ∧ Cur d (b + 1) := by
  obtain ⟨h1, h2, h3, h4⟩ := h
  unfold spec_l1Cur_next
  rw [w64 (x := c.At + 1) (by omega)]
  have e : ∃ x5, (bif (decide (c.At < (c.Code.length : Int))) then (idx c.Code c.At).bind fun b10 => some ((IntKind.i64.wrap b10)) else some (0)) = some x5 ∧ 0 ≤ x5 ∧ x5 ≤ 255 := by
    by_cases hc : c.At < c.Code.length
    · rw [show decide (c.At < (c.Code.length : Int)) = true by simpa using hc]
      obtain ⟨n, hn⟩ := Int.eq_ofNat_of_zero_le h3
      rw [hn, idx_lt (show n < c.Code.length by omega)]
      have := h2 _ (List.getElem_mem (show n < c.Code.length by omega))
      simp only [cond_true, Option.bind_some]
      rw [w64 (by omega)]
      exact ⟨_, rfl, this⟩
    · rw [show decide (c.At < (c.Code.length : Int)) = false by simpa using hc]
      exact ⟨0, rfl, by omega, by omega⟩
  obtain ⟨x5, e1, e2⟩ := e
  rw [e1, Option.bind_some]
  cases decide (c.At + 1 ≤ (c.Code.length : Int))
  · refine ⟨_, _, rfl, ?_, ⟨h1, h2, by simp only; omega, by simp only; omega⟩⟩
    have := and255 (shrL .u64 (IntKind.u64.wrap ((IntKind.u64.wrap ((IntKind.u64.wrap (c.Seed * 6364136223846793005)) + (IntKind.u64.wrap x5))) + 1442695040888963407)) 40)
    rw [w64 (by omega)]
    exact this
  · exact ⟨_, _, rfl, e2, ⟨h1, h2, by simp only; omega, by simp only; omega⟩⟩
theorem md_ok {x n : Int} (hx : 0 ≤ x) (hn : 1 < n) : ∃ r, md x n = some r ∧ 0 ≤ r ∧ r < n := by
  unfold md
  rw [if_neg (by omega)]
  refine ⟨_, rfl, ?_, ?_⟩
  · rw [Int.tmod_eq_emod_of_nonneg hx]; exact Int.emod_nonneg _ (by omega)
  · rw [Int.tmod_eq_emod_of_nonneg hx]; exact Int.emod_lt_of_pos _ (by omega)
theorem pick_ok {c : L1Cur} {b n : Int} (h : Cur c b) (hb : b ≤ 4000000000000000000) : ∃ x d, spec_l1Cur_pick c n = some (x, d) ∧ (0 ≤ x ∧ (1 ≤ n → x < n)) ∧ Cur d (b + 2) := by
  unfold spec_l1Cur_pick
  by_cases hn : n ≤ 1
  · rw [show decide (n ≤ 1) = true by simpa using hn]
    exact ⟨0, c, rfl, ⟨by omega, by omega⟩, h.mono (by omega)⟩
  · rw [show decide (n ≤ 1) = false by simpa using hn]
    obtain ⟨x, d, e1, e2, e3⟩ := next_ok h (by omega)
    simp only [cond_false]
    rw [e1, Option.bind_some]
    cases decide (200 < n)
    · simp only [cond_false, Option.bind_some]
      obtain ⟨r, r1, r2, r3⟩ := md_ok (x := x) e2.1 (show 1 < n by omega)
      rw [r1]
      exact ⟨r, _, rfl, ⟨r2, fun _ => r3⟩, e3.mono (by omega)⟩
    · simp only [cond_true]
      obtain ⟨y, d', f1, f2, f3⟩ := next_ok e3 (by omega)
      rw [f1]
      simp only [Option.bind_some]
      rw [w64 (x := x * 256) (by omega), w64 (by omega)]
      obtain ⟨r, r1, r2, r3⟩ := md_ok (x := x * 256 + y) (by omega) (show 1 < n by omega)
      rw [r1]
      exact ⟨r, _, rfl, ⟨r2, fun _ => r3⟩, f3.mono (by omega)⟩
theorem one_ok {c : L1Cur} {b n : Int} (h : Cur c b) (hb : b ≤ 4000000000000000000) : ∃ x d, spec_l1Cur_one c n = some (x, d) ∧ Cur d (b + 2) := by
  obtain ⟨x, d, e1, _, e3⟩ := pick_ok (n := n) h hb
  unfold spec_l1Cur_one
  rw [e1]
  exact ⟨_, _, rfl, e3⟩
theorem among_ok {c : L1Cur} {b : Int} {l : List Int} (h : Cur c b) (hb : b ≤ 4000000000000000000) (hl : l ≠ []) : ∃ x d, spec_l1Cur_among c l = some (x, d) ∧ x ∈ l ∧ Cur d (b + 2) := by
  obtain ⟨x, d, e1, e2, e3⟩ := pick_ok (n := (l.length : Int)) h hb
  have hl' : 1 ≤ l.length := by cases l with | nil => exact absurd rfl hl | cons _ _ => simp
  unfold spec_l1Cur_among
  rw [e1]
  obtain ⟨n, rfl⟩ := Int.eq_ofNat_of_zero_le e2.1
  have hn : n < l.length := by have := e2.2 (by omega); omega
  simp only [Option.bind_some]
  rw [idx_lt hn]
  exact ⟨_, _, rfl, List.getElem_mem hn, e3⟩
theorem cur0 {l : List Int} (hl : l.length ≤ 1048576) (hb : ∀ x ∈ l, 0 ≤ x ∧ x ≤ 255) : Cur ⟨l, 0, 0⟩ 0 := ⟨hl, hb, by simp, by simp⟩
theorem sameL {l : List Int} (hl : l.length ≤ 1048576) : laws_sameInts l l = some true := by
  unfold laws_sameInts
  rw [eqS_go (l := l) (fun k hk => by
    simp only [laws_sameInts_l0]
    rw [dec_t (by omega), idx_lt hk, w64 (by omega)]
    simp) (by simp [laws_sameInts_l0])]
  simp
theorem sameT {t : Turns} (h : TL t) : laws_sameTurns t t = some true := by
  unfold laws_sameTurns
  rw [sameL h.l1, Option.bind_some, sameL h.l3, Option.bind_some, sameL h.l4, Option.bind_some, eqS_go (l := t.Queues) (fun k hk => by
    have := h.l2
    simp only [laws_sameTurns_l0]
    rw [dec_t (by omega), idx_lt hk, w64 (by omega)]
    simp only [cond_true, Option.bind_some]
    rw [sameL (h.l5 _ (List.getElem_mem hk))]
    rfl) (by simp [laws_sameTurns_l0])]
  simp
theorem quanta_ok {c : L1Cur} (h : Cur c 0) : Tot (spec_l1Cur_quanta c) fun r => 1 ≤ r.1.length ∧ r.1.length ≤ 4 ∧ Cur r.2 1000 := by
  unfold spec_l1Cur_quanta
  obtain ⟨x, d, e1, e2, e3⟩ := pick_ok (n := 4) h (by omega)
  have e2' := e2.2 (by omega)
  rw [e1, Option.bind_some]
  simp only
  rw [w64 (by omega)]
  have key : Tot (whl spec_l1Cur_quanta_l0 ([], 1 + x, d.Code, d.At, d.Seed)) fun y => 1 ≤ y.1.length ∧ y.1.length ≤ 4 ∧ Cur ⟨y.2.1, y.2.2.1, y.2.2.2⟩ 100 := by
    refine Tot.whl (fun x => x.2.1.toNat) (fun x => 0 ≤ x.2.1 ∧ 1 ≤ (x.1.length : Int) + x.2.1 ∧ (x.1.length : Int) + x.2.1 ≤ 4 ∧ Cur ⟨x.2.2.1, x.2.2.2.1, x.2.2.2.2⟩ (100 - 2 * x.2.1)) ?_ ⟨by simp only; omega, by simp only [List.length_nil]; omega, by simp only [List.length_nil]; omega, e3.mono (by simp only; omega)⟩
    rintro ⟨l, n, C, A, S⟩ ⟨i1, i2, i3, i4⟩
    simp only at i1 i2 i3 i4
    simp only [spec_l1Cur_quanta_l0]
    by_cases hn : 0 < n
    · rw [dec_t hn]
      obtain ⟨y, d', f1, f2, f3⟩ := pick_ok (n := 30) i4 (by omega)
      simp only [cond_true, f1, Option.bind_some]
      rw [app_of (by simp <;> omega) (by omega), Option.bind_some, w64 (x := n - 1) (by omega)]
      exact ⟨_, rfl, ⟨by simp only; omega, by simp <;> omega, by simp <;> omega, f3.mono (by simp only; omega)⟩, by simp only; omega⟩
    · rw [dec_f hn]
      have : n = 0 := by omega
      subst this
      exact ⟨_, rfl, by simp only; omega, by simp only; omega, i4.mono (by omega)⟩
  refine Tot.then key ?_
  rintro ⟨l, C, A, S⟩ ⟨k1, k2, k3⟩
  simp only at k1 k2 k3 ⊢
  obtain ⟨b, d2, g1, g2⟩ := one_ok (n := 30) k3 (by omega)
  rw [g1, Option.bind_some]
  cases b
  · exact ⟨_, rfl, k1, k2, g2.mono (by omega)⟩
  · obtain ⟨y, d3, m1, m2, m3⟩ := among_ok (l := [19, 100, 101]) g2 (by omega) (by simp)
    simp only [cond_true, m1, Option.bind_some]
    rw [idx_in (by omega) (by omega), Option.bind_some]
    exact ⟨_, rfl, by simpa using k1, by simpa using k2, m3.mono (by omega)⟩
structure TD (t : Turns) : Prop where
  tl : TL t
  c1 : 1 ≤ t.Credit.length
  s1 : 1 ≤ t.Sent.length
def newT (l : List Int) : Turns := ⟨l, List.replicate l.length [], List.replicate l.length 0, List.replicate l.length 0, 0⟩
theorem sNew {l : List Int} (hl : l.length ≤ 1048576) : spec_NewTurns l = some (if quB l then (newT l, true) else (noT, false)) := by
  unfold spec_NewTurns
  rw [sIn, Option.bind_some, sAll hl]
  have e : quB l = (inB l.length 1 4 && l.all (inB · 20 100)) := rfl
  rw [e]
  cases h1 : inB (l.length : Int) 1 4
  · rfl
  have h1' := inB_iff.1 h1
  simp only [Bool.not_true, cond_false, Option.bind_some, Bool.true_and]
  cases l.all (inB · 20 100)
  · rfl
  · simp only [Bool.not_true, cond_false, if_true]
    rw [app_in (by simp <;> omega) (by omega), Option.bind_some, mkL_of (by omega) (by omega), Option.bind_some, mkL_of (by omega) (by omega)]
    rfl
theorem newT_td {l : List Int} (h : quB l = true) : TD (newT l) := by
  have := (quB_iff.1 h).1
  refine ⟨⟨by simp [newT]; omega, by simp [newT]; omega, by simp [newT]; omega, by simp [newT]; omega, fun q hq => ?_⟩, by simp [newT]; omega, by simp [newT]; omega⟩
  simp only [newT, List.mem_replicate] at hq
  rw [hq.2]; simp
theorem put_td {t : Turns} (h : TD t) (k n : Int) (ho : (putF t k n).2 = true) : TD (putF t k n).1 := by
  refine ⟨(putF_ok k n).1, ?_, ?_⟩
  · unfold putF at ho ⊢
    split
    · exact h.c1
    · rename_i hc; rw [if_neg hc] at ho; simp at ho
  · unfold putF at ho ⊢
    split
    · exact h.s1
    · rename_i hc; rw [if_neg hc] at ho; simp at ho
theorem next_td {t : Turns} (h : TD t) (ho : (nextF t).2.2 = true) : TD (nextF t).1 := by
  have h1 := h.c1; have h2 := h.s1
  refine ⟨(nextF_ok t).1, ?_, ?_⟩
  · unfold nextF at ho ⊢
    split
    · split
      · simpa [turnF] using h1
      · rename_i a b; rw [if_pos a, if_neg b] at ho; simp at ho
    · rename_i a; rw [if_neg a] at ho; simp at ho
  · unfold nextF at ho ⊢
    split
    · split
      · simpa [turnF] using h2
      · rename_i a b; rw [if_pos a, if_neg b] at ho; simp at ho
    · rename_i a; rw [if_neg a] at ho; simp at ho
theorem turns_ok {c : L1Cur} (h : Cur c 0) : Tot (spec_l1Cur_turns c) fun r => TL r.1 ∧ Cur r.2 10000 := by
  unfold spec_l1Cur_turns
  refine Tot.then (quanta_ok h) ?_
  rintro ⟨l, d⟩ ⟨a1, a2, a3⟩
  simp only at a1 a2 a3 ⊢
  rw [sNew (by omega), Option.bind_some]
  have s20 : spec_NewTurns [20] = some (newT [20], true) := by rw [sNew (by simp)]; rfl
  have start : ∃ t, TD t ∧ (bif (!(if quB l = true then (newT l, true) else (noT, false)).2) then (spec_NewTurns ([20] : List Int)).bind fun (b52, _b53) => some (b52.Quanta, b52.Queues, b52.Credit, b52.Sent, b52.At) else some ((if quB l = true then (newT l, true) else (noT, false)).1.Quanta, (if quB l = true then (newT l, true) else (noT, false)).1.Queues, (if quB l = true then (newT l, true) else (noT, false)).1.Credit, (if quB l = true then (newT l, true) else (noT, false)).1.Sent, (if quB l = true then (newT l, true) else (noT, false)).1.At)) = some (t.Quanta, t.Queues, t.Credit, t.Sent, t.At) := by
    by_cases hq : quB l = true
    · rw [if_pos hq]; exact ⟨newT l, newT_td hq, rfl⟩
    · rw [if_neg hq, s20]; exact ⟨newT [20], newT_td (by decide), rfl⟩
  obtain ⟨t, t1, t2⟩ := start
  rw [t2, Option.bind_some]
  simp only
  obtain ⟨n, d2, p1, p2, p3⟩ := pick_ok (n := 20) a3 (by omega)
  have p2' := p2.2 (by omega)
  rw [p1, Option.bind_some]
  simp only
  have key : Tot (whl spec_l1Cur_turns_l0 (n, d2.Code, d2.At, d2.Seed, t.Quanta, t.Queues, t.Credit, t.Sent, t.At)) fun y => TD ⟨y.2.2.2.1, y.2.2.2.2.1, y.2.2.2.2.2.1, y.2.2.2.2.2.2.1, y.2.2.2.2.2.2.2⟩ ∧ Cur ⟨y.1, y.2.1, y.2.2.1⟩ 2000 := by
    refine Tot.whl (fun x => x.1.toNat) (fun x => 0 ≤ x.1 ∧ x.1 ≤ 20 ∧ Cur ⟨x.2.1, x.2.2.1, x.2.2.2.1⟩ (2000 - 10 * x.1) ∧ TD ⟨x.2.2.2.2.1, x.2.2.2.2.2.1, x.2.2.2.2.2.2.1, x.2.2.2.2.2.2.2.1, x.2.2.2.2.2.2.2.2⟩) ?_ ⟨p2.1, by simp only; omega, p3.mono (by simp only; omega), t1⟩
    rintro ⟨n, C, A, S, q1, q2, q3, q4, q5⟩ ⟨i1, i2, i3, i4⟩
    simp only at i1 i2 i3 i4
    simp only [spec_l1Cur_turns_l0]
    by_cases hn : 0 < n
    · rw [dec_t hn]
      obtain ⟨y, d', f1, f2, f3⟩ := pick_ok (n := (q2.length : Int)) i3 (by omega)
      obtain ⟨z, d'', g1, g2, g3⟩ := pick_ok (n := 20) f3 (by omega)
      simp only [cond_true, f1, g1, Option.bind_some, sPut i4.tl]
      have h1 : ∃ t' : Turns, TD t' ∧ (bif (putF ⟨q1, q2, q3, q4, q5⟩ y (IntKind.i64.wrap (1 + z))).2 then some ((putF ⟨q1, q2, q3, q4, q5⟩ y (IntKind.i64.wrap (1 + z))).1.Quanta, (putF ⟨q1, q2, q3, q4, q5⟩ y (IntKind.i64.wrap (1 + z))).1.Queues, (putF ⟨q1, q2, q3, q4, q5⟩ y (IntKind.i64.wrap (1 + z))).1.Credit, (putF ⟨q1, q2, q3, q4, q5⟩ y (IntKind.i64.wrap (1 + z))).1.Sent, (putF ⟨q1, q2, q3, q4, q5⟩ y (IntKind.i64.wrap (1 + z))).1.At) else some (q1, q2, q3, q4, q5)) = some (t'.Quanta, t'.Queues, t'.Credit, t'.Sent, t'.At) := by
        cases hp : (putF ⟨q1, q2, q3, q4, q5⟩ y (IntKind.i64.wrap (1 + z))).2
        · exact ⟨⟨q1, q2, q3, q4, q5⟩, i4, rfl⟩
        · exact ⟨_, put_td i4 _ _ hp, rfl⟩
      obtain ⟨t', u1, u2⟩ := h1
      rw [u2, Option.bind_some]
      simp only [turns_eta, sNext u1.tl, Option.bind_some]
      have h2 : ∃ (b : Bool) (e : L1Cur), Cur e (2000 - 10 * n + 6) ∧ (b = true → (nextF t').2.2 = true) ∧ (bif (nextF t').2.2 then (spec_l1Cur_one d'' 4).bind fun (b212, b213) => some (b212, b213.Code, b213.At, b213.Seed) else some (false, d''.Code, d''.At, d''.Seed)) = some (b, e.Code, e.At, e.Seed) := by
        cases (nextF t').2.2
        · exact ⟨false, d'', g3.mono (by omega), by simp, rfl⟩
        · obtain ⟨b, e, m1, m2⟩ := one_ok (n := 4) g3 (by omega)
          refine ⟨b, e, m2.mono (by omega), by simp, ?_⟩
          rw [cond_true, m1]; rfl
      obtain ⟨b, e, v1, v2, v3⟩ := h2
      rw [v3, Option.bind_some]
      simp only
      rw [w64 (x := n - 1) (by omega)]
      cases b
      · simp only [cond_false, Option.bind_some]
        exact ⟨_, rfl, ⟨by simp only; omega, by simp only; omega, v1.mono (by simp only; omega), u1⟩, by simp only; omega⟩
      · simp only [cond_true, Option.bind_some]
        exact ⟨_, rfl, ⟨by simp only; omega, by simp only; omega, v1.mono (by simp only; omega), next_td u1 (v2 rfl)⟩, by simp only; omega⟩
    · rw [dec_f hn]
      exact ⟨_, rfl, i4, i3.mono (by omega)⟩
  refine Tot.then key ?_
  rintro ⟨C, A, S, q1, q2, q3, q4, q5⟩ ⟨k1, k2⟩
  simp only at k1 k2 ⊢
  obtain ⟨x, d3, r1, r2, r3⟩ := pick_ok (n := 30) k2 (by omega)
  rw [r1, Option.bind_some]
  simp only
  obtain ⟨b1, b2, b3, b4, b5⟩ := k1.tl
  have c1 := k1.c1; have s1 := k1.s1
  simp only at b1 b2 b3 b4 b5 c1 s1
  have i3 : idx q3 0 = some (q3[0]'(by omega)) := idx_in (by omega) (by omega)
  have i4 : idx q4 0 = some (q4[0]'(by omega)) := idx_in (by omega) (by omega)
  cases x == 0
  · cases x == 1
    · cases x == 2
      · exact ⟨_, rfl, ⟨b1, b2, b3, b4, b5⟩, r3.mono (by omega)⟩
      · simp only [cond_false, cond_true, i4, Option.bind_some]
        exact ⟨_, rfl, ⟨b1, b2, b3, by simpa using b4, b5⟩, r3.mono (by omega)⟩
    · obtain ⟨y, d4, m1, m2, m3⟩ := pick_ok (n := 30) r3 (by omega)
      simp only [cond_false, cond_true, i3, m1, Option.bind_some]
      exact ⟨_, rfl, ⟨b1, b2, by simpa using b3, b4, b5⟩, m3.mono (by omega)⟩
  · obtain ⟨y, d4, m1, m2, m3⟩ := pick_ok (n := 6) r3 (by omega)
    simp only [cond_true, m1, Option.bind_some]
    exact ⟨_, rfl, ⟨b1, b2, b3, b4, b5⟩, m3.mono (by omega)⟩
theorem drawRun {l : List Int} (hl : l.length ≤ 1048576) (hb : ∀ x ∈ l, 0 ≤ x ∧ x ≤ 255) : Tot (spec_DrawRunTurns l) fun r => TL r.1 := by
  unfold spec_DrawRunTurns
  refine Tot.then (turns_ok (cur0 hl hb)) ?_
  rintro ⟨t, d⟩ ⟨h1, h2⟩
  simp only at h1 h2 ⊢
  obtain ⟨x, d', m1, m2, m3⟩ := among_ok (l := [-1, 0, 1, 3, 8, 60, 61]) h2 (by omega) (by simp)
  rw [m1]
  exact ⟨_, rfl, h1⟩
def vis (n : Nat) : Nat → Nat → Nat → Nat
  | _, 0, _ => 0
  | a, j + 1, k => (if a = k then 1 else 0) + vis n ((a + 1) % n) j k
theorem vis_all : ∀ n, n < 5 → ∀ a, a < n → ∀ k, k < n → ∀ r, r < 61 → r * n < 61 → vis n a (r * n) k = r := by decide +kernel
theorem serve_sum : ∀ (q : List Int) (c s : Int) (o : List Int), (serve q c s o).s + (serve q c s o).c = s + c
  | [], c, s, o => rfl
  | x :: q, c, s, o => by
    unfold serve
    split
    · rw [serve_sum]; omega
    · rfl
def qAt (t : Turns) (k : Nat) : List Int := t.Queues.getD k []
def cAt (t : Turns) (k : Nat) : Int := t.Credit.getD k 0
def sAt (t : Turns) (k : Nat) : Int := t.Sent.getD k 0
def uAt (t : Turns) (k : Nat) : Int := t.Quanta.getD k 0
theorem getD_set_self {α : Type} {l : List α} {k : Nat} {x d : α} (h : k < l.length) : (l.set k x).getD k d = x := by
  simp [List.getD, h]
theorem getD_set_ne {α : Type} {l : List α} {i k : Nat} {x d : α} (h : i ≠ k) : (l.set i x).getD k d = l.getD k d := by
  simp [List.getD, List.getElem?_set_ne h]
theorem turn_step {t : Turns} (h : GT t) {k : Nat} : (k ≠ t.At.toNat → qAt (turnF t) k = qAt t k ∧ cAt (turnF t) k = cAt t k ∧ sAt (turnF t) k = sAt t k) ∧
    (k = t.At.toNat → 0 < (qAt (turnF t) k).length → 0 < (qAt t k).length ∧ sAt (turnF t) k + cAt (turnF t) k = sAt t k + cAt t k + uAt t k) := by
  have a := h.atT
  have k2 := a.k2; have k3 := a.k3; have k4 := a.k4; have h0 := a.h0
  constructor
  · intro hk
    have hk' : t.At.toNat ≠ k := fun e => hk e.symm
    simp only [qAt, cAt, sAt, turnF]
    exact ⟨getD_set_ne hk', getD_set_ne hk', getD_set_ne hk'⟩
  · rintro rfl hq
    simp only [qAt, cAt, sAt, turnF] at hq ⊢
    rw [getD_set_self (by omega)] at hq
    rw [getD_set_self (by omega), getD_set_self (by omega), if_neg (by omega)]
    obtain ⟨r1, r2, r3, r4, r5⟩ := rowB_iff.1 a.row
    have hb := a.b1
    have so := serve_ok (t.Queues.getD t.At.toNat []) (if 0 < (t.Queues.getD t.At.toNat []).length then t.Credit.getD t.At.toNat 0 + t.Quanta.getD t.At.toNat 0 else t.Credit.getD t.At.toNat 0) (t.Sent.getD t.At.toNat 0) [] r2 (by split <;> omega) (by omega)
    have hs := serve_sum (t.Queues.getD t.At.toNat []) (if 0 < (t.Queues.getD t.At.toNat []).length then t.Credit.getD t.At.toNat 0 + t.Quanta.getD t.At.toNat 0 else t.Credit.getD t.At.toNat 0) (t.Sent.getD t.At.toNat 0) []
    have hl : 0 < (t.Queues.getD t.At.toNat []).length := by
      have := so.1
      change (srvT t).q.length ≤ _ at this
      omega
    refine ⟨hl, ?_⟩
    change (srvT t).s + (srvT t).c = _ at hs
    rw [if_pos hl] at hs
    rw [hs]
    simp only [uAt]
    omega
theorem run_inv : ∀ (j : Nat) (t : Turns), GT t → (runF j t).2 = true → GT (runF j t).1 ∧ (runF j t).1.Quanta = t.Quanta ∧
    ∀ k, 0 < (qAt (runF j t).1 k).length → 0 < (qAt t k).length ∧ sAt (runF j t).1 k + cAt (runF j t).1 k = sAt t k + cAt t k + vis t.Quanta.length t.At.toNat j k * uAt t k
  | 0, t, h, _ => ⟨h, rfl, fun k hk => ⟨hk, by simp [runF, vis]⟩⟩
  | j + 1, t, h, ho => by
    unfold runF at ho ⊢
    by_cases hs : (srvT t).s ≤ 1000000
    · rw [if_pos hs] at ho ⊢
      have hg : GT (turnF t) := goodTB_iff.1 (by rw [turn_good h, dec_t hs])
      obtain ⟨g1, g2, g3⟩ := run_inv j (turnF t) hg ho
      refine ⟨g1, g2, fun k hk => ?_⟩
      obtain ⟨u1, u2⟩ := g3 k hk
      obtain ⟨s1, s2⟩ := turn_step h (k := k)
      have ea : (turnF t).At.toNat = (t.At.toNat + 1) % t.Quanta.length := by
        have h0 := h.at_.1
        have e1 : (turnF t).At = (((t.At.toNat + 1) % t.Quanta.length : Nat) : Int) := by
          simp only [turnF]
          rw [Int.natCast_emod, Int.natCast_add, Int.toNat_of_nonneg h0]; rfl
        rw [e1, Int.toNat_natCast]
      have eq : (turnF t).Quanta = t.Quanta := rfl
      have eu : uAt (turnF t) k = uAt t k := rfl
      rw [ea, eq, eu] at u2
      simp only [vis]
      rw [u2]
      by_cases hk' : k = t.At.toNat
      · obtain ⟨w1, w2⟩ := s2 hk' u1
        rw [w2, if_pos hk'.symm]
        refine ⟨w1, ?_⟩
        rw [show ((1 + vis t.Quanta.length ((t.At.toNat + 1) % t.Quanta.length) j k : Nat) : Int) = 1 + (vis t.Quanta.length ((t.At.toNat + 1) % t.Quanta.length) j k : Int) by omega, Int.add_mul, Int.one_mul]
        omega
      · obtain ⟨w1, w2, w3⟩ := s1 hk'
        rw [w1] at u1
        rw [w2, w3, if_neg (fun e => hk' e.symm)]
        exact ⟨u1, by rw [Nat.zero_add]⟩
    · rw [if_neg hs] at ho
      simp at ho
theorem pureCredit (a b : List Int) (ha : a.length < 2 ^ 47) (hb : b.length < 2 ^ 47) (ba : ∀ x ∈ a, 0 ≤ x ∧ x ≤ 255) (_bb : ∀ x ∈ b, 0 ≤ x ∧ x ≤ 255) : laws_FnCredit a b = some true := by
  unfold laws_FnCredit
  rw [w64 (by omega)]
  by_cases hz : 1048576 < (a.length : Int) + b.length
  · rw [dec_t hz]; rfl
  rw [dec_f hz]
  obtain ⟨⟨t, n⟩, e1, hT⟩ := drawRun (l := a) (by omega) ba
  simp only at hT
  rw [cond_false, e1, Option.bind_some]
  simp only
  rw [iRun hT, sRun hT, Option.bind_some, Option.bind_some]
  obtain ⟨p1, p2⟩ := runTF_ok t n
  simp only [beq_self_eq_true, Bool.not_true, cond_false, sameT p1, Option.bind_some]
  have hfin : (some (LR.next () : LR Unit Bool)).bind (fun y => match y with | LR.next () => some (decide (0 ≤ (b.length : Int))) | LR.done z => some z) = some true := by
    simp
  cases ho : (runTF t n).2
  · exact hfin
  simp only [cond_true]
  have hgo : goodTB t = true ∧ inB n 0 60 = true ∧ runTF t n = runF n.toNat t := by
    unfold runTF at ho ⊢
    split at ho
    · rename_i hc
      rw [if_pos hc]
      simp only [Bool.and_eq_true] at hc
      exact ⟨hc.1, hc.2, rfl⟩
    · simp at ho
  obtain ⟨g1, g2, g3⟩ := hgo
  have hG := goodTB_iff.1 g1
  have hn := inB_iff.1 g2
  rw [g3] at ho ⊢
  obtain ⟨v1, v2, v3⟩ := run_inv n.toNat t hG ho
  generalize (runF n.toNat t).1 = x at v1 v2 v3
  have hm := (quB_iff.1 hG.qu).1
  have l1 := hG.l1; have l2 := hG.l2; have l3 := hG.l3
  have m1 := v1.l1; have m2 := v1.l2; have m3 := v1.l3
  rw [v2] at m1 m2 m3
  rw [dec_t (by omega)]
  have hmd : md n (t.Queues.length : Int) = some (n % (t.Queues.length : Int)) := by
    unfold md
    rw [if_neg (by omega), Int.tmod_eq_emod_of_nonneg hn.1]
  simp only [cond_true, hmd, Option.bind_some]
  by_cases hr : n % (t.Queues.length : Int) = 0
  · have hr' : (n % (t.Queues.length : Int) == 0) = true := by simp [hr]
    rw [hr', cond_true]
    have hdv : dv .i64 n (t.Queues.length : Int) = some (n / (t.Queues.length : Int)) := by
      unfold dv
      rw [if_neg (by omega), Int.tdiv_eq_ediv_of_nonneg hn.1, w64]
      have := Int.ediv_nonneg hn.1 (b := (t.Queues.length : Int)) (by omega)
      have := Int.ediv_le_self (t.Queues.length : Int) hn.1
      omega
    rw [hdv, Option.bind_some]
    have hd0 := Int.ediv_nonneg hn.1 (b := (t.Queues.length : Int)) (by omega)
    have hd1 := Int.ediv_le_self (t.Queues.length : Int) hn.1
    have hmul : n = (n / (t.Queues.length : Int)) * t.Queues.length := by
      have := Int.emod_add_mul_ediv n (t.Queues.length : Int)
      rw [hr] at this
      rw [Int.mul_comm]; omega
    obtain ⟨r, hrr⟩ := Int.eq_ofNat_of_zero_le hd0
    rw [hrr] at hmul hd1 ⊢
    have hrn : n.toNat = r * t.Quanta.length := by rw [← l1]; have : n = ((r * t.Queues.length : Nat) : Int) := by rw [hmul]; simp
                                                   omega
    have hvis : ∀ k, k < t.Quanta.length → vis t.Quanta.length t.At.toNat n.toNat k = r := fun k hk => by
      rw [hrn]
      exact vis_all _ (by omega) _ (by have := hG.at_; omega) _ hk _ (by omega) (by omega)
    have key : whl (laws_FnCredit_l0 t x (r : Int)) 0 = some (.next ()) := by
      refine whl_to (fun i : Int => t.Queues.length - i.toNat) (fun i => 0 ≤ i ∧ i ≤ t.Queues.length) _ ?_ _ ⟨by omega, by omega⟩
      rintro i ⟨i0, i1⟩
      simp only [laws_FnCredit_l0]
      by_cases hi : i < t.Queues.length
      · rw [dec_t hi]
        have hk : i.toNat < t.Quanta.length := by omega
        have w := v3 i.toNat
        rw [hvis _ hk] at w
        simp only [cond_true, idx_D [] i0 (show i < x.Queues.length by omega), idx_D 0 i0 (show i < x.Sent.length by omega), idx_D 0 i0 (show i < t.Sent.length by omega), idx_D 0 i0 (show i < t.Quanta.length by omega), idx_D 0 i0 (show i < t.Credit.length by omega), idx_D 0 i0 (show i < x.Credit.length by omega), Option.bind_some]
        have hx := rowB_iff.1 (v1.row i.toNat _ _ _ (get_D [] (by omega)) (get_D 0 (by omega)) (get_D 0 (by omega)))
        have ht := rowB_iff.1 (hG.row i.toNat _ _ _ (get_D [] (by omega)) (get_D 0 (by omega)) (get_D 0 (by omega)))
        have hu := (quB_iff.1 hG.qu).2 _ (List.mem_of_getElem? (get_D 0 hk))
        have hz : ∀ {β : Type} (z : β), (fun y : LR Unit β => y) (.next ()) = .next () := fun _ => rfl
        simp only [qAt, sAt, cAt, uAt] at w
        generalize x.Queues.getD i.toNat [] = xq at w hx ⊢
        generalize x.Sent.getD i.toNat 0 = xs at w hx ⊢
        generalize x.Credit.getD i.toNat 0 = xc at w hx ⊢
        generalize t.Sent.getD i.toNat 0 = ts at w ht ⊢
        generalize t.Credit.getD i.toNat 0 = tc at w ht ⊢
        generalize t.Quanta.getD i.toNat 0 = tu at w hu ⊢
        by_cases hq : xq.length = 0
        · have : ((xq.length : Int) == 0) = true := by simp [hq]
          rw [this]
          simp only [cond_true, Option.bind_some]
          rw [w64 (by omega)]
          exact ⟨_, rfl, ⟨by omega, by omega⟩, by omega⟩
        · have : ((xq.length : Int) == 0) = false := beq_nat (b := 0) hq
          rw [this]
          obtain ⟨_, w2⟩ := w (by omega)
          have hp0 : 0 ≤ (r : Int) * tu := Int.mul_nonneg (by omega) (by omega)
          have hp1 : (r : Int) * tu ≤ 60 * 100 := Int.mul_le_mul (by omega) (by omega) (by omega) (by omega)
          generalize (r : Int) * tu = P at w2 hp0 hp1 ⊢
          simp only [cond_false]
          rw [w64 (x := xs - ts) (by omega), w64 (x := P) (by omega), w64 (x := P + tc) (by omega), w64 (x := P + tc - xc) (by omega), w64 (x := P - 20) (by omega), w64 (x := P + 20) (by omega)]
          rw [show (xs - ts != P + tc - xc) = false from by rw [bne_eq_false_iff_eq]; omega, dec_f (show ¬ xs - ts ≤ P - 20 by omega), dec_f (show ¬ P + 20 ≤ xs - ts by omega)]
          simp only [cond_false, Option.bind_some]
          rw [w64 (by omega)]
          exact ⟨_, rfl, ⟨by omega, by omega⟩, by omega⟩
      · rw [dec_f hi]
        exact ⟨_, rfl, rfl⟩
    rw [key]
    exact hfin
  · have hr' : (n % (t.Queues.length : Int) == 0) = false := by simpa using hr
    rw [hr']
    exact hfin
end Go.VxW
