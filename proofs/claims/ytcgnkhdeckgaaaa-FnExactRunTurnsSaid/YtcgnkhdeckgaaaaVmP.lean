/-
  The plain law and all that it needs.
-/
import Derived.Test.YtcgnkhdeckgaaaaVmF
import Derived.Test.YtcgnkhdeckgaaaaVaF


open Go Go.VS
namespace Go.VxW
def inB (n a b : Int) : Bool := decide (a ≤ n) && decide (n ≤ b)
theorem sIn (n a b : Int) : spec_l1In n a b = some (inB n a b) := by
  unfold spec_l1In inB; cases decide (a ≤ n) <;> rfl
theorem iIn (n a b : Int) : impl_in n a b = some (inB n a b) := by
  unfold impl_in inB; cases decide (a ≤ n) <;> rfl
theorem inB_iff {n a b : Int} : inB n a b = true ↔ a ≤ n ∧ n ≤ b := by simp [inB]
theorem sAll {l : List Int} (hl : l.length ≤ 1048576) (a b : Int) : spec_l1All l a b = some (l.all (inB · a b)) := by
  unfold spec_l1All
  rw [whl_lg l (spec_l1All_l0 l a b) (fun k (_ : Unit) => k) (fun _ x s => if inB x a b then .next s else .done (.done false)) (fun _ => .next ()) (fun k hk s => by
    simp only [spec_l1All_l0]
    rw [dec_t (by omega), idx_lt hk, w64 (by omega)]
    simp only [cond_true, Option.bind_some, sIn]
    cases inB l[k] a b <;> rfl) (fun s => by simp [spec_l1All_l0]) (), lgo_all _ _ (fun _ _ _ => rfl)]
  cases l.all (inB · a b) <;> rfl
theorem toIntS {l : List Int} (hl : l.length ≤ 1048576) : laws_toIntS l = some l := by
  unfold laws_toIntS
  rw [mkL_of (by omega) (by omega), Option.bind_some, toS_go (l := l) (h := id) (fun k hk x hx => by
    simp only [laws_toIntS_l0]
    rw [dec_t (by omega), idx_lt hk, idx_lt (by omega)]
    simp only [cond_true, Option.bind_some, Int.toNat_natCast, id]
    rw [w64 (by omega)]) (fun x => by simp [laws_toIntS_l0]) (by simp)]
  simp
theorem eqIntS {l : List Int} (hl : l.length ≤ 1048576) : laws_eqIntS l l = some true := by
  unfold laws_eqIntS
  rw [eqS_go (l := l) (fun k hk => by
    simp only [laws_eqIntS_l0]
    rw [dec_t (by omega), idx_lt hk, w64 (by omega)]
    simp) (by simp [laws_eqIntS_l0])]
  simp
theorem markIntS {l : List Int} (hl : l.length ≤ 1048576) {n : Int} (h0 : 0 ≤ n) (h1 : n ≤ 1000000000) : laws_markIntS l n = some (n + 1 * l.length, markL (fun n _ => n) 1 n l) := by
  unfold laws_markIntS
  rw [mark_go (l := l) (mk := fun n _ => n) (c := 1) (fun k x hk hx => by
    simp only [laws_markIntS_l0]
    rw [dec_t (by omega), idx_lt hk]
    simp only [cond_true, Option.bind_some, Int.toNat_natCast]
    rw [w64 (by omega), w64 (by omega)]) (fun x hx => by simp only [laws_markIntS_l0]; rw [dec_f (by omega)]; rfl)]
  rfl
theorem heldIntS {l : List Int} (hl : l.length ≤ 1048576) {n : Int} (h0 : 0 ≤ n) (h1 : n ≤ 1000000000) : laws_heldIntS (markL (fun n _ => n) 1 n l) n = some (n + 1 * l.length) := by
  unfold laws_heldIntS
  rw [held_go (n0 := n) (c := 1) (len := l.length) (fun k hk => by
    have hg : idx (markL (fun n (_ : Int) => n) 1 n l) (k : Int) = some (n + 1 * k) := by
      rw [idx_nat, markL_get, List.getElem?_eq_getElem hk]; rfl
    simp only [laws_heldIntS_l0, hg, markL_len]
    rw [dec_t (by omega)]
    simp only [cond_true, Option.bind_some]
    rw [w64 (x := n + 1 * (k : Int) + 1) (by omega), w64 (x := (k : Int) + 1) (by omega)]
    simp) (by simp only [laws_heldIntS_l0, markL_len]; rw [dec_f (by omega)]; rfl)]
  rfl
theorem ixf_int {l : List Int} (hl : l.length < 2 ^ 60) {g : Int → Option Bool} (p : Int → Bool) (hg : ∀ x ∈ l, g x = some (p x)) : slices_IndexFunc_int l g = some (ixF p l) := by
  unfold slices_IndexFunc_int
  rw [ixf_go p (f := slices_IndexFunc_int_l0 l g) (fun _ => rfl) hl hg]
  have := ixF_ge p l
  by_cases h : ixF p l < 0
  · rw [if_pos h]; simp; omega
  · rw [if_neg h]; rfl
theorem cf_int {l : List Int} (hl : l.length < 2 ^ 60) {g : Int → Option Bool} (p : Int → Bool) (hg : ∀ x ∈ l, g x = some (p x)) : slices_ContainsFunc_int l g = some (l.any p) := by
  unfold slices_ContainsFunc_int
  rw [ixf_int hl p hg, Option.bind_some, ixF_any]
theorem bne_nat {a b : Nat} (h : a ≠ b) : ((a : Int) != (b : Int)) = true := bne_iff_ne.2 (by omega)
theorem beq_nat {a b : Nat} (h : a ≠ b) : ((a : Int) == (b : Int)) = false := beq_eq_false_iff_ne.2 (by omega)
theorem all_get {α : Type} {l : List α} {p : α → Bool} : l.all p = true ↔ ∀ (k : Nat) (x : α), l[k]? = some x → p x = true := by
  rw [List.all_eq_true]
  exact ⟨fun h k x hx => h x (List.mem_of_getElem? hx), fun h x hx => by obtain ⟨k, hk⟩ := List.mem_iff_getElem?.1 hx; exact h k x hk⟩
def quB (l : List Int) : Bool := inB l.length 1 4 && l.all (inB · 20 100)
theorem quB_iff {l : List Int} : quB l = true ↔ (1 ≤ l.length ∧ l.length ≤ 4) ∧ ∀ x ∈ l, 20 ≤ x ∧ x ≤ 100 := by
  simp only [quB, Bool.and_eq_true, inB_iff, List.all_eq_true]
  constructor
  · rintro ⟨h1, h2⟩; exact ⟨by omega, h2⟩
  · rintro ⟨h1, h2⟩; exact ⟨by omega, h2⟩
theorem iQuanta {l : List Int} (hl : l.length < 2 ^ 60) : impl_areQuanta l = some (quB l) := by
  unfold impl_areQuanta quB
  rw [iIn, Option.bind_some]
  cases h : inB (l.length : Int) 1 4
  · rfl
  · rw [cond_true, cf_int hl (fun x => !inB x 20 100) (fun x _ => by simp [impl_areQuanta_1, iIn]), Option.bind_some, Bool.true_and]
    congr 1
    rw [List.all_eq_not_any_not]
def rowB (x : List Int × Int × Int) : Bool := decide (x.1.length ≤ 30) && x.1.all (inB · 1 20) && inB x.2.1 0 19 && inB x.2.2 0 1000000 && !(decide (x.1.length = 0) && decide (x.2.1 ≠ 0))
theorem rowB_iff {q : List Int} {c s : Int} : rowB (q, c, s) = true ↔ q.length ≤ 30 ∧ (∀ x ∈ q, 1 ≤ x ∧ x ≤ 20) ∧ (0 ≤ c ∧ c ≤ 19) ∧ (0 ≤ s ∧ s ≤ 1000000) ∧ (q.length = 0 → c = 0) := by
  simp only [rowB, Bool.and_eq_true, inB_iff, List.all_eq_true, decide_eq_true_eq, Bool.not_eq_true', Bool.and_eq_false_iff, decide_eq_false_iff_not, ne_eq, Decidable.not_not]
  constructor
  · rintro ⟨⟨⟨⟨h1, h2⟩, h3⟩, h4⟩, h5⟩
    exact ⟨h1, h2, h3, h4, fun h => h5.resolve_left (fun hn => hn h)⟩
  · rintro ⟨h1, h2, h3, h4, h5⟩
    refine ⟨⟨⟨⟨h1, h2⟩, h3⟩, h4⟩, ?_⟩
    by_cases h : q.length = 0
    · exact .inr (h5 h)
    · exact .inl h
def rowsL (t : Turns) : List (List Int × Int × Int) := t.Queues.zip (t.Credit.zip t.Sent)
def lensB (t : Turns) : Bool := decide (t.Queues.length = t.Quanta.length) && decide (t.Credit.length = t.Quanta.length) && decide (t.Sent.length = t.Quanta.length)
def goodTB (t : Turns) : Bool := quB t.Quanta && lensB t && inB t.At 0 ((t.Quanta.length : Int) - 1) && (rowsL t).all rowB
structure GT (t : Turns) : Prop where
  qu : quB t.Quanta = true
  l1 : t.Queues.length = t.Quanta.length
  l2 : t.Credit.length = t.Quanta.length
  l3 : t.Sent.length = t.Quanta.length
  at_ : 0 ≤ t.At ∧ t.At < t.Quanta.length
  row : ∀ (k : Nat) (q : List Int) (c s : Int), t.Queues[k]? = some q → t.Credit[k]? = some c → t.Sent[k]? = some s → rowB (q, c, s) = true
theorem zip3 {t : Turns} {k : Nat} {x : List Int × Int × Int} : (rowsL t)[k]? = some x ↔ t.Queues[k]? = some x.1 ∧ t.Credit[k]? = some x.2.1 ∧ t.Sent[k]? = some x.2.2 := by
  unfold rowsL
  rw [List.getElem?_zip_eq_some, List.getElem?_zip_eq_some]
theorem lensB_iff {t : Turns} : lensB t = true ↔ t.Queues.length = t.Quanta.length ∧ t.Credit.length = t.Quanta.length ∧ t.Sent.length = t.Quanta.length := by
  simp [lensB, and_assoc]
theorem goodTB_iff {t : Turns} : goodTB t = true ↔ GT t := by
  simp only [goodTB, Bool.and_eq_true, lensB_iff, inB_iff, all_get]
  constructor
  · rintro ⟨⟨⟨h1, h2, h3, h4⟩, h5⟩, h6⟩
    exact ⟨h1, h2, h3, h4, by omega, fun k q c s a1 a2 a3 => h6 k (q, c, s) (zip3.2 ⟨a1, a2, a3⟩)⟩
  · rintro ⟨h1, h2, h3, h4, h5, h6⟩
    exact ⟨⟨⟨h1, h2, h3, h4⟩, by omega⟩, fun k x hx => by obtain ⟨a1, a2, a3⟩ := zip3.1 hx; exact h6 k _ _ _ a1 a2 a3⟩
theorem rows_len {t : Turns} (h : lensB t = true) : (rowsL t).length = t.Quanta.length := by
  obtain ⟨h1, h2, h3⟩ := lensB_iff.1 h
  simp [rowsL, h1, h2, h3]
theorem rows_idx {t : Turns} {k : Nat} (hk : k < (rowsL t).length) : idx t.Queues (k : Int) = some (rowsL t)[k].1 ∧ idx t.Credit (k : Int) = some (rowsL t)[k].2.1 ∧ idx t.Sent (k : Int) = some (rowsL t)[k].2.2 := by
  have := zip3.1 (List.getElem?_eq_getElem hk)
  rw [idx_nat, idx_nat, idx_nat]
  exact this
theorem iGoodT (t : Turns) (hz : t.Quanta.length < 2 ^ 60) (hq : ∀ q ∈ t.Queues, q.length < 2 ^ 60) : impl_GoodTurns t = some (goodTB t) := by
  unfold impl_GoodTurns goodTB
  rw [iQuanta hz, Option.bind_some]
  cases h1 : quB t.Quanta
  · simp
  simp only [Bool.not_true, cond_false, Bool.true_and]
  have hn := (quB_iff.1 h1).1
  cases h2 : lensB t
  · have h2' : ¬ (t.Queues.length = t.Quanta.length ∧ t.Credit.length = t.Quanta.length ∧ t.Sent.length = t.Quanta.length) := fun h => by rw [lensB_iff.2 h] at h2; simp at h2
    by_cases a1 : t.Queues.length = t.Quanta.length
    · by_cases a2 : t.Credit.length = t.Quanta.length
      · have a3 : t.Sent.length ≠ t.Quanta.length := fun h => h2' ⟨a1, a2, h⟩
        have e3 : ((t.Sent.length : Int) != (t.Quanta.length : Int)) = true := bne_nat a3
        simp only [a1, a2, bne_self_eq_false, e3, cond_false, cond_true, Option.bind_some, Bool.false_and]
      · have e3 : ((t.Credit.length : Int) != (t.Quanta.length : Int)) = true := bne_nat a2
        simp only [a1, bne_self_eq_false, e3, cond_false, cond_true, Option.bind_some, Bool.false_and]
    · have e3 : ((t.Queues.length : Int) != (t.Quanta.length : Int)) = true := bne_nat a1
      simp only [e3, cond_true, Option.bind_some, Bool.false_and]
  obtain ⟨a1, a2, a3⟩ := lensB_iff.1 h2
  simp only [a1, a2, a3, bne_self_eq_false, cond_false, Bool.true_and, iIn, Option.bind_some]
  rw [w64 (by omega)]
  cases h3 : inB t.At 0 ((t.Quanta.length : Int) - 1)
  · rfl
  simp only [Bool.not_true, cond_false, Bool.true_and]
  have hl := rows_len h2
  rw [whl_lg (rowsL t) (impl_GoodTurns_l0 t) (fun k (_ : Unit) => k) (fun _ x s => if rowB x then .next s else .done (.done false)) (fun _ => .next ()) (fun k hk s => by
    obtain ⟨b1, b2, b3⟩ := rows_idx hk
    have hm : (rowsL t)[k].1 ∈ t.Queues := List.mem_of_getElem? (zip3.1 (List.getElem?_eq_getElem hk)).1
    have hq' := hq _ hm
    generalize (rowsL t)[k] = x at b1 b2 b3 hq'
    obtain ⟨q, c, s'⟩ := x
    simp only at b1 b2 b3 hq'
    simp only [impl_GoodTurns_l0, b1, b2, b3, Option.bind_some, iIn]
    rw [dec_t (by omega), w64 (by omega), cf_int hq' (fun x => !inB x 1 20) (fun x _ => by simp [impl_GoodTurns_1, impl_isPacket, iIn])]
    simp only [cond_true, Option.bind_some]
    have e1 : (q.any fun x => !inB x 1 20) = !(q.all (inB · 1 20)) := by rw [List.all_eq_not_any_not]; simp
    rw [e1]
    by_cases c1 : q.length ≤ 30
    · rw [dec_f (show ¬ 30 < (q.length : Int) by omega)]
      simp only [cond_false, Option.bind_some, rowB, dec_t c1, Bool.true_and]
      cases q.all (inB · 1 20)
      · rfl
      · simp only [Bool.not_true, cond_false, Bool.true_and]
        cases c2 : inB c 0 19
        · rfl
        · simp only [Bool.not_true, cond_false, Bool.true_and]
          have hc := inB_iff.1 c2
          by_cases c3 : q.length = 0
          · have e2 : ((q.length : Int) == 0) = true := by simp [c3]
            rw [e2]
            simp only [cond_true]
            by_cases c4 : 0 < c
            · rw [dec_t c4, dec_t (show c ≠ 0 by omega), dec_t c3]; simp [LR.mapN]
            · rw [dec_f c4, dec_f (show ¬ c ≠ 0 by omega)]
              simp only [cond_false]
              cases inB s' 0 1000000 <;> simp [LR.mapN]
          · have e2 : ((q.length : Int) == 0) = false := by simpa using c3
            rw [e2, dec_f c3]
            simp only [cond_false]
            cases inB s' 0 1000000 <;> simp [LR.mapN]
    · rw [dec_t (show 30 < (q.length : Int) by omega)]
      simp only [cond_true, Option.bind_some, rowB, dec_f c1, Bool.false_and]
      rfl) (fun s => by
    simp only [impl_GoodTurns_l0]
    rw [dec_f (by omega)]; rfl) (), lgo_all _ _ (fun _ _ _ => rfl)]
  cases (rowsL t).all rowB <;> rfl
def rowB' (x : List Int × Int × Int) : Bool := decide (x.1.length ≤ 30) && x.1.all (inB · 1 20) && !(decide (x.1.length = 0) && decide (x.2.1 ≠ 0))
theorem good2 {t : Turns} (h : lensB t = true) : (t.Credit.all (inB · 0 19) && t.Sent.all (inB · 0 1000000) && (rowsL t).all rowB') = (rowsL t).all rowB := by
  obtain ⟨a1, a2, a3⟩ := lensB_iff.1 h
  rw [Bool.eq_iff_iff]
  simp only [Bool.and_eq_true, all_get]
  constructor
  · rintro ⟨⟨h1, h2⟩, h3⟩ k ⟨q, c, s⟩ hx
    obtain ⟨b1, b2, b3⟩ := zip3.1 hx
    have c1 := h1 k c b2
    have c2 := h2 k s b3
    have c3 := h3 k _ hx
    simp only [rowB', Bool.and_eq_true] at c3
    simp only [rowB, Bool.and_eq_true]
    exact ⟨⟨⟨c3.1, c1⟩, c2⟩, c3.2⟩
  · intro h
    have one : ∀ k, k < t.Quanta.length → ∃ q c s, t.Queues[k]? = some q ∧ t.Credit[k]? = some c ∧ t.Sent[k]? = some s ∧ rowB (q, c, s) = true := fun k hk => by
      have b1 := List.getElem?_eq_getElem (show k < t.Queues.length by omega)
      have b2 := List.getElem?_eq_getElem (show k < t.Credit.length by omega)
      have b3 := List.getElem?_eq_getElem (show k < t.Sent.length by omega)
      exact ⟨_, _, _, b1, b2, b3, h k (_, _, _) (zip3.2 ⟨b1, b2, b3⟩)⟩
    refine ⟨⟨fun k c hc => ?_, fun k s hs => ?_⟩, fun k x hx => ?_⟩
    · obtain ⟨q, c', s, _, b2, _, b4⟩ := one k (by rw [← a2]; exact (List.getElem?_eq_some_iff.1 hc).1)
      rw [hc] at b2; simp only [Option.some.injEq] at b2; subst b2
      simp only [rowB, Bool.and_eq_true] at b4
      exact b4.1.1.2
    · obtain ⟨q, c', s', _, _, b3, b4⟩ := one k (by rw [← a3]; exact (List.getElem?_eq_some_iff.1 hs).1)
      rw [hs] at b3; simp only [Option.some.injEq] at b3; subst b3
      simp only [rowB, Bool.and_eq_true] at b4
      exact b4.1.2
    · have := h k x hx
      simp only [rowB, Bool.and_eq_true] at this
      simp only [rowB', Bool.and_eq_true]
      exact ⟨this.1.1.1, this.2⟩
theorem sGoodT (t : Turns) (hq : ∀ q ∈ t.Queues, q.length < 2 ^ 60) : spec_GoodTurns t = some (goodTB t) := by
  unfold spec_GoodTurns goodTB quB
  rw [sIn, Option.bind_some]
  cases h1 : inB (t.Quanta.length : Int) 1 4
  · rfl
  simp only [Bool.not_true, cond_false, Bool.true_and]
  have hn := inB_iff.1 h1
  rw [sAll (by omega), Option.bind_some]
  cases h1' : t.Quanta.all (inB · 20 100)
  · rfl
  simp only [Bool.not_true, cond_false, Bool.true_and]
  cases h2 : lensB t
  · have h2' : ¬ (t.Queues.length = t.Quanta.length ∧ t.Credit.length = t.Quanta.length ∧ t.Sent.length = t.Quanta.length) := fun h => by rw [lensB_iff.2 h] at h2; simp at h2
    by_cases a1 : t.Queues.length = t.Quanta.length
    · by_cases a2 : t.Credit.length = t.Quanta.length
      · have a3 : t.Sent.length ≠ t.Quanta.length := fun h => h2' ⟨a1, a2, h⟩
        have e3 : ((t.Sent.length : Int) != (t.Quanta.length : Int)) = true := bne_nat a3
        simp only [a1, a2, bne_self_eq_false, e3, cond_false, cond_true, Option.bind_some, Bool.false_and]
      · have e3 : ((t.Credit.length : Int) != (t.Quanta.length : Int)) = true := bne_nat a2
        simp only [a1, bne_self_eq_false, e3, cond_false, cond_true, Option.bind_some, Bool.false_and]
    · have e3 : ((t.Queues.length : Int) != (t.Quanta.length : Int)) = true := bne_nat a1
      simp only [e3, cond_true, Option.bind_some, Bool.false_and]
  rw [← good2 h2]
  obtain ⟨a1, a2, a3⟩ := lensB_iff.1 h2
  have hl := rows_len h2
  rw [sAll (l := t.Credit) (by omega), sAll (l := t.Sent) (by omega)]
  simp only [a1, a2, a3, bne_self_eq_false, cond_false, Bool.true_and, sIn, Option.bind_some]
  rw [w64 (by omega)]
  cases t.Credit.all (inB · 0 19)
  · simp
  cases t.Sent.all (inB · 0 1000000)
  · simp
  cases h3 : inB t.At 0 ((t.Quanta.length : Int) - 1)
  · simp
  simp only [Bool.not_true, cond_false, Bool.true_and, Option.bind_some]
  rw [whl_lg (rowsL t) (spec_GoodTurns_l0 t) (fun k (_ : Unit) => k) (fun _ x s => if rowB' x then .next s else .done (.done false)) (fun _ => .next ()) (fun k hk s => by
    obtain ⟨b1, b2, b3⟩ := rows_idx hk
    have hm : (rowsL t)[k].1 ∈ t.Queues := List.mem_of_getElem? (zip3.1 (List.getElem?_eq_getElem hk)).1
    have hq' := hq _ hm
    generalize (rowsL t)[k] = x at b1 b2 b3 hq'
    obtain ⟨q, c, s'⟩ := x
    simp only at b1 b2 b3 hq'
    simp only [spec_GoodTurns_l0, b1, b2, Option.bind_some]
    rw [dec_t (by omega), w64 (by omega)]
    simp only [cond_true]
    by_cases c1 : q.length ≤ 30
    · rw [dec_f (show ¬ 30 < (q.length : Int) by omega), sAll (by omega)]
      simp only [cond_false, Option.bind_some, rowB', dec_t c1, Bool.true_and]
      cases q.all (inB · 1 20)
      · rfl
      · simp only [Bool.not_true, cond_false, Bool.true_and]
        by_cases c3 : q.length = 0
        · have e2 : ((q.length : Int) == 0) = true := by simp [c3]
          rw [e2, dec_t c3]
          by_cases c4 : c = 0
          · subst c4; rfl
          · have e3 : (c != 0) = true := by simpa using c4
            rw [e3, dec_t c4]; rfl
        · have e2 : ((q.length : Int) == 0) = false := by simpa using c3
          rw [e2, dec_f c3]; rfl
    · rw [dec_t (show 30 < (q.length : Int) by omega)]
      simp only [cond_true, Option.bind_some, rowB', dec_f c1, Bool.false_and]
      rfl) (fun s => by
    simp only [spec_GoodTurns_l0]
    rw [dec_f (by omega)]; rfl) (), lgo_all _ _ (fun _ _ _ => rfl)]
  cases (rowsL t).all rowB' <;> rfl
theorem clone_in {l : List Int} (h : l.length ≤ 1099511627776) : slices_Clone_int l = some l := by
  unfold slices_Clone_int
  rw [app_in (by simpa using h) (by omega)]; rfl
theorem own_go {l : List (List Int)} {f : Int × List (List Int) → Option (LR (Int × List (List Int)) (List (List Int)))} (_hl : l.length ≤ 1048576)
    (hs : ∀ (k : Nat) (s : List (List Int)) (hk : k < l.length), s.length = k → f (k, s) = some (.next ((k : Int) + 1, s ++ [l[k]]))) (hz : ∀ s, f (l.length, s) = some (.done s)) : whl f (0, []) = some l := by
  rw [whl_lgo l f (fun k (s : List (List Int)) => (k, s)) (fun _ x s => .next (s ++ [x])) (fun s => s) (fun k s => s.length = k) (fun k hk s hi => by
    rw [hs k s hk hi]
    exact ⟨rfl, fun s' e => by simp at e; rw [← e]; simp; omega⟩) (fun s _ => by rw [hz]) [] rfl, lgo_fold (fun s x => s ++ [x]) (fun _ _ _ => rfl)]
  congr 1
  have : ∀ (m : List (List Int)) (s : List (List Int)), m.foldl (fun s x => s ++ [x]) s = s ++ m := by
    intro m
    induction m with
    | nil => simp
    | cons x xs ih => intro s; simp [ih]
  simpa using this l []
structure TL (t : Turns) : Prop where
  l1 : t.Quanta.length ≤ 1048576
  l2 : t.Queues.length ≤ 1048576
  l3 : t.Credit.length ≤ 1048576
  l4 : t.Sent.length ≤ 1048576
  l5 : ∀ q ∈ t.Queues, q.length ≤ 1048576
theorem iCopy {t : Turns} (h : TL t) : impl_Turns_copied t = some t := by
  obtain ⟨h1, h2, h3, h4, h5⟩ := h
  unfold impl_Turns_copied
  rw [clone_in (by omega), Option.bind_some, clone_in (by omega), Option.bind_some, clone_in (by omega), Option.bind_some, own_go (l := t.Queues) h2 (fun k s hk hs => by
    simp only [impl_Turns_copied_l0]
    have := h5 _ (List.getElem_mem hk)
    rw [dec_t (by omega), idx_lt hk]
    simp only [cond_true, Option.bind_some]
    rw [clone_in (by omega), Option.bind_some, app_of (by simp <;> omega) (by omega), Option.bind_some, w64 (by omega)]) (fun s => by
    simp only [impl_Turns_copied_l0]
    rw [dec_f (by omega)]; rfl)]
  rfl
theorem sOwn {t : Turns} (h : TL t) : spec_l8Own t = some t := by
  obtain ⟨h1, h2, h3, h4, h5⟩ := h
  unfold spec_l8Own
  rw [app_in (by simp <;> omega) (by omega), Option.bind_some, app_in (by simp <;> omega) (by omega), Option.bind_some, app_in (by simp <;> omega) (by omega), Option.bind_some, own_go (l := t.Queues) h2 (fun k s hk hs => by
    simp only [spec_l8Own_l0]
    have := h5 _ (List.getElem_mem hk)
    rw [dec_t (by omega), idx_lt hk]
    simp only [cond_true, Option.bind_some]
    rw [app_in (by simp <;> omega) (by omega), Option.bind_some, app_of (by simp <;> omega) (by omega), Option.bind_some, w64 (by omega)]
    simp) (fun s => by
    simp only [spec_l8Own_l0]
    rw [dec_f (by omega)]; rfl)]
  simp
theorem GT.tl {t : Turns} (h : GT t) : TL t := by
  have hn := (quB_iff.1 h.qu).1
  have h1 := h.l1; have h2 := h.l2; have h3 := h.l3
  refine ⟨by omega, by omega, by omega, by omega, fun q hq => ?_⟩
  obtain ⟨k, hk⟩ := List.mem_iff_getElem?.1 hq
  have hlt := (List.getElem?_eq_some_iff.1 hk).1
  have := rowB_iff.1 (h.row k q _ _ hk (List.getElem?_eq_getElem (show k < t.Credit.length by omega)) (List.getElem?_eq_getElem (show k < t.Sent.length by omega)))
  omega
def noT : Turns := ⟨[], [], [], [], 0⟩
def sumLen : List (List Int) → Int
  | [] => 0
  | q :: l => q.length + sumLen l
theorem sumLen_in {B : Int} : ∀ (l : List (List Int)), (∀ q ∈ l, (q.length : Int) ≤ B) → 0 ≤ B → 0 ≤ sumLen l ∧ sumLen l ≤ B * l.length
  | [], _, _ => by simp [sumLen]
  | q :: l, h, hB => by
    have h1 := sumLen_in l (fun p hp => h p (by simp [hp])) hB
    have h2 := h q (by simp)
    simp only [sumLen, List.length_cons]
    rw [show ((l.length + 1 : Nat) : Int) = (l.length : Int) + 1 by omega, Int.mul_add, Int.mul_one]
    omega
theorem sumLen_app : ∀ (a b : List (List Int)), sumLen (a ++ b) = sumLen a + sumLen b
  | [], b => by simp [sumLen]
  | q :: l, b => by simp only [List.cons_append, sumLen, sumLen_app l b]; omega
theorem szTurns {t : Turns} (h1 : t.Quanta.length < 2 ^ 47) (h2 : t.Queues.length < 2 ^ 47) (h3 : t.Credit.length < 2 ^ 47) (h4 : t.Sent.length < 2 ^ 47) (h5 : ∀ q ∈ t.Queues, q.length < 2 ^ 47) : ∃ k, laws_szTurns t 1048576 = some k ∧ (0 ≤ k → TL t ∧ sumLen t.Queues ≤ 1048576) := by
  have one : ∀ (l : List Int) (n : Int), l.length < 2 ^ 47 → 0 ≤ n → n ≤ 1048576 → ∃ k, laws_szIntS l n = some k ∧ (k = -1 ∨ (0 ≤ k ∧ k + l.length = n ∧ (l.length : Int) ≤ 1048576)) := fun l n hl h0 hn => by
    unfold laws_szIntS
    rw [w64 (by omega)]
    by_cases h : n - (l.length : Int) < 0
    · rw [dec_t h]; exact ⟨-1, rfl, .inl rfl⟩
    · rw [dec_f h]; exact ⟨_, rfl, .inr ⟨by omega, by omega, by omega⟩⟩
  have two : ∀ (l : List (List Int)) (n : Int), l.length < 2 ^ 47 → (∀ q ∈ l, q.length < 2 ^ 47) → 0 ≤ n → n ≤ 1048576 → ∃ k, laws_szIntSS l n = some k ∧ (k = -1 ∨ (0 ≤ k ∧ k ≤ n ∧ (l.length : Int) ≤ 1048576 ∧ (∀ q ∈ l, q.length ≤ 1048576) ∧ sumLen l ≤ 1048576)) := fun l n hl hq h0 hn => by
    unfold laws_szIntSS
    rw [w64 (by omega)]
    by_cases h : n - (l.length : Int) < 0
    · rw [dec_t h]; exact ⟨-1, rfl, .inl rfl⟩
    · rw [dec_f h]
      simp only [cond_false]
      have key : Tot (whl (laws_szIntSS_l0 l) (n - (l.length : Int), 0)) (fun y => match y with | .next k => 0 ≤ k ∧ k + sumLen l ≤ n ∧ ∀ q ∈ l, q.length ≤ 1048576 | .done k => k = -1) := by
        refine Tot.whl (fun x => l.length - x.2.toNat) (fun x => 0 ≤ x.1 ∧ x.1 + sumLen (l.take x.2.toNat) ≤ n ∧ 0 ≤ x.2 ∧ x.2 ≤ l.length ∧ ∀ q ∈ l.take x.2.toNat, q.length ≤ 1048576) ?_ ⟨by simp only; omega, by simp [sumLen]; omega, by simp, by simp, by simp⟩
        rintro ⟨a, i⟩ ⟨i1, i2, i3, i4, i5⟩
        simp only at i1 i2 i3 i4 i5
        simp only [laws_szIntSS_l0]
        by_cases hi : i < l.length
        · rw [dec_t hi, idx_in i3 hi]
          simp only [cond_true, Option.bind_some]
          have hp : 0 ≤ sumLen (l.take i.toNat) := (sumLen_in (B := 1048576) _ (fun q hq => by have := i5 q hq; omega) (by omega)).1
          have ht : sumLen (l.take (i.toNat + 1)) = sumLen (l.take i.toNat) + (l[i.toNat]'(by omega)).length := by
            rw [List.take_succ_eq_append_getElem (by omega), sumLen_app]; simp [sumLen]
          obtain ⟨k, e1, e2⟩ := one (l[i.toNat]'(by omega)) a (hq _ (List.getElem_mem _)) i1 (by omega)
          rw [e1, Option.bind_some]
          rcases e2 with rfl | ⟨e2, e3, e4⟩
          · exact ⟨_, rfl, rfl⟩
          · rw [dec_f (by omega), w64 (by omega)]
            have et : (i + 1).toNat = i.toNat + 1 := by omega
            refine ⟨_, rfl, ⟨e2, by simp only [et, ht]; omega, by omega, by omega, fun q hq' => ?_⟩, by simp only; omega⟩
            rw [et, List.take_succ_eq_append_getElem (by omega)] at hq'
            rcases List.mem_append.1 hq' with h' | h'
            · exact i5 q h'
            · simp at h'; subst h'; omega
        · rw [dec_f hi]
          rw [List.take_of_length_le (by omega)] at i2 i5
          exact ⟨_, rfl, i1, i2, i5⟩
      obtain ⟨y, e1, e2⟩ := key
      rw [e1, Option.bind_some]
      cases y with
      | next k =>
        have hp : 0 ≤ sumLen l := (sumLen_in (B := 1048576) _ (fun q hq => by have := e2.2.2 q hq; omega) (by omega)).1
        exact ⟨k, rfl, .inr ⟨e2.1, by omega, by omega, e2.2.2, by omega⟩⟩
      | done k => exact ⟨k, rfl, .inl e2⟩
  unfold laws_szTurns
  obtain ⟨k1, e1, r1⟩ := one t.Quanta 1048576 h1 (by omega) (by omega)
  rw [e1, Option.bind_some]
  rcases r1 with rfl | ⟨a1, a2, a3⟩
  · exact ⟨_, rfl, by omega⟩
  rw [dec_f (by omega)]
  simp only [cond_false]
  obtain ⟨k2, e2, r2⟩ := two t.Queues k1 h2 h5 a1 (by omega)
  rw [e2, Option.bind_some]
  rcases r2 with rfl | ⟨b1, b2, b3, b4, b5⟩
  · exact ⟨_, rfl, by omega⟩
  rw [dec_f (by omega)]
  simp only [cond_false]
  obtain ⟨k3, e3, r3⟩ := one t.Credit k2 h3 b1 (by omega)
  rw [e3, Option.bind_some]
  rcases r3 with rfl | ⟨c1, c2, c3⟩
  · exact ⟨_, rfl, by omega⟩
  rw [dec_f (by omega)]
  simp only [cond_false]
  obtain ⟨k4, e4, r4⟩ := one t.Sent k3 h4 c1 (by omega)
  rw [e4, Option.bind_some]
  rcases r4 with rfl | ⟨d1, d2, d3⟩
  · exact ⟨_, rfl, by omega⟩
  rw [dec_f (by omega)]
  exact ⟨_, rfl, fun _ => ⟨⟨by omega, by omega, by omega, by omega, b4⟩, b5⟩⟩
theorem toIntSS {l : List (List Int)} (hl : l.length ≤ 1048576) (hq : ∀ q ∈ l, q.length ≤ 1048576) : laws_toIntSS l = some l := by
  unfold laws_toIntSS
  rw [mkL_of (by omega) (by omega), Option.bind_some, toS_go (l := l) (h := id) (fun k hk x hx => by
    simp only [laws_toIntSS_l0]
    rw [dec_t (by omega), idx_lt hk, idx_lt (by omega)]
    simp only [cond_true, Option.bind_some, Int.toNat_natCast, id]
    rw [toIntS (hq _ (List.getElem_mem hk)), Option.bind_some, w64 (by omega)]) (fun x => by simp [laws_toIntSS_l0]) (by simp)]
  simp
theorem toTurns {t : Turns} (h : TL t) : laws_toTurns t = some t := by
  unfold laws_toTurns
  rw [toIntS h.l1, Option.bind_some, toIntSS h.l2 h.l5, Option.bind_some, toIntS h.l3, Option.bind_some, toIntS h.l4]; rfl
theorem eqIntSS {l : List (List Int)} (hl : l.length ≤ 1048576) (hq : ∀ q ∈ l, q.length ≤ 1048576) : laws_eqIntSS l l = some true := by
  unfold laws_eqIntSS
  rw [eqS_go (l := l) (fun k hk => by
    simp only [laws_eqIntSS_l0]
    rw [dec_t (by omega), idx_lt hk, w64 (by omega)]
    simp only [cond_true, Option.bind_some]
    rw [eqIntS (hq _ (List.getElem_mem hk))]
    rfl) (by simp [laws_eqIntSS_l0])]
  simp
theorem eqTurns {t : Turns} (h : TL t) : laws_eqTurns t t = some true := by
  unfold laws_eqTurns
  rw [eqIntS h.l1, Option.bind_some, eqIntSS h.l2 h.l5, eqIntS h.l3, eqIntS h.l4]
  simp
def markLL : Int → List (List Int) → List (List Int)
  | _, [] => []
  | n, q :: l => markL (fun n _ => n) 1 n q :: markLL (n + q.length) l
theorem markLL_len : ∀ (n : Int) (l : List (List Int)), (markLL n l).length = l.length
  | _, [] => rfl
  | n, q :: l => by simp [markLL, markLL_len _ l]
theorem markLL_app : ∀ (n : Int) (a b : List (List Int)), markLL n (a ++ b) = markLL n a ++ markLL (n + sumLen a) b
  | n, [], b => by simp [markLL, sumLen]
  | n, q :: l, b => by
    simp only [List.cons_append, markLL, markLL_app, sumLen]
    rw [show n + (q.length : Int) + sumLen l = n + ((q.length : Int) + sumLen l) by omega]
theorem sumLen_take {l : List (List Int)} {B : Int} (h : ∀ q ∈ l, (q.length : Int) ≤ B) (hB : 0 ≤ B) (k : Nat) : 0 ≤ sumLen (l.take k) ∧ sumLen (l.take k) ≤ sumLen l := by
  have h1 := sumLen_in (B := B) (l.take k) (fun q hq => h q (List.mem_of_mem_take hq)) hB
  have h2 := sumLen_in (B := B) (l.drop k) (fun q hq => h q (List.mem_of_mem_drop hq)) hB
  have h3 := sumLen_app (l.take k) (l.drop k)
  rw [List.take_append_drop] at h3
  omega
theorem markIntSS {l : List (List Int)} (hl : l.length ≤ 1048576) (hq : ∀ q ∈ l, q.length ≤ 1048576) {n : Int} (h0 : 0 ≤ n) (h1 : n + sumLen l ≤ 1000000000) : laws_markIntSS l n = some (n + sumLen l, markLL n l) := by
  unfold laws_markIntSS
  have hb : ∀ q ∈ l, (q.length : Int) ≤ 1048576 := fun q hq' => by have := hq q hq'; omega
  have key : whl laws_markIntSS_l0 (l, n, 0) = some (n + sumLen l, markLL n l) := by
    refine whl_to (fun x : List (List Int) × Int × Int => l.length - x.2.2.toNat) (fun x => 0 ≤ x.2.2 ∧ x.2.2 ≤ (l.length : Int) ∧ x.2.1 = n + sumLen (l.take x.2.2.toNat) ∧ x.1 = markLL n (l.take x.2.2.toNat) ++ l.drop x.2.2.toNat) _ ?_ _ ⟨by simp, by simp, by simp [sumLen], by simp [markLL]⟩
    rintro ⟨a, m, i⟩ ⟨i1, i2, i3, i4⟩
    simp only at i1 i2 i3 i4
    subst i3; subst i4
    simp only [laws_markIntSS_l0, List.length_append, markLL_len, List.length_take, List.length_drop]
    by_cases hi : i < l.length
    · have hlt : i.toNat < l.length := by omega
      have hs := sumLen_take hb (by omega) i.toNat
      have hg : idx (markLL n (l.take i.toNat) ++ l.drop i.toNat) i = some l[i.toNat] := by
        obtain ⟨k, rfl⟩ := Int.eq_ofNat_of_zero_le i1
        rw [idx_nat, List.getElem?_append_right (by rw [markLL_len, List.length_take]; simp; omega), markLL_len, List.length_take, List.getElem?_drop]
        simp only [Int.toNat_natCast]
        rw [show k + (k - min k l.length) = k by omega, List.getElem?_eq_getElem (by omega)]
      rw [dec_t (by omega), hg]
      simp only [cond_true, Option.bind_some]
      rw [markIntS (hq _ (List.getElem_mem _)) (by omega) (by omega), Option.bind_some]
      simp only
      rw [w64 (by omega)]
      have ht : l.take (i.toNat + 1) = l.take i.toNat ++ [l[i.toNat]] := List.take_succ_eq_append_getElem hlt
      refine ⟨_, rfl, ⟨by simp only; omega, by simp only; omega, ?_, ?_⟩, by simp only; omega⟩
      · simp only
        rw [show (i + 1).toNat = i.toNat + 1 by omega, ht, sumLen_app]
        simp only [sumLen]; omega
      · simp only
        rw [show (i + 1).toNat = i.toNat + 1 by omega, ht, markLL_app, List.set_append_right _ _ (by rw [markLL_len, List.length_take]; omega), markLL_len, List.length_take, show i.toNat - min i.toNat l.length = 0 by omega, List.drop_eq_getElem_cons hlt]
        simp only [List.set_cons_zero, markLL, List.append_assoc, List.cons_append, List.nil_append]
    · rw [dec_f (by omega)]
      refine ⟨_, rfl, ?_⟩
      simp only
      rw [List.take_of_length_le (by omega), List.drop_eq_nil_of_le (by omega), List.append_nil]
  rw [key, Option.bind_some]
theorem heldIntSS {l : List (List Int)} (hl : l.length ≤ 1048576) (hq : ∀ q ∈ l, q.length ≤ 1048576) {n : Int} (h0 : 0 ≤ n) (h1 : n + sumLen l ≤ 1000000000) : laws_heldIntSS (markLL n l) n = some (n + sumLen l) := by
  unfold laws_heldIntSS
  have hb : ∀ q ∈ l, (q.length : Int) ≤ 1048576 := fun q hq' => by have := hq q hq'; omega
  have key : whl (laws_heldIntSS_l0 (markLL n l)) (n, 0) = some (.next (n + sumLen l)) := by
    refine whl_to (fun x : Int × Int => l.length - x.2.toNat) (fun x => 0 ≤ x.2 ∧ x.2 ≤ (l.length : Int) ∧ x.1 = n + sumLen (l.take x.2.toNat)) _ ?_ _ ⟨by simp, by simp, by simp [sumLen]⟩
    rintro ⟨m, i⟩ ⟨i1, i2, i3⟩
    simp only at i1 i2 i3
    subst i3
    simp only [laws_heldIntSS_l0, markLL_len]
    by_cases hi : i < l.length
    · have hlt : i.toNat < l.length := by omega
      have hs := sumLen_take hb (by omega) i.toNat
      have ht : l.take (i.toNat + 1) = l.take i.toNat ++ [l[i.toNat]] := List.take_succ_eq_append_getElem hlt
      have hg : idx (markLL n l) i = some (markL (fun n _ => n) 1 (n + sumLen (l.take i.toNat)) l[i.toNat]) := by
        obtain ⟨k, rfl⟩ := Int.eq_ofNat_of_zero_le i1
        simp only [Int.toNat_natCast] at hlt ⊢
        have e := markLL_app n (l.take k) (l.drop k)
        rw [List.take_append_drop] at e
        rw [idx_nat, e, List.getElem?_append_right (by rw [markLL_len, List.length_take]; omega), markLL_len, List.length_take, show k - min k l.length = 0 by omega, List.drop_eq_getElem_cons hlt]
        rfl
      rw [dec_t (by omega), hg]
      simp only [cond_true, Option.bind_some]
      have hb' := hb _ (List.getElem_mem hlt)
      rw [heldIntS (hq _ (List.getElem_mem _)) (by omega) (by omega), Option.bind_some, dec_f (by omega), w64 (by omega)]
      refine ⟨_, rfl, ⟨by simp only; omega, by simp only; omega, ?_⟩, by simp only; omega⟩
      simp only
      rw [show (i + 1).toNat = i.toNat + 1 by omega, ht, sumLen_app]
      simp only [sumLen]; omega
    · rw [dec_f (by omega)]
      refine ⟨_, rfl, ?_⟩
      simp only
      rw [List.take_of_length_le (by omega)]
  rw [key]; rfl
/-- Turns that are not too many are marked, and the marks are held. -/
theorem markT {t : Turns} (h : TL t) (hs : sumLen t.Queues ≤ 500000000) : ∃ m a b c d, laws_markTurns t 1 = some (m, a, b, c, d) ∧ 0 ≤ m ∧ ∀ at_, laws_heldTurns ⟨a, b, c, d, at_⟩ 1 = some m := by
  have h1 := h.l1; have h3 := h.l3; have h4 := h.l4
  have hs0 := (sumLen_in (B := 1048576) t.Queues (fun q hq => by have := h.l5 q hq; omega) (by omega)).1
  refine ⟨_, _, _, _, _, by
    unfold laws_markTurns
    rw [markIntS h.l1 (by omega) (by omega), Option.bind_some]
    simp only
    rw [markIntSS h.l2 h.l5 (by omega) (by omega), Option.bind_some]
    simp only
    rw [markIntS h.l3 (by omega) (by omega), Option.bind_some]
    simp only
    rw [markIntS h.l4 (by omega) (by omega), Option.bind_some], by omega, fun at_ => ?_⟩
  unfold laws_heldTurns
  simp only [heldIntS h.l1 (show (0 : Int) ≤ 1 by omega) (by omega), Option.bind_some]
  rw [dec_f (by omega)]
  simp only [cond_false]
  rw [heldIntSS h.l2 h.l5 (by omega) (by omega), Option.bind_some, dec_f (by omega)]
  simp only [cond_false]
  rw [heldIntS h.l3 (by omega) (by omega), Option.bind_some, dec_f (by omega)]
  simp only [cond_false]
  rw [heldIntS h.l4 (by omega) (by omega), Option.bind_some, dec_f (by omega)]
  rfl
structure Srv where
  o : List Int
  q : List Int
  c : Int
  s : Int
def serve : List Int → Int → Int → List Int → Srv
  | [], c, s, o => ⟨o, [], c, s⟩
  | x :: q, c, s, o => if x ≤ c then serve q (c - x) (s + x) (o ++ [x]) else ⟨o, x :: q, c, s⟩
theorem serve_ok : ∀ (q : List Int) (c s : Int) (o : List Int), (∀ x ∈ q, 1 ≤ x ∧ x ≤ 20) → 0 ≤ c → 0 ≤ s →
    (serve q c s o).q.length ≤ q.length ∧ (∀ x ∈ (serve q c s o).q, 1 ≤ x ∧ x ≤ 20) ∧ 0 ≤ (serve q c s o).c ∧ (0 < (serve q c s o).q.length → (serve q c s o).c ≤ 19) ∧ 0 ≤ (serve q c s o).s ∧ (serve q c s o).s ≤ s + 20 * q.length ∧ (serve q c s o).o.length ≤ o.length + q.length
  | [], c, s, o, _, hc, hs => by simp [serve]; omega
  | x :: q, c, s, o, h, hc, hs => by
    unfold serve
    have hx := h x (by simp)
    split
    · have := serve_ok q (c - x) (s + x) (o ++ [x]) (fun y hy => h y (by simp [hy])) (by omega) (by omega)
      simp only [List.length_append, List.length_cons, List.length_nil] at this ⊢
      refine ⟨by omega, this.2.1, this.2.2.1, this.2.2.2.1, this.2.2.2.2.1, by omega, by omega⟩
    · refine ⟨by simp, h, hc, fun _ => by simp only; omega, hs, by simp only [List.length_cons]; omega, by simp⟩
/-- The turn of queue k. -/
def srvT (t : Turns) : Srv :=
  let q := t.Queues.getD t.At.toNat []
  let c := t.Credit.getD t.At.toNat 0
  serve q (if 0 < q.length then c + t.Quanta.getD t.At.toNat 0 else c) (t.Sent.getD t.At.toNat 0) []
def turnF (t : Turns) : Turns :=
  { t with Queues := t.Queues.set t.At.toNat (srvT t).q, Credit := t.Credit.set t.At.toNat (if (srvT t).q.length = 0 then 0 else (srvT t).c), Sent := t.Sent.set t.At.toNat (srvT t).s, At := (t.At + 1) % t.Quanta.length }
theorem idx_set {α : Type} {l : List α} {i : Int} (h0 : 0 ≤ i) (h : i < l.length) (x : α) : idx (l.set i.toNat x) i = some x := by
  obtain ⟨k, rfl⟩ := Int.eq_ofNat_of_zero_le h0
  rw [idx_nat, Int.toNat_natCast, List.getElem?_set_self (by omega)]
theorem set_self {α : Type} (l : List α) (k : Nat) (d : α) (h : k < l.length) : l.set k (l.getD k d) = l := by
  have : l.getD k d = l[k] := by simp [List.getD, List.getElem?_eq_getElem h]
  rw [this, List.set_getElem_self]
theorem slc_tail {x : Int} {q : List Int} : slc (x :: q) 1 ((x :: q).length : Int) = some q := by
  simp [slc]; omega
theorem iServe {t : Turns} (h0 : 0 ≤ t.At) {Q : List (List Int)} {Cr S : List Int} (hQ : t.At < Q.length) (hC : t.At < Cr.length) (hS : t.At < S.length) :
    ∀ (q : List Int) (c s : Int) (o : List Int), (∀ x ∈ q, 1 ≤ x ∧ x ≤ 20) → 0 ≤ c → c ≤ 1000 → 0 ≤ s → s + 20 * q.length ≤ 1000000000 → o.length + q.length ≤ 1000 →
    whl (impl_Turns_turn_l0 t) (o, Q.set t.At.toNat q, Cr.set t.At.toNat c, S.set t.At.toNat s) = some ((serve q c s o).o, Q.set t.At.toNat (serve q c s o).q, Cr.set t.At.toNat (serve q c s o).c, S.set t.At.toNat (serve q c s o).s)
  | [], c, s, o, _, hc, hc', hs, hs', ho => by
    rw [whl_eq]
    simp only [impl_Turns_turn_l0, idx_set h0 hQ, Option.bind_some]
    rw [dec_f (by simp)]
    rfl
  | x :: q, c, s, o, h, hc, hc', hs, hs', ho => by
    have hx := h x (by simp)
    simp only [List.length_cons] at hs' ho
    rw [whl_eq]
    simp only [impl_Turns_turn_l0, idx_set h0 hQ, idx_set h0 hC, idx_set h0 hS, Option.bind_some]
    rw [dec_t (by simp <;> omega)]
    have e0 : idx (x :: q) 0 = some x := by simp [idx]
    simp only [cond_true, e0, Option.bind_some]
    unfold serve
    by_cases hxc : x ≤ c
    · rw [dec_t hxc, if_pos hxc]
      simp only [cond_true, slc_tail, Option.bind_some]
      rw [app_of (by simp <;> omega) (by omega), Option.bind_some]
      simp only [List.set_set]
      rw [w64 (by omega), w64 (by omega)]
      exact iServe h0 hQ hC hS q (c - x) (s + x) (o ++ [x]) (fun y hy => h y (by simp [hy])) (by omega) (by omega) (by omega) (by omega) (by simp <;> omega)
    · rw [dec_f hxc, if_neg hxc]
      rfl
theorem sServe {t : Turns} (h0 : 0 ≤ t.At) {Cr S : List Int} (hC : t.At < Cr.length) (hS : t.At < S.length) :
    ∀ (q : List Int) (c s : Int) (o : List Int), (∀ x ∈ q, 1 ≤ x ∧ x ≤ 20) → 0 ≤ c → c ≤ 1000 → 0 ≤ s → s + 20 * q.length ≤ 1000000000 → o.length + q.length ≤ 1000 →
    whl (spec_l8Next_l0 t) (o, q, Cr.set t.At.toNat c, S.set t.At.toNat s) = some ((serve q c s o).o, (serve q c s o).q, Cr.set t.At.toNat (serve q c s o).c, S.set t.At.toNat (serve q c s o).s)
  | [], c, s, o, _, hc, hc', hs, hs', ho => by
    rw [whl_eq]
    simp only [spec_l8Next_l0]
    rw [dec_f (by simp)]
    rfl
  | x :: q, c, s, o, h, hc, hc', hs, hs', ho => by
    have hx := h x (by simp)
    simp only [List.length_cons] at hs' ho
    rw [whl_eq]
    simp only [spec_l8Next_l0, idx_set h0 hC, idx_set h0 hS, Option.bind_some]
    rw [dec_t (by simp <;> omega)]
    have e0 : idx (x :: q) 0 = some x := by simp [idx]
    simp only [cond_true, e0, Option.bind_some]
    unfold serve
    by_cases hxc : x ≤ c
    · rw [dec_t hxc, if_pos hxc]
      simp only [cond_true, slc_tail, Option.bind_some]
      rw [app_of (by simp <;> omega) (by omega), Option.bind_some]
      simp only [List.set_set]
      rw [w64 (by omega), w64 (by omega)]
      exact sServe h0 hC hS q (c - x) (s + x) (o ++ [x]) (fun y hy => h y (by simp [hy])) (by omega) (by omega) (by omega) (by omega) (by simp <;> omega)
    · rw [dec_f hxc, if_neg hxc]
      rfl
/-- What stands at the queue of the turn. -/
structure AtT (t : Turns) : Prop where
  h0 : 0 ≤ t.At
  k1 : t.At < t.Quanta.length
  k2 : t.At < t.Queues.length
  k3 : t.At < t.Credit.length
  k4 : t.At < t.Sent.length
  e1 : idx t.Quanta t.At = some (t.Quanta.getD t.At.toNat 0)
  e2 : idx t.Queues t.At = some (t.Queues.getD t.At.toNat [])
  e3 : idx t.Credit t.At = some (t.Credit.getD t.At.toNat 0)
  e4 : idx t.Sent t.At = some (t.Sent.getD t.At.toNat 0)
  b1 : 20 ≤ t.Quanta.getD t.At.toNat 0 ∧ t.Quanta.getD t.At.toNat 0 ≤ 100
  row : rowB (t.Queues.getD t.At.toNat [], t.Credit.getD t.At.toNat 0, t.Sent.getD t.At.toNat 0) = true
theorem idx_D {α : Type} {l : List α} {i : Int} (d : α) (h0 : 0 ≤ i) (h : i < l.length) : idx l i = some (l.getD i.toNat d) := by
  rw [idx_in h0 h]; simp [List.getD, List.getElem?_eq_getElem (show i.toNat < l.length by omega)]
theorem get_D {α : Type} {l : List α} {k : Nat} (d : α) (h : k < l.length) : l[k]? = some (l.getD k d) := by
  simp [List.getD, List.getElem?_eq_getElem h]
theorem GT.atT {t : Turns} (h : GT t) : AtT t := by
  obtain ⟨a0, a1⟩ := h.at_
  have l1 := h.l1; have l2 := h.l2; have l3 := h.l3
  refine ⟨a0, a1, by omega, by omega, by omega, idx_D _ a0 a1, idx_D _ a0 (by omega), idx_D _ a0 (by omega), idx_D _ a0 (by omega), ?_, ?_⟩
  · exact (quB_iff.1 h.qu).2 _ (List.mem_of_getElem? (get_D 0 (by omega)))
  · exact h.row t.At.toNat _ _ _ (get_D _ (by omega)) (get_D _ (by omega)) (get_D _ (by omega))
theorem md_at {t : Turns} (h : GT t) : md (IntKind.i64.wrap (t.At + 1)) (t.Quanta.length : Int) = some ((t.At + 1) % t.Quanta.length) ∧ 0 ≤ (t.At + 1) % (t.Quanta.length : Int) ∧ (t.At + 1) % (t.Quanta.length : Int) < t.Quanta.length := by
  have h1 := h.at_
  have h2 := (quB_iff.1 h.qu).1
  rw [w64 (by omega), md, if_neg (by omega), Int.tmod_eq_emod_of_nonneg (by omega)]
  exact ⟨rfl, Int.emod_nonneg _ (by omega), Int.emod_lt_of_pos _ (by omega)⟩
theorem srvT_ok {t : Turns} (h : GT t) : (srvT t).q.length ≤ 30 ∧ (∀ x ∈ (srvT t).q, 1 ≤ x ∧ x ≤ 20) ∧ 0 ≤ (srvT t).c ∧ (0 < (srvT t).q.length → (srvT t).c ≤ 19) ∧ 0 ≤ (srvT t).s ∧ (srvT t).o.length ≤ 30 := by
  have a := h.atT
  obtain ⟨r1, r2, r3, r4, r5⟩ := rowB_iff.1 a.row
  have := serve_ok (t.Queues.getD t.At.toNat []) (if 0 < (t.Queues.getD t.At.toNat []).length then t.Credit.getD t.At.toNat 0 + t.Quanta.getD t.At.toNat 0 else t.Credit.getD t.At.toNat 0) (t.Sent.getD t.At.toNat 0) [] r2 (by have := a.b1; split <;> omega) (by omega)
  refine ⟨by unfold srvT; simp only; omega, this.2.1, this.2.2.1, this.2.2.2.1, this.2.2.2.2.1, ?_⟩
  have := this.2.2.2.2.2.2
  unfold srvT
  simp only
  simp only [List.length_nil] at this
  omega
theorem iTurn {t : Turns} (h : GT t) : impl_Turns_turn t = some ((srvT t).o, decide ((srvT t).s ≤ 1000000), turnF t) := by
  have a := h.atT
  obtain ⟨r1, r2, r3, r4, r5⟩ := rowB_iff.1 a.row
  have hb := a.b1
  unfold impl_Turns_turn
  rw [(md_at h).1, Option.bind_some, a.e2, Option.bind_some]
  have key : ((bif (decide (0 < ((t.Queues.getD t.At.toNat []).length : Int))) then (idx t.Credit t.At).bind fun b19 => (idx t.Quanta t.At).bind fun b21 => (idx t.Credit t.At).bind fun _b23 => some ((t.Credit.set t.At.toNat (IntKind.i64.wrap (b19 + b21)))) else some (t.Credit))) = some (t.Credit.set t.At.toNat (if 0 < (t.Queues.getD t.At.toNat []).length then t.Credit.getD t.At.toNat 0 + t.Quanta.getD t.At.toNat 0 else t.Credit.getD t.At.toNat 0)) := by
    by_cases hq : 0 < (t.Queues.getD t.At.toNat []).length
    · rw [dec_t (by omega), if_pos hq, a.e3, a.e1]
      simp only [cond_true, Option.bind_some]
      rw [w64 (by omega)]
    · rw [dec_f (by omega), if_neg hq, set_self _ _ _ (by have := a.k3; have := a.h0; omega)]; rfl
  rw [key, Option.bind_some]
  have hw := iServe (t := t) a.h0 a.k2 a.k3 a.k4 (t.Queues.getD t.At.toNat []) (if 0 < (t.Queues.getD t.At.toNat []).length then t.Credit.getD t.At.toNat 0 + t.Quanta.getD t.At.toNat 0 else t.Credit.getD t.At.toNat 0) (t.Sent.getD t.At.toNat 0) [] r2 (by split <;> omega) (by split <;> omega) (by omega) (by omega) (by simp only [List.length_nil]; omega)
  rw [set_self t.Queues _ _ (by have := a.k2; have := a.h0; omega), set_self t.Sent _ _ (by have := a.k4; have := a.h0; omega)] at hw
  rw [show (serve (t.Queues.getD t.At.toNat []) (if 0 < (t.Queues.getD t.At.toNat []).length then t.Credit.getD t.At.toNat 0 + t.Quanta.getD t.At.toNat 0 else t.Credit.getD t.At.toNat 0) (t.Sent.getD t.At.toNat 0) []) = srvT t from rfl] at hw
  rw [hw, Option.bind_some]
  simp only
  simp only [idx_set a.h0 a.k2, Option.bind_some]
  have k2 : ((bif (((srvT t).q.length : Int) == 0) then (idx (t.Credit.set t.At.toNat (srvT t).c) t.At).bind fun _b118 => some (((t.Credit.set t.At.toNat (srvT t).c).set t.At.toNat 0)) else some (t.Credit.set t.At.toNat (srvT t).c))) = some (t.Credit.set t.At.toNat (if (srvT t).q.length = 0 then 0 else (srvT t).c)) := by
    by_cases hq : (srvT t).q.length = 0
    · have : (((srvT t).q.length : Int) == 0) = true := by simp [hq]
      rw [this, if_pos hq, idx_set a.h0 a.k3]
      simp only [cond_true, Option.bind_some, List.set_set]
    · have : (((srvT t).q.length : Int) == 0) = false := beq_nat (b := 0) hq
      rw [this, if_neg hq]; rfl
  rw [k2, Option.bind_some]
  rw [idx_set a.h0 a.k4, Option.bind_some]
  rfl
theorem sTurn {t : Turns} (h : GT t) : spec_l8Next t = some (turnF t, (srvT t).o) := by
  have a := h.atT
  obtain ⟨r1, r2, r3, r4, r5⟩ := rowB_iff.1 a.row
  have hb := a.b1
  unfold spec_l8Next
  rw [h.l1, (md_at h).1, Option.bind_some, a.e2, Option.bind_some]
  have key : ((bif (decide (0 < ((t.Queues.getD t.At.toNat []).length : Int))) then (idx t.Credit t.At).bind fun b19 => (idx t.Quanta t.At).bind fun b21 => (idx t.Credit t.At).bind fun _b23 => some ((t.Credit.set t.At.toNat (IntKind.i64.wrap (b19 + b21)))) else some (t.Credit))) = some (t.Credit.set t.At.toNat (if 0 < (t.Queues.getD t.At.toNat []).length then t.Credit.getD t.At.toNat 0 + t.Quanta.getD t.At.toNat 0 else t.Credit.getD t.At.toNat 0)) := by
    by_cases hq : 0 < (t.Queues.getD t.At.toNat []).length
    · rw [dec_t (by omega), if_pos hq, a.e3, a.e1]
      simp only [cond_true, Option.bind_some]
      rw [w64 (by omega)]
    · rw [dec_f (by omega), if_neg hq, set_self _ _ _ (by have := a.k3; have := a.h0; omega)]; rfl
  rw [key, Option.bind_some]
  have hw := sServe (t := t) a.h0 a.k3 a.k4 (t.Queues.getD t.At.toNat []) (if 0 < (t.Queues.getD t.At.toNat []).length then t.Credit.getD t.At.toNat 0 + t.Quanta.getD t.At.toNat 0 else t.Credit.getD t.At.toNat 0) (t.Sent.getD t.At.toNat 0) [] r2 (by split <;> omega) (by split <;> omega) (by omega) (by omega) (by simp only [List.length_nil]; omega)
  rw [set_self t.Sent _ _ (by have := a.k4; have := a.h0; omega)] at hw
  rw [show (serve (t.Queues.getD t.At.toNat []) (if 0 < (t.Queues.getD t.At.toNat []).length then t.Credit.getD t.At.toNat 0 + t.Quanta.getD t.At.toNat 0 else t.Credit.getD t.At.toNat 0) (t.Sent.getD t.At.toNat 0) []) = srvT t from rfl] at hw
  rw [hw, Option.bind_some]
  simp only
  have k2 : ((bif (((srvT t).q.length : Int) == 0) then (idx (t.Credit.set t.At.toNat (srvT t).c) t.At).bind fun _b118 => some (((t.Credit.set t.At.toNat (srvT t).c).set t.At.toNat 0)) else some (t.Credit.set t.At.toNat (srvT t).c))) = some (t.Credit.set t.At.toNat (if (srvT t).q.length = 0 then 0 else (srvT t).c)) := by
    by_cases hq : (srvT t).q.length = 0
    · have : (((srvT t).q.length : Int) == 0) = true := by simp [hq]
      rw [this, if_pos hq, idx_set a.h0 a.k3]
      simp only [cond_true, Option.bind_some, List.set_set]
    · have : (((srvT t).q.length : Int) == 0) = false := beq_nat (b := 0) hq
      rw [this, if_neg hq]; rfl
  rw [k2, Option.bind_some]
  have hl : (srvT t).q.length ≤ 30 := (srvT_ok h).1
  rw [app_in (by simp <;> omega) (by omega), Option.bind_some, List.nil_append]
  rfl
theorem turn_good {t : Turns} (h : GT t) : goodTB (turnF t) = decide ((srvT t).s ≤ 1000000) := by
  have a := h.atT
  obtain ⟨s1, s2, s3, s4, s5, s6⟩ := srvT_ok h
  have hn := quB_iff.1 h.qu
  have hm := md_at h
  have l1 := h.l1; have l2 := h.l2; have l3 := h.l3
  have hA := a.h0; have ha1 := a.k1
  rw [Bool.eq_iff_iff, goodTB_iff, decide_eq_true_eq]
  constructor
  · intro g
    have := g.row t.At.toNat (srvT t).q (if (srvT t).q.length = 0 then 0 else (srvT t).c) (srvT t).s (by simp only [turnF]; rw [List.getElem?_set_self (by omega)]) (by simp only [turnF]; rw [List.getElem?_set_self (by omega)]) (by simp only [turnF]; rw [List.getElem?_set_self (by omega)])
    exact (rowB_iff.1 this).2.2.2.1.2
  · intro hs
    refine ⟨h.qu, by simpa [turnF] using l1, by simpa [turnF] using l2, by simpa [turnF] using l3, ⟨hm.2.1, hm.2.2⟩, fun k q c s e1 e2 e3 => ?_⟩
    simp only [turnF, List.getElem?_set] at e1 e2 e3
    by_cases hk : t.At.toNat = k
    · rw [if_pos hk, if_pos (by omega)] at e1 e2 e3
      simp only [Option.some.injEq] at e1 e2 e3
      subst e1; subst e2; subst e3
      rw [rowB_iff]
      refine ⟨s1, s2, ?_, ⟨s5, hs⟩, fun h0 => by rw [if_pos h0]⟩
      split
      · omega
      · exact ⟨s3, s4 (by omega)⟩
    · rw [if_neg hk] at e1 e2 e3
      exact h.row k q c s e1 e2 e3
def nextF (t : Turns) : Turns × List Int × Bool :=
  if goodTB t then if (srvT t).s ≤ 1000000 then (turnF t, (srvT t).o, true) else (noT, [], false) else (noT, [], false)
theorem turn_tl {t : Turns} (h : GT t) : TL (turnF t) ∧ sumLen (turnF t).Queues ≤ 500000000 := by
  have hl := (quB_iff.1 h.qu).1
  have l1 := h.l1; have l2 := h.l2; have l3 := h.l3
  have hq : ∀ q ∈ (turnF t).Queues, q.length ≤ 30 := fun q hq => by
    simp only [turnF] at hq
    rcases List.mem_or_eq_of_mem_set hq with h' | rfl
    · obtain ⟨k, hk⟩ := List.mem_iff_getElem?.1 h'
      have hlt := (List.getElem?_eq_some_iff.1 hk).1
      exact (rowB_iff.1 (h.row k q _ _ hk (List.getElem?_eq_getElem (show k < t.Credit.length by omega)) (List.getElem?_eq_getElem (show k < t.Sent.length by omega)))).1
    · exact (srvT_ok h).1
  have e : (turnF t).Queues.length = t.Queues.length := by simp [turnF]
  refine ⟨⟨by simp only [turnF]; omega, by omega, by simp only [turnF, List.length_set]; omega, by simp only [turnF, List.length_set]; omega, fun q hq' => by have := hq q hq'; omega⟩, ?_⟩
  have := (sumLen_in (B := 31) (turnF t).Queues (fun q hq' => by have := hq q hq'; omega) (by omega)).2
  omega
theorem sNext {t : Turns} (ht : TL t) : spec_NextTurn t = some (nextF t) := by
  unfold spec_NextTurn nextF
  rw [sGoodT t (fun q hq => by have := ht.l5 q hq; omega), Option.bind_some]
  cases hg : goodTB t
  · rfl
  have hG := goodTB_iff.1 hg
  have hT := (turn_tl hG).1
  simp only [Bool.not_true, cond_false, sOwn ht, sTurn hG, Option.bind_some, if_true]
  rw [sGoodT _ (fun q hq => by have := hT.l5 q hq; omega), Option.bind_some, turn_good hG]
  by_cases hs : (srvT t).s ≤ 1000000
  · rw [dec_t hs, if_pos hs, sOwn hT]; rfl
  · rw [dec_f hs, if_neg hs]; rfl
theorem noT_ok : TL noT ∧ sumLen noT.Queues ≤ 500000000 := ⟨⟨by simp [noT], by simp [noT], by simp [noT], by simp [noT], by simp [noT]⟩, by simp [noT, sumLen]⟩
def runF : Nat → Turns → Turns × Bool
  | 0, t => (t, true)
  | n + 1, t => if (srvT t).s ≤ 1000000 then runF n (turnF t) else (noT, false)
theorem turns_eta (t : Turns) : (⟨t.Quanta, t.Queues, t.Credit, t.Sent, t.At⟩ : Turns) = t := rfl
def outR (y : LR ((List Int) × (List (List Int)) × (List Int) × (List Int) × Int) (Turns × Bool)) : Turns × Bool := match y with
  | .next (a, b, c, d, e) => (⟨a, b, c, d, e⟩, true)
  | .done z => z
theorem iRunGo (a1 : Int) : ∀ (n : Nat) (t : Turns) (i : Int), GT t → 0 ≤ i → a1 = i + n → a1 ≤ 60 → ∃ y, whl (impl_RunTurns_l0 a1) (i, t.Quanta, t.Queues, t.Credit, t.Sent, t.At) = some y ∧ outR y = runF n t
  | 0, t, i, h, h0, h1, h2 => by
    rw [whl_eq]
    simp only [impl_RunTurns_l0]
    rw [dec_f (by omega)]
    exact ⟨_, rfl, rfl⟩
  | n + 1, t, i, h, h0, h1, h2 => by
    rw [whl_eq]
    simp only [impl_RunTurns_l0]
    rw [dec_t (by omega)]
    simp only [cond_true, turns_eta, iTurn h, Option.bind_some, runF]
    by_cases hs : (srvT t).s ≤ 1000000
    · rw [dec_t hs, if_pos hs, w64 (by omega)]
      have hg : GT (turnF t) := goodTB_iff.1 (by rw [turn_good h, dec_t hs])
      exact iRunGo a1 n (turnF t) (i + 1) hg (by omega) (by omega) h2
    · rw [dec_f hs, if_neg hs]
      exact ⟨_, rfl, rfl⟩
theorem sRunGo : ∀ (n : Nat) (t : Turns), GT t → n ≤ 60 → ∃ y, whl spec_RunTurns_l0 ((n : Int), t.Quanta, t.Queues, t.Credit, t.Sent, t.At) = some y ∧ outR y = runF n t
  | 0, t, h, h2 => by
    rw [whl_eq]
    simp only [spec_RunTurns_l0]
    rw [dec_f (by omega)]
    exact ⟨_, rfl, rfl⟩
  | n + 1, t, h, h2 => by
    rw [whl_eq]
    simp only [spec_RunTurns_l0]
    rw [dec_t (by omega)]
    have hg' : goodTB t = true := goodTB_iff.2 h
    simp only [cond_true, turns_eta, sNext h.tl, Option.bind_some, runF, nextF, hg', if_true]
    by_cases hs : (srvT t).s ≤ 1000000
    · simp only [if_pos hs, Bool.not_true, cond_false]
      rw [w64 (by omega), show ((n + 1 : Nat) : Int) - 1 = (n : Int) by omega]
      have hg : GT (turnF t) := goodTB_iff.1 (by rw [turn_good h, dec_t hs])
      exact sRunGo n (turnF t) hg (by omega)
    · simp only [if_neg hs, Bool.not_false, cond_true]
      exact ⟨_, rfl, rfl⟩
def runTF (t : Turns) (n : Int) : Turns × Bool := if goodTB t && inB n 0 60 then runF n.toNat t else (noT, false)
theorem iRun {t : Turns} (ht : TL t) (n : Int) : impl_RunTurns t n = some (runTF t n) := by
  unfold impl_RunTurns runTF
  rw [iGoodT t (by have := ht.l1; omega) (fun q hq => by have := ht.l5 q hq; omega), Option.bind_some]
  cases hg : goodTB t
  · rfl
  have hG := goodTB_iff.1 hg
  simp only [Bool.not_true, cond_false, iIn, Option.bind_some, Bool.true_and]
  cases hn : inB n 0 60
  · rfl
  have hn' := inB_iff.1 hn
  simp only [Bool.not_true, cond_false, iCopy ht, Option.bind_some, if_true]
  obtain ⟨y, e1, e2⟩ := iRunGo n n.toNat t 0 hG (by omega) (by omega) (by omega)
  rw [e1, Option.bind_some, ← e2]
  rcases y with ⟨a, b, c, d, e⟩ | z <;> rfl
theorem sRun {t : Turns} (ht : TL t) (n : Int) : spec_RunTurns t n = some (runTF t n) := by
  unfold spec_RunTurns runTF
  rw [sGoodT t (fun q hq => by have := ht.l5 q hq; omega), Option.bind_some]
  cases hg : goodTB t
  · rfl
  have hG := goodTB_iff.1 hg
  simp only [Bool.not_true, cond_false, sIn, Option.bind_some, Bool.true_and]
  cases hn : inB n 0 60
  · rfl
  have hn' := inB_iff.1 hn
  simp only [Bool.not_true, cond_false, sOwn ht, Option.bind_some, if_true]
  obtain ⟨y, e1, e2⟩ := sRunGo n.toNat t hG (by omega)
  rw [Int.toNat_of_nonneg hn'.1] at e1
  rw [e1, Option.bind_some, ← e2]
  rcases y with ⟨a, b, c, d, e⟩ | z <;> rfl
theorem GT.tls {t : Turns} (h : GT t) : TL t ∧ sumLen t.Queues ≤ 500000000 := by
  refine ⟨h.tl, ?_⟩
  have hl := (quB_iff.1 h.qu).1
  have l1 := h.l1; have l2 := h.l2; have l3 := h.l3
  have := (sumLen_in (B := 31) t.Queues (fun q hq' => by
    obtain ⟨k, hk⟩ := List.mem_iff_getElem?.1 hq'
    have hlt := (List.getElem?_eq_some_iff.1 hk).1
    have := (rowB_iff.1 (h.row k q _ _ hk (List.getElem?_eq_getElem (show k < t.Credit.length by omega)) (List.getElem?_eq_getElem (show k < t.Sent.length by omega)))).1
    omega) (by omega)).2
  omega
theorem runF_ok : ∀ (n : Nat) (t : Turns), GT t → TL (runF n t).1 ∧ sumLen (runF n t).1.Queues ≤ 500000000
  | 0, t, h => h.tls
  | n + 1, t, h => by
    unfold runF
    split
    · rename_i hs
      exact runF_ok n (turnF t) (goodTB_iff.1 (by rw [turn_good h, dec_t hs]))
    · exact noT_ok
theorem runTF_ok (t : Turns) (n : Int) : TL (runTF t n).1 ∧ sumLen (runTF t n).1.Queues ≤ 500000000 := by
  unfold runTF
  split
  · rename_i h
    simp only [Bool.and_eq_true] at h
    exact runF_ok _ t (goodTB_iff.1 h.1)
  · exact noT_ok
theorem pureRun (t : Turns) (n : Int) (h1 : t.Quanta.length < 2 ^ 47) (h2 : t.Queues.length < 2 ^ 47) (h3 : t.Credit.length < 2 ^ 47) (h4 : t.Sent.length < 2 ^ 47) (h5 : ∀ q ∈ t.Queues, q.length < 2 ^ 47) : laws_FnExactRunTurns t n = some true := by
  obtain ⟨z, e1, e2⟩ := szTurns h1 h2 h3 h4 h5
  unfold laws_FnExactRunTurns
  rw [e1, Option.bind_some]
  by_cases hz : z < 0
  · rw [dec_t hz]; rfl
  rw [dec_f hz]
  obtain ⟨hT, hs⟩ := e2 (by omega)
  obtain ⟨p1, p2⟩ := runTF_ok t n
  obtain ⟨m, a, b, c, d, m1, m2, m3⟩ := markT hT (by omega)
  obtain ⟨m', a', b', c', d', m1', m2', m3'⟩ := markT p1 p2
  simp only [cond_false, toTurns hT, sRun hT, iRun hT, eqTurns hT, eqTurns p1, m1, m1', m3', Option.bind_some, Bool.not_true, beq_self_eq_true, bne_self_eq_false]
  rw [dec_f (show ¬ m < 0 by omega), dec_f (show ¬ m' < 0 by omega)]
  rfl
end Go.VxW
