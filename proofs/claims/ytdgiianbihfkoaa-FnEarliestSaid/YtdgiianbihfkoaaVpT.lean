/-
  FnTexts: lists of numbers and texts as bytes, and back; the law.
-/
import Derived.Test.YtdgiianbihfkoaaVpP
import Derived.Test.YtdgiianbihfkoaaVpR
open Go Go.VS
namespace Go.VxW

def encL (l : List Int) : List UInt8 := l.flatMap fun x => putN x.toNat
def numB (x : Int) : Bool := inB x 0 1152921504606846975
def putLF (l : List Int) : List UInt8 × Bool := if 60 < l.length ∨ l.all numB = false then ([], false) else (encL l, true)
theorem put_le (n : Nat) : 1 ≤ (putN n).length ∧ (putN n).length ≤ 8 := by rw [put_len]; exact (sizeN_is n).le
theorem encL_len (l : List Int) : (encL l).length ≤ 8 * l.length := by
  induction l with
  | nil => simp [encL]
  | cons x xs ih =>
    have := (put_le x.toNat).2
    simp only [encL, List.flatMap_cons, List.length_append, List.length_cons] at ih ⊢
    omega
theorem iNumP {n : Int} (h : numB n = true) : impl_number n = some (putN n.toNat) := by
  obtain ⟨m, rfl, hm⟩ := inB_nat h
  simp only [impl_number, iSz, Option.bind_some]
  rw [iWide (sizeN_is m) (by omega)]; rfl
theorem sNumP {n : Int} (h : numB n = true) : spec_l1Put n = some (putN n.toNat) := by
  obtain ⟨m, rfl, hm⟩ := inB_nat h
  simp only [spec_l1Put, sSz, Option.bind_some]
  rw [sWide (sizeN_is m) (by omega)]; rfl
theorem lgo_enc {ρ : Type} {g : Nat → Int → List UInt8 → LR (List UInt8) ρ} {fin : List UInt8 → ρ} (r : ρ) (hg : ∀ k x s, g k x s = if numB x then .next (s ++ putN x.toNat) else .done r) (l : List Int) (k : Nat) (s : List UInt8) :
    lgo g fin k l s = if l.all numB then fin (s ++ encL l) else r := by
  induction l generalizing k s with
  | nil => simp [lgo, encL]
  | cons x xs ih =>
    simp only [lgo, hg]
    cases hx : numB x
    · simp [hx]
    · simp only [if_true, List.all_cons, hx, Bool.true_and]
      rw [ih]
      simp [encL, List.append_assoc]
theorem iPutL {l : List Int} (hl : l.length ≤ 1048576) : impl_PutList l = some (putLF l) := by
  unfold impl_PutList putLF
  by_cases h60 : 60 < l.length
  · rw [dec_t (by omega), if_pos (.inl h60)]; rfl
  rw [dec_f (by omega), cond_false]
  rw [whl_lgo l (impl_PutList_l0 l) (fun k (s : List UInt8) => (s, k)) (fun _ x s => if numB x then .next (s ++ putN x.toNat) else .done (.done ([], false))) (fun s => .next s) (fun k s => s.length ≤ 8 * k) (fun k hk s hs => by
    simp only [impl_PutList_l0]
    rw [dec_t (by omega), idx_lt hk]
    simp only [cond_true, Option.bind_some, iNum]
    have h8 := (put_le (l[k]).toNat).2
    cases hx : numB l[k]
    · unfold numB at hx
      simp [hx, LR.mapN]
    · have hx' := hx
      unfold numB at hx'
      simp only [hx', Bool.not_true, cond_false, if_true, iNumP hx, Option.bind_some]
      rw [cat_in (by omega), w64 (by omega)]
      refine ⟨rfl, fun s' hs' => ?_⟩
      simp only [LR.next.injEq] at hs'
      subst hs'
      simp only [List.length_append]; omega) (fun s _ => by simp [impl_PutList_l0]) [] (by simp), lgo_enc _ (fun _ _ _ => rfl)]
  cases h : l.all numB <;> simp [h60]
theorem sPutL {l : List Int} (hl : l.length ≤ 1048576) : spec_PutList l = some (putLF l) := by
  unfold spec_PutList putLF
  by_cases h60 : 60 < l.length
  · rw [dec_t (by omega), if_pos (.inl h60)]; rfl
  rw [dec_f (by omega), cond_false, sAll hl]
  have e : l.all (inB · 0 1152921504606846975) = l.all numB := rfl
  rw [e]
  cases h : l.all numB
  · simp
  simp only [Option.bind_some, Bool.not_true, cond_false]
  rw [whl_lgo l (spec_PutList_l0 l) (fun k (s : List UInt8) => (s, k)) (fun _ x s => .next (s ++ putN x.toNat)) (fun s => s) (fun k s => s.length ≤ 8 * k) (fun k hk s hs => by
    simp only [spec_PutList_l0]
    rw [dec_t (by omega), idx_lt hk]
    have h8 := (put_le (l[k]).toNat).2
    have hx : numB l[k] = true := List.all_eq_true.1 h _ (List.getElem_mem hk)
    simp only [cond_true, Option.bind_some, sNumP hx]
    rw [cat_in (by omega), w64 (by omega)]
    refine ⟨rfl, fun s' hs' => ?_⟩
    simp only [LR.next.injEq] at hs'
    subst hs'
    simp only [List.length_append]; omega) (fun s _ => by simp [spec_PutList_l0]) [] (by simp), lgo_fold (fun (s : List UInt8) (x : Int) => s ++ putN x.toNat) (fun _ _ _ => rfl)]
  have hf : ∀ (l : List Int) (s : List UInt8), l.foldl (fun s x => s ++ putN x.toNat) s = s ++ encL l := by
    intro l
    induction l with
    | nil => simp [encL]
    | cons x xs ih => intro s; simp [ih, encL, List.append_assoc]
  rw [hf]
  simp [h60]

/-- The numbers that a text holds from a place on. -/
def getL : Nat → List UInt8 → Nat → Option (List Int)
  | 0, _, _ => some []
  | f + 1, s, k => if s.length ≤ k then some [] else match getN s k with
    | none => none
    | some (n, e) => (getL f s e).map fun l => (n : Int) :: l
theorem getN_le {s : List UInt8} {k n e : Nat} (h : getN s k = some (n, e)) : n ≤ 1152921504606846975 ∧ k < e ∧ e ≤ s.length := by
  obtain ⟨h1, h2, h3, _⟩ := put_get h
  have := (sizeN_is n).le
  omega
def getLF (s : List UInt8) : List Int × Bool := if 600 < s.length then ([], false) else match getL s.length s 0 with
  | none => ([], false)
  | some l => if l.length ≤ 60 then (l, true) else ([], false)
theorem iGetL_go {s : List UInt8} (hs : s.length ≤ 600) : ∀ (f k : Nat) (acc : List Int), s.length - k ≤ f → k ≤ s.length → acc.length ≤ 60 →
    whl (impl_GetList_l0 s) (acc, (k : Int)) = some (match getL f s k with | none => .done ([], false) | some l => if acc.length + l.length ≤ 60 then .next (acc ++ l) else .done ([], false)) := by
  intro f
  induction f with
  | zero =>
    intro k acc h1 h2 h3
    rw [whl_eq]
    simp only [impl_GetList_l0]
    rw [dec_f (by omega)]
    simp [getL, h3]
  | succ f ih =>
    intro k acc h1 h2 h3
    rw [whl_eq]
    simp only [impl_GetList_l0, getL]
    by_cases hk : s.length ≤ k
    · rw [dec_f (by omega), if_pos hk]; simp [h3]
    · rw [dec_t (by omega), if_neg hk, cond_true, iGet (by omega)]
      simp only [Option.bind_some, getF, Int.natCast_nonneg, if_true, Int.toNat_natCast]
      cases hg : getN s k with
      | none => rfl
      | some p =>
        obtain ⟨n, e⟩ := p
        obtain ⟨g1, g2, g3⟩ := getN_le hg
        simp only [Bool.not_true, cond_false]
        by_cases h60 : acc.length = 60
        · rw [show ((acc.length : Int) == 60) = true by simp [h60]]
          simp only [Option.bind_some, cond_true, Option.some.injEq]
          cases getL f s e with
          | none => rfl
          | some l => simp only [Option.map_some, List.length_cons]; rw [if_neg (by omega)]
        · rw [show ((acc.length : Int) == 60) = false by simp <;> omega]
          simp only [Option.bind_some, cond_false]
          rw [app_in (by simp <;> omega) (by omega)]
          simp only [Option.bind_some]
          rw [ih e (acc ++ [(n : Int)]) (by omega) g3 (by simp <;> omega)]
          cases getL f s e with
          | none => rfl
          | some l =>
            simp only [Option.map_some, List.length_cons, List.length_append, List.length_nil, List.append_assoc, List.singleton_append]
            rw [show acc.length + (0 + 1) + l.length = acc.length + (l.length + 1) by omega]
theorem iGetL (s : List UInt8) (hs : s.length ≤ 1000000) : impl_GetList s = some (getLF s) := by
  unfold impl_GetList getLF
  by_cases h : 600 < s.length
  · rw [dec_t (by omega), if_pos h]; rfl
  rw [dec_f (by omega), if_neg h, cond_false]
  have := iGetL_go (s := s) (by omega) s.length 0 [] (by omega) (by omega) (by simp)
  rw [show ((0 : Nat) : Int) = 0 from rfl] at this
  rw [this]
  cases getL s.length s 0 with
  | none => rfl
  | some l =>
    simp only [List.length_nil, Nat.zero_add, List.nil_append]
    by_cases h6 : l.length ≤ 60 <;> simp [h6]
theorem sGetL_go {s : List UInt8} (hs : s.length ≤ 600) : ∀ (f k : Nat) (acc : List Int), s.length - k ≤ f → k ≤ s.length → acc.length ≤ k →
    whl (spec_l1List_l0 s) (acc, (k : Int)) = some (match getL f s k with | none => .done ([], false) | some l => .next (acc ++ l)) := by
  intro f
  induction f with
  | zero =>
    intro k acc h1 h2 h3
    rw [whl_eq]
    simp only [spec_l1List_l0]
    rw [dec_f (by omega)]
    simp [getL]
  | succ f ih =>
    intro k acc h1 h2 h3
    rw [whl_eq]
    simp only [spec_l1List_l0, getL]
    by_cases hk : s.length ≤ k
    · rw [dec_f (by omega), if_pos hk]; simp
    · rw [dec_t (by omega), if_neg hk, cond_true, sGet0 (by omega)]
      simp only [Option.bind_some]
      cases hg : getN s k with
      | none => rfl
      | some p =>
        obtain ⟨n, e⟩ := p
        obtain ⟨g1, g2, g3⟩ := getN_le hg
        simp only
        rw [dec_f (by omega), cond_false, app_in (by simp <;> omega) (by omega)]
        simp only [Option.bind_some]
        rw [ih e (acc ++ [(n : Int)]) (by omega) g3 (by simp <;> omega)]
        cases getL f s e with
        | none => rfl
        | some l => simp
theorem getL_len {s : List UInt8} : ∀ (f k : Nat) (l : List Int), getL f s k = some l → l.length ≤ f := by
  intro f
  induction f with
  | zero => intro k l h; simp [getL] at h; simp [← h]
  | succ f ih =>
    intro k l h
    simp only [getL] at h
    split at h
    · simp only [Option.some.injEq] at h; subst h; simp
    · split at h
      · simp at h
      · rename_i n e _
        cases hg : getL f s e with
        | none => simp [hg] at h
        | some m => have := ih e m hg; simp [hg] at h; simp [← h]; omega
theorem sGetL (s : List UInt8) (hs : s.length ≤ 1000000) : spec_GetList s = some (getLF s) := by
  unfold spec_GetList getLF spec_l1List
  by_cases h : 600 < s.length
  · rw [dec_t (by omega), if_pos h]; rfl
  rw [dec_f (by omega), if_neg h, cond_false]
  have := sGetL_go (s := s) (by omega) s.length 0 [] (by omega) (by omega) (by simp)
  rw [show ((0 : Nat) : Int) = 0 from rfl] at this
  rw [this]
  cases hg : getL s.length s 0 with
  | none => rfl
  | some l =>
    have := getL_len _ _ _ hg
    simp only [Option.bind_some, List.nil_append, Bool.not_true, cond_false]
    by_cases h6 : l.length ≤ 60
    · rw [dec_f (by omega), if_pos h6]; rfl
    · rw [dec_t (by omega), if_neg h6]; rfl
theorem getN_drop (s : List UInt8) (k : Nat) : getN s k = (getN (s.drop k) 0).map fun p => (p.1, k + p.2) := by
  unfold getN
  simp only [List.drop_zero, Nat.zero_add]
  cases s.drop k with
  | nil => rfl
  | cons b bs =>
    simp only
    split
    · rfl
    · split <;> rfl
/-- What was written is read so. -/
theorem get_enc {s : List UInt8} : ∀ (l : List Int) (f k : Nat), l.all numB = true → s.drop k = encL l → s.length - k ≤ f → getL f s k = some l := by
  intro l
  induction l with
  | nil =>
    intro f k _ h _
    have : s.length ≤ k := by simpa [encL] using h
    cases f with
    | zero => rfl
    | succ f => simp [getL, this]
  | cons x xs ih =>
    intro f k ha h hf
    simp only [List.all_cons, Bool.and_eq_true] at ha
    obtain ⟨n, rfl, hn⟩ := inB_nat ha.1
    have h' : s.drop k = putN n ++ encL xs := by simpa [encL] using h
    have hp := put_le n
    have hlen : s.length - k = (putN n).length + (encL xs).length := by
      have := congrArg List.length h'
      simpa using this
    cases f with
    | zero => omega
    | succ f =>
      simp only [getL]
      rw [if_neg (by omega), getN_drop, h', get_put hn]
      simp only [Option.map_some]
      rw [ih f (k + sizeN n) ha.2 (by rw [← List.drop_drop, h', ← put_len, List.drop_left]) (by rw [put_len] at hlen hp; omega)]
      rfl
/-- What was read is written so. -/
theorem enc_get {s : List UInt8} : ∀ (f k : Nat) (l : List Int), k ≤ s.length → s.length - k ≤ f → getL f s k = some l → l.all numB = true ∧ encL l = s.drop k := by
  intro f
  induction f with
  | zero =>
    intro k l h1 h2 h
    simp only [getL, Option.some.injEq] at h
    subst h
    refine ⟨rfl, ?_⟩
    rw [List.drop_eq_nil_of_le (by omega)]; rfl
  | succ f ih =>
    intro k l h1 h2 h
    simp only [getL] at h
    split at h
    · simp only [Option.some.injEq] at h
      subst h
      refine ⟨rfl, ?_⟩
      rw [List.drop_eq_nil_of_le (by omega)]; rfl
    · cases hg : getN s k with
      | none => rw [hg] at h; simp at h
      | some p =>
        obtain ⟨n, e⟩ := p
        rw [hg] at h
        simp only at h
        obtain ⟨g1, g2, g3⟩ := getN_le hg
        obtain ⟨_, _, _, q4⟩ := put_get hg
        cases hr : getL f s e with
        | none => rw [hr] at h; simp at h
        | some m =>
          rw [hr] at h
          simp only [Option.map_some, Option.some.injEq] at h
          subst h
          obtain ⟨i1, i2⟩ := ih e m g3 (by omega) hr
          refine ⟨?_, ?_⟩
          · simp only [List.all_cons, i1, Bool.and_true]
            exact inB_iff.2 ⟨by omega, by omega⟩
          · have : encL ((n : Int) :: m) = putN n ++ encL m := by simp [encL]
            rw [this, q4, i2]
            have e2 := List.take_append_drop (e - k) (s.drop k)
            rw [List.drop_drop, show k + (e - k) = e by omega] at e2
            exact e2
theorem getL_putL {l : List Int} (h : (putLF l).2 = true) (h6 : (putLF l).1.length ≤ 600) : getLF (putLF l).1 = (l, true) := by
  unfold putLF at h h6 ⊢
  split at h
  · simp at h
  · rename_i hc
    rw [if_neg hc] at h6 ⊢
    simp only [not_or, Bool.not_eq_false] at hc
    dsimp only at h6 ⊢
    unfold getLF
    rw [if_neg (by omega), get_enc l _ 0 hc.2 (by simp) (by omega)]
    simp only
    rw [if_pos (by omega)]
theorem putL_getL {s : List UInt8} (h : (getLF s).2 = true) : putLF (getLF s).1 = (s, true) := by
  unfold getLF at h ⊢
  split
  · rename_i hc; rw [if_pos hc] at h; simp at h
  · rename_i hc
    rw [if_neg hc] at h
    cases hg : getL s.length s 0 with
    | none => rw [hg] at h; simp at h
    | some l =>
      rw [hg] at h
      simp only at h ⊢
      split at h
      · rename_i h6
        rw [if_pos h6]
        obtain ⟨i1, i2⟩ := enc_get _ _ _ (by omega) (by omega) hg
        unfold putLF
        dsimp only
        rw [if_neg (by rw [i1]; simp; omega), i2]; rfl
      · simp at h
theorem sameI {l : List Int} (hl : l.length ≤ 1048576) : laws_sameInts l l = some true := by
  unfold laws_sameInts
  rw [eqS_go (l := l) (fun k hk => by
    simp only [laws_sameInts_l0]
    rw [dec_t (by omega), idx_lt hk, w64 (by omega)]
    simp) (by simp [laws_sameInts_l0])]
  simp

/-! texts -/
def putTF (u : List UInt8) : List UInt8 × Bool := if 200 < u.length then ([], false) else (putN u.length ++ u, true)
theorem iPutT {u : List UInt8} (hu : u.length ≤ 1000000) : impl_PutText u = some (putTF u) := by
  unfold impl_PutText putTF
  by_cases h : 200 < u.length
  · rw [dec_t (by omega), if_pos h]; rfl
  rw [dec_f (by omega), if_neg h, cond_false, iNumP (inB_iff.2 ⟨by omega, by omega⟩), Option.bind_some]
  have := (put_le u.length).2
  rw [cat_in (by simp only [Int.toNat_natCast]; omega)]; rfl
theorem sPutT {u : List UInt8} (hu : u.length ≤ 1000000) : spec_PutText u = some (putTF u) := by
  unfold spec_PutText putTF
  by_cases h : 200 < u.length
  · rw [dec_t (by omega), if_pos h]; rfl
  rw [dec_f (by omega), if_neg h, cond_false, sNumP (inB_iff.2 ⟨by omega, by omega⟩), Option.bind_some]
  have := (put_le u.length).2
  rw [cat_in (by simp only [Int.toNat_natCast]; omega)]; rfl
def getTF (s : List UInt8) (i : Int) : List UInt8 × Int × Bool := if 0 ≤ i then (match getN s i.toNat with
  | some (n, e) => if n ≤ 200 ∧ e + n ≤ s.length then ((s.drop e).take n, ((e + n : Nat) : Int), true) else ([], 0, false)
  | none => ([], 0, false)) else ([], 0, false)
theorem iGetT {s : List UInt8} (hs : s.length ≤ 1000000) (i : Int) : impl_GetText s i = some (getTF s i) := by
  unfold impl_GetText getTF
  rw [iGet (by omega)]
  unfold getF
  by_cases h0 : 0 ≤ i
  · rw [if_pos h0, if_pos h0]
    cases hg : getN s i.toNat with
    | none => rfl
    | some p =>
      obtain ⟨n, e⟩ := p
      obtain ⟨g1, g2, g3⟩ := getN_le hg
      simp only [Option.bind_some, Bool.not_true, cond_false]
      rw [w64 (by omega)]
      by_cases hn : n ≤ 200
      · rw [dec_f (p := (200 : Int) < (n : Int)) (by omega), cond_false]
        by_cases he : e + n ≤ s.length
        · rw [dec_f (by omega), if_pos ⟨hn, he⟩]
          simp only [Option.bind_some, cond_false]
          rw [slc_in (by omega) (by omega) (by omega)]
          simp only [Option.bind_some, Int.toNat_natCast, Option.some.injEq, Prod.mk.injEq, and_true]
          exact ⟨by rw [show ((e : Int) + (n : Int)).toNat - e = n by omega], by omega⟩
        · rw [dec_t (by omega), if_neg (by omega)]; rfl
      · rw [dec_t (p := (200 : Int) < (n : Int)) (by omega), if_neg (by omega)]; rfl
  · rw [if_neg h0, if_neg h0]; rfl
theorem sGetT {s : List UInt8} (hs : s.length ≤ 1000000) (i : Int) : spec_GetText s i = some (getTF s i) := by
  unfold spec_GetText getTF
  by_cases h0 : 0 ≤ i
  · obtain ⟨k, rfl⟩ := Int.eq_ofNat_of_zero_le h0
    rw [if_pos h0, dec_f (by omega), cond_false, Int.toNat_natCast]
    by_cases hk : s.length ≤ k
    · rw [dec_t (by omega)]
      have : getN s k = none := by unfold getN; rw [List.drop_eq_nil_of_le (by omega)]
      rw [this]; rfl
    · rw [dec_f (by omega)]
      simp only [Option.bind_some, cond_false]
      rw [sGet0 (by omega)]
      cases hg : getN s k with
      | none => rfl
      | some p =>
        obtain ⟨n, e⟩ := p
        obtain ⟨g1, g2, g3⟩ := getN_le hg
        simp only [Option.bind_some]
        rw [dec_f (p := (e : Int) < 0) (by omega), cond_false, w64 (x := (s.length : Int) - (e : Int)) (by omega)]
        by_cases hn : n ≤ 200
        · rw [dec_f (p := (200 : Int) < (n : Int)) (by omega), cond_false]
          by_cases he : e + n ≤ s.length
          · rw [dec_f (by omega), if_pos ⟨hn, he⟩]
            simp only [Option.bind_some, cond_false]
            rw [w64 (by omega), slc_in (by omega) (by omega) (by omega)]
            simp only [Option.bind_some, Int.toNat_natCast, Option.some.injEq, Prod.mk.injEq, and_true]
            exact ⟨by rw [show ((e : Int) + (n : Int)).toNat - e = n by omega], by omega⟩
          · rw [dec_t (by omega), if_neg (by omega)]; rfl
        · rw [dec_t (p := (200 : Int) < (n : Int)) (by omega), if_neg (by omega)]; rfl
  · rw [if_neg h0, dec_t (by omega)]; rfl
theorem getT_putT {u t : List UInt8} (h : (putTF u).2 = true) : getTF ((putTF u).1 ++ t) 0 = (u, ((putTF u).1.length : Int), true) := by
  unfold putTF at h ⊢
  split at h
  · simp at h
  · rename_i hc
    rw [if_neg hc]
    unfold getTF
    dsimp only
    rw [if_pos (by omega), List.append_assoc, Int.toNat_zero, get_put (by omega)]
    simp only [List.length_append, put_len]
    rw [if_pos ⟨by omega, by omega⟩]
    rw [← put_len (n := u.length), List.drop_left, List.take_left]

/-! what is drawn -/
theorem of_t {c : L1Cur} {b : Int} {l : List (List UInt8)} (h : Cur c b) (hb : b ≤ 4000000000000000000) (hl : 1 ≤ l.length) (hm : l.length < 1000000) : Tot (spec_l1Cur_of c l) fun r => r.1 ∈ l ∧ Cur r.2 (b + 2) := by
  unfold spec_l1Cur_of
  refine Tot.then (pick_t (by assumption) (by omega)) ?_
  rintro ⟨k, c_k⟩ ⟨k_0, k_1, k_c⟩
  dsimp only at k_0 k_1 k_c ⊢
  have := k_1 (by omega)
  rw [idx_in k_0 (by omega)]
  exact .ret ⟨List.getElem_mem _, k_c⟩
theorem drawPutL {l : List Int} (hl : l.length ≤ 1048576) (hb : ∀ x ∈ l, 0 ≤ x ∧ x ≤ 255) : Tot (spec_DrawPutList l) fun r => r.length ≤ 61 := by
  unfold spec_DrawPutList
  have h := cur0 hl hb
  refine Tot.then (numbers_t (by assumption) (by omega)) ?_
  rintro ⟨n, c_n⟩ ⟨n_p, n_c⟩
  dsimp only at n_p n_c ⊢
  exact .ret n_p.1
theorem drawGetL {l : List Int} (hl : l.length ≤ 1048576) (hb : ∀ x ∈ l, 0 ≤ x ∧ x ≤ 255) : Tot (spec_DrawGetList l) fun r => r.length ≤ 1000 := by
  unfold spec_DrawGetList
  have h := cur0 hl hb
  refine Tot.then (numberText_t (by assumption) (by omega)) ?_
  rintro ⟨n, c_n⟩ ⟨n_p, n_c⟩
  dsimp only at n_p n_c ⊢
  exact .ret n_p
theorem drawPutT {l : List Int} (hl : l.length ≤ 1048576) (hb : ∀ x ∈ l, 0 ≤ x ∧ x ≤ 255) : Tot (spec_DrawPutText l) fun r => r.length ≤ 300 := by
  unfold spec_DrawPutText
  have h := cur0 hl hb
  refine Tot.then (one_t (by assumption) (by omega)) ?_
  rintro ⟨x, c_x⟩ x_c
  dsimp only at x_c ⊢
  refine Tot.cnd (fun hc => ?_) (fun hc => ?_)
  · refine Tot.then (among_t (by assumption) (by omega) (by simp)) ?_
    rintro ⟨n, c_n⟩ ⟨n_m, n_c⟩
    dsimp only at n_m n_c ⊢
    have hn : 0 ≤ n ∧ n ≤ 201 := by simp at n_m; omega
    rw [mkL_in (by omega) (by omega) (by omega), Option.bind_some]
    exact .ret (by simp [toStr]; omega)
  · refine Tot.then (of_t (by assumption) (by omega) (by simp) (by simp)) ?_
    rintro ⟨u, c⟩ ⟨h1, _⟩
    refine .ret ?_
    simp only [List.mem_cons, List.not_mem_nil, or_false] at h1
    rcases h1 with rfl | rfl | rfl | rfl <;> simp
theorem putTF_len (u : List UInt8) : (putTF u).1.length ≤ 208 := by
  unfold putTF
  split
  · simp
  · have := (put_le u.length).2
    simp only [List.length_append]; omega
theorem drawGetT {l : List Int} (hl : l.length ≤ 1048576) (hb : ∀ x ∈ l, 0 ≤ x ∧ x ≤ 255) : Tot (spec_DrawGetText l) fun r => r.1.length ≤ 1000 := by
  unfold spec_DrawGetText
  refine Tot.then (drawPutT hl hb) ?_
  intro u hu
  rw [sPutT (by omega), sPutT (by simp)]
  have h1 := putTF_len u
  have h2 := putTF_len [109, 111, 114, 101]
  simp only [Option.bind_some]
  rw [cat_in (by omega), Option.bind_some]
  have h := cur0 hl hb
  refine Tot.then (one_t (by assumption) (by omega)) ?_
  rintro ⟨x, c_x⟩ x_c
  dsimp only at x_c ⊢
  refine Tot.then (P := fun r => r.1.length ≤ 1000 ∧ Cur ⟨r.2.1, r.2.2.1, r.2.2.2⟩ 200) ?_ ?_
  · refine Tot.cnd (fun hc => ?_) (fun hc => ?_)
    · refine Tot.then (spoilt_t (by assumption) (by omega) (by simp) (by rw [List.length_append]; omega)) ?_
      rintro ⟨t, d⟩ ⟨g1, g2⟩
      dsimp only at g1
      rw [List.length_append] at g1
      exact .ret ⟨(by first | omega | (dsimp only; omega)), g2.mono (by omega)⟩
    · exact .ret ⟨by dsimp only; rw [List.length_append]; omega, x_c.mono (by omega)⟩
  · rintro ⟨t, co, a, se⟩ ⟨g1, g2⟩
    dsimp only at g1 g2 ⊢
    refine Tot.then (among_t (by assumption) (by omega) (by simp)) ?_
    rintro ⟨n, c_n⟩ ⟨n_m, n_c⟩
    dsimp only at n_m n_c ⊢
    exact .ret g1
theorem putLF_len (l : List Int) : (putLF l).1.length ≤ 480 := by
  unfold putLF
  split
  · simp
  · have := encL_len l
    dsimp only; omega
theorem getLF_len (s : List UInt8) : (getLF s).1.length ≤ 60 := by
  unfold getLF
  split
  · simp
  · split
    · simp
    · split
      · assumption
      · simp
theorem pureTexts (a b : List Int) (ha : a.length < 2 ^ 47) (hb : b.length < 2 ^ 47) (ka : ∀ x ∈ a, 0 ≤ x ∧ x ≤ 255) (kb : ∀ x ∈ b, 0 ≤ x ∧ x ≤ 255) : laws_FnTexts a b = some true := by
  unfold laws_FnTexts
  rw [w64 (by omega)]
  by_cases h : (1048576 : Int) < (a.length : Int) + (b.length : Int)
  · rw [show decide ((1048576 : Int) < (a.length : Int) + (b.length : Int)) = true by simpa using h]; rfl
  rw [show decide ((1048576 : Int) < (a.length : Int) + (b.length : Int)) = false by simpa using h]
  simp only [cond_false]
  obtain ⟨l, e1, n1⟩ := drawPutL (l := a) (by omega) ka
  obtain ⟨t, e2, n2⟩ := drawGetL (l := b) (by omega) kb
  obtain ⟨u, e3, n3⟩ := drawPutT (l := a) (by omega) ka
  obtain ⟨⟨v, at_⟩, e4, n4⟩ := drawGetT (l := b) (by omega) kb
  dsimp only at n4
  have p1 := putLF_len l
  have p2 := getLF_len t
  have p3 := putTF_len u
  simp only [e1, e2, e3, e4, Option.bind_some]
  rw [iPutL (l := l) (by omega), sPutL (l := l) (by omega)]
  simp only [Option.bind_some, beq_self_eq_true, Bool.not_true, cond_false]
  rw [iGetL (putLF l).1 (by omega)]
  simp only [Option.bind_some]
  rw [iGetL t (by omega), sGetL t (by omega)]
  simp only [Option.bind_some, beq_self_eq_true, Bool.not_true, cond_false]
  rw [sameI (l := (getLF t).1) (by omega)]
  simp only [Option.bind_some, Bool.not_true, cond_false]
  rw [iPutL (l := (getLF t).1) (by omega), iPutT (by omega), sPutT (by omega)]
  simp only [Option.bind_some, beq_self_eq_true, Bool.not_true, cond_false]
  rw [cat_in (by omega)]
  simp only [Option.bind_some]
  rw [iGetT (s := (putTF u).1 ++ t) (by rw [List.length_append]; omega), iGetT (s := v) (by omega), sGetT (s := v) (by omega)]
  simp only [Option.bind_some, beq_self_eq_true, cond_true]
  have c1 : (bif (putLF l).2 then some (decide (((putLF l).1.length : Int) ≤ 600)) else some false).bind (fun x27 => bif x27 then (bif !(getLF (putLF l).1).2 then some true else (laws_sameInts (getLF (putLF l).1).1 l).bind fun b48 => some !b48).bind
      (fun x43 => bif x43 then some (LR.done false) else some (LR.next ())) else some (LR.next ()) : Bool → Option (LR Unit Bool)) = some (LR.next ()) := by
    cases hp : (putLF l).2
    · rfl
    · rw [getL_putL hp (by omega), dec_t (by omega)]
      simp only [cond_true, Option.bind_some, Bool.not_true, cond_false]
      rw [sameI (by omega)]; rfl
  refine (Option.bind_assoc _ _ _).symm.trans ?_
  rw [c1, Option.bind_some]
  dsimp only
  cases hp : (getLF t).2
  · simp only [cond_false, Option.bind_some]
    cases hq : (putTF u).2
    · rfl
    · rw [getT_putT hq]; simp
  · rw [putL_getL hp]
    simp only [cond_true, Option.bind_some, Bool.not_true, cond_false, beq_self_eq_true]
    cases hq : (putTF u).2
    · rfl
    · rw [getT_putT hq]; simp
end Go.VxW
