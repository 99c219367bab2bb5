/-
  FnNumbers: numbers come back from their bytes; the law.
-/
import Derived.Test.YtdgiianbihfkoaaVpO
open Go Go.VS
namespace Go.VxW

theorem size_cap {n w : Nat} (h : sizeN n ≤ w) (hw : isSize w) (hn : n ≤ 1152921504606846975) : n < 64 * 256 ^ (w - 1) := by
  unfold sizeN at h
  rcases hw with rfl | rfl | rfl | rfl <;> simp only [Nat.reduceSub, Nat.reducePow] <;> (repeat' split at h) <;> omega
theorem szB_mark {b w : Nat} (hb : b < 64) (hw : isSize w) : (b + markN w) % 256 = b + markN w ∧ szB (b + markN w) = w ∧ (b + markN w) % 64 = b := by
  have hm : markN 1 = 0 ∧ markN 2 = 64 ∧ markN 4 = 128 ∧ markN 8 = 192 := by decide
  unfold szB
  rcases hw with rfl | rfl | rfl | rfl
  · rw [hm.1, show (b + 0) / 64 = 0 by omega]; omega
  · rw [hm.2.1, show (b + 64) / 64 = 1 by omega]; omega
  · rw [hm.2.2.1, show (b + 128) / 64 = 2 by omega]; omega
  · rw [hm.2.2.2, show (b + 192) / 64 = 3 by omega]; omega
theorem toNat_txt (l : List Nat) (h : ∀ b ∈ l, b < 256) : (txt l).map UInt8.toNat = l := by
  unfold txt
  rw [List.map_map]
  have : ∀ b ∈ l, (UInt8.toNat ∘ UInt8.ofNat) b = b := fun b hb => by
    have := h b hb
    simp [Function.comp, UInt8.toNat_ofNat']; omega
  rw [List.map_congr_left this]; simp
theorem txt_toNat (l : List UInt8) : txt (l.map UInt8.toNat) = l := by
  unfold txt
  rw [List.map_map]
  have : ∀ b ∈ l, (UInt8.ofNat ∘ UInt8.toNat) b = b := fun b _ => by simp [Function.comp]
  rw [List.map_congr_left this]; simp
theorem get_wide {n w : Nat} (hw : isSize w) (h : sizeN n ≤ w) (hn : n ≤ 1152921504606846975) (rest : List UInt8) : getN (txt (wideN n w) ++ rest) 0 = if sizeN n = w then some (n, w) else none := by
  have hc := size_cap h hw hn
  have h8 := hw.le
  obtain ⟨k, rfl⟩ : ∃ k, w = k + 1 := ⟨w - 1, by omega⟩
  have hb : n / 256 ^ k % 256 = n / 256 ^ k ∧ n / 256 ^ k < 64 := by
    have : n / 256 ^ k < 64 := Nat.div_lt_of_lt_mul (by rw [Nat.mul_comm]; exact hc)
    exact ⟨Nat.mod_eq_of_lt (Nat.lt_trans this (by decide)), this⟩
  have e : wideN n (k + 1) = (n / 256 ^ k + markN (k + 1)) :: encB n k := by
    unfold wideN
    rw [show encB n (k + 1) = (n / 256 ^ k) % 256 :: encB n k from rfl]
    simp only
    rw [hb.1, (szB_mark hb.2 hw).1]
  obtain ⟨m1, m2, m3⟩ := szB_mark hb.2 hw
  have hv : (UInt8.ofNat (n / 256 ^ k + markN (k + 1))).toNat = n / 256 ^ k + markN (k + 1) := by
    rw [UInt8.toNat_ofNat']; exact m1
  unfold getN
  rw [e]
  simp only [txt, List.map_cons, List.cons_append, List.drop_zero, hv, m2, m3, List.length_append, List.length_map, encB_len]
  rw [if_neg (by omega), show k + 1 - 1 = k by omega, List.take_left' (by simp [encB_len])]
  rw [show List.map UInt8.toNat (List.map UInt8.ofNat (encB n k)) = encB n k from toNat_txt _ (encB_lt n k), decB_encB]
  have hd : n / 256 ^ k * 256 ^ k + n % 256 ^ k = n := by rw [Nat.mul_comm]; exact Nat.div_add_mod n (256 ^ k)
  rw [hd]
  simp only [hn, true_and, Nat.zero_add]
theorem put_len {n : Nat} : (putN n).length = sizeN n := by
  obtain ⟨b, bs, he, _⟩ := encB_cons (n := n) (sizeN_is n)
  have := encB_len n (sizeN n)
  unfold putN wideN txt
  rw [he] at this ⊢
  simpa using this
theorem wide_len {n w : Nat} (hw : isSize w) : (txt (wideN n w)).length = w := by
  obtain ⟨b, bs, he, _⟩ := encB_cons (n := n) hw
  have := encB_len n w
  unfold wideN txt
  rw [he] at this ⊢
  simpa using this
theorem get_put {n : Nat} (hn : n ≤ 1152921504606846975) (rest : List UInt8) : getN (putN n ++ rest) 0 = some (n, sizeN n) := by
  unfold putN
  rw [get_wide (sizeN_is n) (Nat.le_refl _) hn, if_pos rfl]
/-- What was read is written so. -/
theorem put_get {s : List UInt8} {k n e : Nat} (h : getN s k = some (n, e)) : n ≤ 1152921504606846975 ∧ e = k + sizeN n ∧ e ≤ s.length ∧ putN n = (s.drop k).take (e - k) := by
  unfold getN at h
  split at h
  · simp at h
  · rename_i b bs hd
    split at h
    · simp at h
    · rename_i hlen
      split at h
      · rename_i hc
        simp only [Option.some.injEq, Prod.mk.injEq] at h
        obtain ⟨h1, h2⟩ := h
        rw [h1] at hc
        have hsl : s.length - k = bs.length + 1 := by have := congrArg List.length hd; simpa using this
        have hw := szB_is b.toNat_lt
        have h8 := hw.le
        refine ⟨hc.1, by rw [← h2, hc.2], by omega, ?_⟩
        rw [hd, ← h2, show k + szB b.toNat - k = szB b.toNat by omega]
        unfold putN
        rw [hc.2]
        obtain ⟨w, hw1⟩ : ∃ w, szB b.toNat = w + 1 := ⟨szB b.toNat - 1, by omega⟩
        rw [hw1] at h1 hw ⊢
        rw [show w + 1 - 1 = w by omega] at h1
        have hbs : ∀ x ∈ (bs.take w).map UInt8.toNat, x < 256 := by
          intro x hx
          obtain ⟨c, _, rfl⟩ := List.mem_map.1 hx
          exact c.toNat_lt
        have hl : ((bs.take w).map UInt8.toNat).length = w := by simp <;> omega
        have d1 := decB_div _ (b.toNat % 64) hbs
        have d2 := encB_decB _ (b.toNat % 64) hbs
        rw [hl, h1] at d1 d2
        have hm : markN 1 = 0 ∧ markN 2 = 64 ∧ markN 4 = 128 ∧ markN 8 = 192 := by decide
        have hb := b.toNat_lt
        have hmk : (b.toNat % 64 + markN (w + 1)) % 256 = b.toNat := by
          have hq : b.toNat / 64 = 0 ∨ b.toNat / 64 = 1 ∨ b.toNat / 64 = 2 ∨ b.toNat / 64 = 3 := by omega
          unfold szB at hw1
          rcases hq with q | q | q | q
          · rw [q] at hw1; rw [← hw1, show (2 : Nat) ^ 0 = 1 from rfl, hm.1]; omega
          · rw [q] at hw1; rw [← hw1, show (2 : Nat) ^ 1 = 2 from rfl, hm.2.1]; omega
          · rw [q] at hw1; rw [← hw1, show (2 : Nat) ^ 2 = 4 from rfl, hm.2.2.1]; omega
          · rw [q] at hw1; rw [← hw1, show (2 : Nat) ^ 3 = 8 from rfl, hm.2.2.2]; omega
        unfold wideN
        rw [show encB n (w + 1) = (n / 256 ^ w) % 256 :: encB n w from rfl]
        simp only
        rw [d1, d2, show b.toNat % 64 % 256 = b.toNat % 64 by omega, hmk, List.take_succ_cons]
        have := txt_toNat (bs.take w)
        unfold txt at this ⊢
        simp only [List.map_cons, this]
        simp
      · simp at h
theorem size_half {n : Nat} : sizeN (n / 2) ≤ sizeN n := by
  unfold sizeN
  (repeat' split) <;> omega

def sizeB (w : Int) : Bool := w == 1 || w == 2 || w == 4 || w == 8
def putW (n w : Int) : List UInt8 × Bool := if inB n 0 1152921504606846975 && (sizeB w && decide ((sizeN n.toNat : Int) ≤ w)) then (txt (wideN n.toNat w.toNat), true) else ([], false)
theorem sizeB_is {w : Int} (h : sizeB w = true) : ∃ k : Nat, w = k ∧ isSize k := by
  unfold sizeB at h
  simp only [Bool.or_eq_true, beq_iff_eq] at h
  exact ⟨w.toNat, by omega, by unfold isSize; omega⟩
theorem iPutW (n w : Int) : impl_PutWide n w = some (putW n w) := by
  unfold impl_PutWide putW
  rw [iNum]
  cases h : inB n 0 1152921504606846975
  · rfl
  · obtain ⟨m, rfl, hm⟩ := inB_nat h
    simp only [Option.bind_some, Bool.not_true, cond_false, iSz, Int.toNat_natCast, Bool.true_and]
    cases hs : sizeB w
    · have : (w != 1) = true ∧ (w != 2) = true ∧ (w != 4) = true ∧ (w != 8) = true := by unfold sizeB at hs; simp at hs ⊢; omega
      simp [this]
    · obtain ⟨k, rfl, hk⟩ := sizeB_is hs
      rw [iWide hk (by omega)]
      have : ((((k : Int) != 1) = false) ∨ (((k : Int) != 2) = false) ∨ (((k : Int) != 4) = false) ∨ (((k : Int) != 8) = false)) := by unfold isSize at hk; simp; omega
      by_cases hc : k < sizeN m
      · rw [show decide ((k : Int) < (sizeN m : Int)) = true by simpa using hc, show decide ((sizeN m : Int) ≤ (k : Int)) = false by simp <;> omega]
        simp
      · rw [show decide ((k : Int) < (sizeN m : Int)) = false by simp <;> omega, show decide ((sizeN m : Int) ≤ (k : Int)) = true by simp <;> omega]
        rcases this with q | q | q | q <;> simp only [q, Option.bind_some, cnd_if] <;> (repeat' split) <;> first | rfl | simp_all
theorem sPutW (n w : Int) : spec_PutWide n w = some (putW n w) := by
  unfold spec_PutWide putW
  rw [sNum]
  cases h : inB n 0 1152921504606846975
  · rfl
  · obtain ⟨m, rfl, hm⟩ := inB_nat h
    simp only [Option.bind_some, Bool.not_true, cond_false, sSz, Int.toNat_natCast, Bool.true_and]
    cases hs : sizeB w
    · have : (w != 1) = true ∧ (w != 2) = true ∧ (w != 4) = true ∧ (w != 8) = true := by unfold sizeB at hs; simp at hs ⊢; omega
      simp [this]
    · obtain ⟨k, rfl, hk⟩ := sizeB_is hs
      rw [sWide hk (by omega)]
      have : ((((k : Int) != 1) = false) ∨ (((k : Int) != 2) = false) ∨ (((k : Int) != 4) = false) ∨ (((k : Int) != 8) = false)) := by unfold isSize at hk; simp; omega
      by_cases hc : k < sizeN m
      · rw [show decide ((k : Int) < (sizeN m : Int)) = true by simpa using hc, show decide ((sizeN m : Int) ≤ (k : Int)) = false by simp <;> omega]
        simp
      · rw [show decide ((k : Int) < (sizeN m : Int)) = false by simp <;> omega, show decide ((sizeN m : Int) ≤ (k : Int)) = true by simp <;> omega]
        rcases this with q | q | q | q <;> simp only [q, Option.bind_some, cnd_if] <;> (repeat' split) <;> first | rfl | simp_all

/-! what is drawn -/
theorem drawPutN {l : List Int} (hl : l.length ≤ 1048576) (hb : ∀ x ∈ l, 0 ≤ x ∧ x ≤ 255) : Tot (spec_DrawPutNumber l) R64 := by
  unfold spec_DrawPutNumber spec_DrawSizeOf
  have h := cur0 hl hb
  refine Tot.bind (Tot.bind ?_)
  refine (number_t h (by omega)).use ?_
  rintro ⟨n, c⟩ ⟨h1, _⟩
  exact .ret (.ret h1)
theorem drawPutW {l : List Int} (hl : l.length ≤ 1048576) (hb : ∀ x ∈ l, 0 ≤ x ∧ x ≤ 255) : Tot (spec_DrawPutWide l) fun _ => True := by
  unfold spec_DrawPutWide
  have h := cur0 hl hb
  refine Tot.then (number_t (by assumption) (by omega)) ?_
  rintro ⟨n, c_n⟩ ⟨n_p, n_c⟩
  dsimp only at n_p n_c ⊢
  refine Tot.then (among_t (by assumption) (by omega) (by simp)) ?_
  rintro ⟨w, c_w⟩ ⟨w_m, w_c⟩
  dsimp only at w_m w_c ⊢
  exact .ret trivial
theorem numberText_t {c : L1Cur} {b : Int} (h : Cur c b) (hb : b ≤ 1000000000000000000) : Tot (spec_l1Cur_numberText c) fun r => r.1.length ≤ 1000 ∧ Cur r.2 (b + 200) := by
  unfold spec_l1Cur_numberText
  refine Tot.then (numbers_t (by assumption) (by omega)) ?_
  rintro ⟨l, c_l⟩ ⟨l_p, l_c⟩
  dsimp only at l_p l_c ⊢
  obtain ⟨l_1, l_2⟩ := l_p
  refine Tot.then (P := fun r => r.length ≤ 8 * 61) (Tot.whl (fun s => l.length - s.2.toNat) (fun s => (0 ≤ s.2 ∧ s.2 ≤ l.length) ∧ s.1.length ≤ 8 * s.2.toNat) ?_ ⟨⟨by simp, by simp⟩, by simp⟩) ?_
  · rintro ⟨s, i⟩ ⟨⟨h1, h2⟩, h3⟩
    dsimp only at h1 h2 h3 ⊢
    unfold spec_l1Cur_numberText_l0
    dsimp only
    refine Tot.cnd (fun hc => ?_) (fun hc => ?_)
    · simp only [decide_eq_true_eq] at hc
      rw [idx_in h1 hc]
      simp only [Option.bind_some, sNum, Option.bind_fun_some]
      rw [w64 (by omega)]
      refine Tot.then (P := fun r => r.length ≤ s.length + 8) ?_ ?_
      · refine Tot.cnd (fun hc => ?_) (fun hc => ?_)
        · obtain ⟨m, hm, hm2⟩ := inB_nat (by assumption)
          rw [hm]
          unfold spec_l1Put
          rw [sSz, Option.bind_some, sWide (sizeN_is m) (by omega), Option.bind_some]
          simp only [Option.bind_some]
          have hz := (sizeN_is m).le
          rw [cat_in (by rw [wide_len (sizeN_is m)]; omega)]
          exact .ret (by rw [List.length_append, wide_len (sizeN_is m)]; omega)
        · exact .ret (by omega)
      · intro r hr
        exact .ret ⟨⟨⟨(by first | omega | (dsimp only; omega)), (by first | omega | (dsimp only; omega))⟩, (by first | omega | (dsimp only; omega))⟩, (by first | omega | (dsimp only; omega))⟩
    · simp only [decide_eq_false_iff_not, Int.not_lt] at hc
      exact .ret (by dsimp only; omega)
  · intro s hs
    refine Tot.then (one_t (by assumption) (by omega)) ?_
    rintro ⟨x, c_x⟩ x_c
    dsimp only at x_c ⊢
    refine Tot.then (P := fun r => r.1.length ≤ 1000 ∧ Cur ⟨r.2.1, r.2.2.1, r.2.2.2⟩ (b + 200)) ?_ ?_
    · refine Tot.cnd (fun hc => ?_) (fun hc => ?_)
      · refine Tot.then (spoilt_t (by assumption) (by omega) (by simp) (by omega)) ?_
        rintro ⟨t, d⟩ ⟨h1, h2⟩
        dsimp only at h1
        exact .ret ⟨(by first | omega | (dsimp only; omega)), h2.mono (by omega)⟩
      · exact .ret ⟨(by first | omega | (dsimp only; omega)), x_c.mono (by omega)⟩
    · rintro ⟨t, co, a, se⟩ ⟨h1, h2⟩
      exact .ret ⟨h1, h2⟩
theorem drawGetN {l : List Int} (hl : l.length ≤ 1048576) (hb : ∀ x ∈ l, 0 ≤ x ∧ x ≤ 255) : Tot (spec_DrawGetNumber l) fun r => r.1.length ≤ 1000 := by
  unfold spec_DrawGetNumber
  have h := cur0 hl hb
  refine Tot.then (numberText_t (by assumption) (by omega)) ?_
  rintro ⟨t, c_t⟩ ⟨t_p, t_c⟩
  dsimp only at t_p t_c ⊢
  refine Tot.then (pick_t (by assumption) (by omega)) ?_
  rintro ⟨n, c_n⟩ ⟨n_0, n_1, n_c⟩
  dsimp only at n_0 n_1 n_c ⊢
  exact .ret t_p

theorem pureNumbers (a b : List Int) (ha : a.length < 2 ^ 47) (hb : b.length < 2 ^ 47) (ka : ∀ x ∈ a, 0 ≤ x ∧ x ≤ 255) (kb : ∀ x ∈ b, 0 ≤ x ∧ x ≤ 255) : laws_FnNumbers a b = some true := by
  unfold laws_FnNumbers
  rw [w64 (by omega)]
  by_cases h : (1048576 : Int) < (a.length : Int) + (b.length : Int)
  · rw [show decide ((1048576 : Int) < (a.length : Int) + (b.length : Int)) = true by simpa using h]; rfl
  rw [show decide ((1048576 : Int) < (a.length : Int) + (b.length : Int)) = false by simpa using h]
  simp only [cond_false]
  obtain ⟨n, e1, n64⟩ := drawPutN (l := a) (by omega) ka
  obtain ⟨⟨m, w⟩, e2, _⟩ := drawPutW (l := b) (by omega) kb
  obtain ⟨⟨u, at_⟩, e3, hu⟩ := drawGetN (l := b) (by omega) kb
  dsimp only at hu
  have p1 : (putF n).1.length ≤ 8 := by
    unfold putF; split
    · dsimp only; rw [put_len]; exact (sizeN_is _).le.2
    · simp
  have p2 : (putW m w).1.length ≤ 8 := by
    unfold putW; split
    · rename_i hc
      simp only [Bool.and_eq_true] at hc
      obtain ⟨k, rfl, hk⟩ := sizeB_is hc.2.1
      dsimp only; rw [Int.toNat_natCast, wide_len hk]; exact hk.le.2
    · simp
  simp only [e1, e2, e3, iPut, sPut, iSize, sSize, iPutW, sPutW, Option.bind_some, beq_self_eq_true, Bool.not_true, cond_false, bne_self_eq_false]
  rw [iGet (s := (putF n).1) (by omega), iGet (s := (putW m w).1) (by omega), iGet (s := u) (by omega), sGet (s := u) (by omega)]
  simp only [Option.bind_some, beq_self_eq_true, Bool.not_true, cond_false, bne_self_eq_false]
  have c1 : (bif (putF n).2 then (bif !(getF (putF n).1 0).2.2 then some true else bif (getF (putF n).1 0).1 != n then some true else bif (getF (putF n).1 0).2.1 != ((putF n).1.length : Int) then some true else bif !(sizeF n).2 then some true else bif (sizeF n).1 != ((putF n).1.length : Int) then some true else bif !(sizeF (IntKind.i64.wrap (n.tdiv 2))).2 then some true else some (decide ((sizeF n).1 < (sizeF (IntKind.i64.wrap (n.tdiv 2))).1))).bind
      (fun x47 => bif x47 then some (LR.done false) else some (LR.next ())) else some (LR.next ()) : Option (LR Unit Bool)) = some (LR.next ()) := by
    unfold putF sizeF
    cases hn : inB n 0 1152921504606846975
    · rfl
    · obtain ⟨k, rfl, hk⟩ := inB_nat hn
      have hg : getF (putN k) 0 = ((k : Int), (sizeN k : Int), true) := by
        unfold getF
        have := get_put hk []
        rw [List.append_nil] at this
        simp [this]
      have ht : IntKind.i64.wrap ((k : Int).tdiv 2) = ((k / 2 : Nat) : Int) := by
        rw [Int.tdiv_eq_ediv_of_nonneg (by omega), w64 (by omega)]; omega
      have hh : inB ((k / 2 : Nat) : Int) 0 1152921504606846975 = true := inB_iff.2 ⟨by omega, by omega⟩
      have := size_half (n := k)
      rw [ht]
      generalize k / 2 = q at hh this
      have hq : decide (sizeN k < sizeN q) = false := by simp <;> omega
      simp [hg, hh, put_len, hq]
  have c2 : (bif (putW m w).2 then (bif ((putW m w).1.length : Int) != w then some true else bif !(sizeF m).2 then some true else bif !((getF (putW m w).1 0).2.2 == ((sizeF m).1 == w)) then some true else bif (getF (putW m w).1 0).2.2 then some ((getF (putW m w).1 0).1 != m) else some false).bind
      (fun x91 => bif x91 then some (LR.done false) else some (LR.next ())) else some (LR.next ()) : Option (LR Unit Bool)) = some (LR.next ()) := by
    unfold putW sizeF
    cases hc : (inB m 0 1152921504606846975 && (sizeB w && decide ((sizeN m.toNat : Int) ≤ w)))
    · rfl
    · simp only [Bool.and_eq_true, decide_eq_true_eq] at hc
      obtain ⟨k, rfl, hk⟩ := inB_nat hc.1
      obtain ⟨z, rfl, hz⟩ := sizeB_is hc.2.1
      have h2 : sizeN k ≤ z := by have := hc.2.2; simp only [Int.toNat_natCast] at this; omega
      have hg : getF (txt (wideN k z)) 0 = if sizeN k = z then ((k : Int), (z : Int), true) else (0, 0, false) := by
        unfold getF
        have := get_wide hz h2 hk []
        rw [List.append_nil] at this
        simp only [Int.le_refl, if_true, Int.toNat_zero, this]
        by_cases he : sizeN k = z <;> simp [he]
      by_cases he : sizeN k = z
      · simp [hg, wide_len hz, hc.1, he]
      · have : ((sizeN k : Int) == (z : Int)) = false := by simp <;> omega
        simp [hg, wide_len hz, hc.1, he, this]
  rw [c1, c2]
  simp only [Option.bind_some]
  unfold getF putF
  by_cases h0 : 0 ≤ at_
  · rw [if_pos h0]
    cases hg : getN u at_.toNat with
    | none => rfl
    | some p =>
      obtain ⟨v, e⟩ := p
      obtain ⟨q1, q2, q3, q4⟩ := put_get hg
      have hv : inB (v : Int) 0 1152921504606846975 = true := inB_iff.2 ⟨by omega, by omega⟩
      simp only [hv, if_true, cond_true]
      rw [slc_in h0 (by omega) (by omega), Option.bind_some, Int.toNat_natCast, Int.toNat_natCast, q4]
      simp
  · rw [if_neg h0]; rfl
end Go.VxW
