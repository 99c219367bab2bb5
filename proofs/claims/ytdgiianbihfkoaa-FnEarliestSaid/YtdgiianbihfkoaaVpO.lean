/-
  Numbers that tell their length: the bytes, and back.
-/
import Derived.Test.YtdgiianbihfkoaaVpN
import Derived.Test.YtdgiianbihfkoaaVyL
open Go Go.VS
namespace Go.VxW

/-- The lowest k bytes of a number, the highest first. -/
def encB (n : Nat) : Nat → List Nat
  | 0 => []
  | k + 1 => (n / 256 ^ k) % 256 :: encB n k
def decB (a : Nat) : List Nat → Nat
  | [] => a
  | b :: bs => decB (a * 256 + b) bs
theorem encB_len (n k : Nat) : (encB n k).length = k := by
  induction k with
  | zero => rfl
  | succ k ih => simp [encB, ih]
theorem encB_lt (n k : Nat) : ∀ b ∈ encB n k, b < 256 := by
  induction k with
  | zero => simp [encB]
  | succ k ih =>
    intro b hb
    simp only [encB, List.mem_cons] at hb
    rcases hb with rfl | hb
    · exact Nat.mod_lt _ (by omega)
    · exact ih b hb
theorem decB_encB (n k a : Nat) : decB a (encB n k) = a * 256 ^ k + n % 256 ^ k := by
  induction k generalizing a with
  | zero => simp [encB, decB, Nat.mod_one]
  | succ k ih =>
    simp only [encB, decB]
    rw [ih, Nat.pow_succ, Nat.mod_mul, Nat.add_mul, Nat.mul_assoc a 256, Nat.mul_comm 256 (256 ^ k), Nat.mul_comm (n / 256 ^ k % 256) (256 ^ k)]
    omega
theorem decB_lt : ∀ (l : List Nat) (a : Nat), (∀ b ∈ l, b < 256) → decB a l < (a + 1) * 256 ^ l.length
  | [], a, _ => by simp [decB]
  | b :: bs, a, h => by
    have hb := h b (by simp)
    have := decB_lt bs (a * 256 + b) (fun x hx => h x (by simp [hx]))
    simp only [decB, List.length_cons]
    rw [Nat.pow_succ]
    have h2 : (a * 256 + b + 1) * 256 ^ bs.length ≤ ((a + 1) * 256) * 256 ^ bs.length := Nat.mul_le_mul_right _ (by omega)
    have h3 : (a + 1) * 256 * 256 ^ bs.length = (a + 1) * (256 ^ bs.length * 256) := by rw [Nat.mul_assoc, Nat.mul_comm 256]
    omega
theorem decB_div : ∀ (l : List Nat) (a : Nat), (∀ b ∈ l, b < 256) → decB a l / 256 ^ l.length = a
  | [], a, _ => by simp [decB]
  | b :: bs, a, h => by
    have hb := h b (by simp)
    have := decB_div bs (a * 256 + b) (fun x hx => h x (by simp [hx]))
    simp only [decB, List.length_cons]
    rw [Nat.pow_succ, ← Nat.div_div_eq_div_mul, this]
    omega
theorem encB_decB : ∀ (l : List Nat) (a : Nat), (∀ b ∈ l, b < 256) → encB (decB a l) l.length = l
  | [], _, _ => rfl
  | b :: bs, a, h => by
    have hb := h b (by simp)
    have h2 := fun x hx => h x (List.mem_cons_of_mem b hx)
    simp only [decB, List.length_cons, encB]
    rw [encB_decB bs _ h2, decB_div bs _ h2]
    congr 1; omega

def ints (l : List Nat) : List Int := l.map Int.ofNat
def txt (l : List Nat) : List UInt8 := l.map UInt8.ofNat
theorem toStr_ints (l : List Nat) : toStr (ints l) = txt l := by simp [toStr, ints, txt]
/-- A round of writing. -/
theorem wide_go (n size : Nat) (hs : size ≤ 8) (_hn : n < 2 ^ 62) {f : Int × List Int × Int → Option (LR (Int × List Int × Int) (List Int))} (hf : f = impl_wide_l0 ∨ f = spec_l1Wide_l0) :
    whl f ((n : Int), List.replicate size 0, (size : Int) - 1) = some (ints (encB n size)) := by
  have hstep : ∀ x, f x = impl_wide_l0 x := by
    intro x
    rcases hf with rfl | rfl
    · rfl
    · rfl
  refine whl_to (fun s => (s.2.2 + 1).toNat) (fun s => ∃ k : Nat, k ≤ size ∧ s = (((n / 256 ^ k : Nat) : Int), List.replicate (size - k) 0 ++ ints (encB n k), (size : Int) - 1 - k)) _ ?_ _ ⟨0, by omega, by simp [encB, ints]⟩
  rintro ⟨x, l, i⟩ ⟨k, hk, he⟩
  simp only [Prod.mk.injEq] at he
  obtain ⟨rfl, rfl, rfl⟩ := he
  rw [hstep]
  simp only [impl_wide_l0]
  by_cases hks : k < size
  · rw [show decide (0 ≤ (size : Int) - 1 - k) = true by simp <;> omega]
    have hlen : ((List.replicate (size - k) (0 : Int)) ++ ints (encB n k)).length = size := by simp [ints, encB_len]; omega
    rw [idx_in (by omega) (by rw [hlen]; omega)]
    simp only [cond_true, Option.bind_some]
    refine ⟨_, rfl, ⟨k + 1, by omega, ?_⟩, by dsimp only; rw [w64 (by omega)]; omega⟩
    have hp : n / 256 ^ k ≤ n := Nat.div_le_self _ _
    simp only [Prod.mk.injEq]
    refine ⟨?_, ?_, by rw [w64 (by omega)]; omega⟩
    · show Int.fdiv _ _ = _
      rw [Nat.pow_succ, ← Nat.div_div_eq_div_mul]
      simp only [show min (Int.toNat 8) IntKind.i64.bits = 8 from rfl]
      rw [Int.fdiv_eq_ediv_of_nonneg _ (by decide)]
      omega
    · have e1 : ((size : Int) - 1 - k).toNat = size - k - 1 := by omega
      have e2 : size - k = (size - k - 1) + 1 := by omega
      have e3 : IntKind.u8.wrap ((n / 256 ^ k : Nat) : Int) = ((n / 256 ^ k % 256 : Nat) : Int) := by
        rw [IntKind.wrap_u8]; omega
      rw [e1, e3, e2, List.replicate_succ', List.append_assoc, List.set_append]
      simp [encB, ints]
      omega
  · have : k = size := by omega
    subst this
    rw [show decide (0 ≤ (k : Int) - 1 - k) = false by simp <;> omega]
    exact ⟨_, rfl, by simp⟩

/-- What the first byte has more. -/
def markN (size : Nat) : Nat := if size = 2 then 64 else if size = 4 then 128 else if size = 8 then 192 else 0
def isSize (size : Nat) : Prop := size = 1 ∨ size = 2 ∨ size = 4 ∨ size = 8
def wideN (n size : Nat) : List Nat := match encB n size with | [] => [] | b :: bs => (b + markN size) % 256 :: bs
theorem isSize.le {s : Nat} (h : isSize s) : 1 ≤ s ∧ s ≤ 8 := by unfold isSize at h; omega
theorem encB_cons {n size : Nat} (h : isSize size) : ∃ b bs, encB n size = b :: bs ∧ b < 256 := by
  have h1 := encB_len n size
  have h2 := encB_lt n size
  cases he : encB n size with
  | nil => rw [he] at h1; have := h.le; simp at h1; omega
  | cons b bs => exact ⟨b, bs, rfl, h2 b (by rw [he]; simp)⟩
theorem iWide {n size : Nat} (hs : isSize size) (hn : n < 2 ^ 62) : impl_wide n size = some (txt (wideN n size)) := by
  have h8 := hs.le
  unfold impl_wide
  rw [mkL_in (by omega) (by omega) (by omega), Option.bind_some, w64 (by omega), Int.toNat_natCast, wide_go n size (by omega) hn (.inl rfl), Option.bind_some]
  obtain ⟨b, bs, he, hb⟩ := encB_cons (n := n) hs
  unfold wideN
  rw [he]
  simp only [ints, List.map_cons, Int.ofNat_eq_natCast]
  have w8 : ∀ x : Int, 0 ≤ x → IntKind.u8.wrap (x % 256 + 64) = (x + 64) % 256 := fun x _ => by rw [IntKind.wrap_u8]; omega
  have hu : ∀ x : Int, IntKind.u8.wrap x = x % 256 := IntKind.wrap_u8
  have st : ∀ (c i : Int) (l : List Int), impl_wide_l1 (size : Int) (c :: l, i) = if i < size then some (.next ((c + 64) % 256 :: l, IntKind.i64.wrap (i * 2))) else some (.done (c :: l)) := by
    intro c i l
    simp only [impl_wide_l1, hu]
    by_cases h : i < size
    · simp [h, idx]
    · simp [h]
  have hm : markN 1 = 0 ∧ markN 2 = 64 ∧ markN 4 = 128 ∧ markN 8 = 192 := by decide
  have fin : ∀ (m : Nat) (c : Int), c = ((b + m) % 256 : Nat) → toStr (c :: bs.map Int.ofNat) = txt ((b + m) % 256 :: bs) := by
    rintro m c rfl
    simp [toStr, txt]
    congr 1
  rcases hs with rfl | rfl | rfl | rfl
  · rw [whl_eq, st, if_neg (by omega)]
    simp only [Option.bind_some, hm.1]
    rw [fin 0 b (by omega)]
  · rw [whl_eq, st, if_pos (by omega), Option.bind_some]
    dsimp only
    rw [w64 (by omega), whl_eq, st, if_neg (by omega)]
    simp only [Option.bind_some, hm.2.1]
    rw [fin 64 _ (by omega)]
  · rw [whl_eq, st, if_pos (by omega), Option.bind_some]
    dsimp only
    rw [w64 (by omega), whl_eq, st, if_pos (by omega), Option.bind_some]
    dsimp only
    rw [w64 (by omega), whl_eq, st, if_neg (by omega)]
    simp only [Option.bind_some, hm.2.2.1]
    rw [fin 128 _ (by omega)]
  · rw [whl_eq, st, if_pos (by omega), Option.bind_some]
    dsimp only
    rw [w64 (by omega), whl_eq, st, if_pos (by omega), Option.bind_some]
    dsimp only
    rw [w64 (by omega), whl_eq, st, if_pos (by omega), Option.bind_some]
    dsimp only
    rw [w64 (by omega), whl_eq, st, if_neg (by omega)]
    simp only [Option.bind_some, hm.2.2.2]
    rw [fin 192 _ (by omega)]
theorem sMark {size : Nat} (hs : isSize size) : spec_l1Mark size = some (markN size : Int) := by
  rcases hs with rfl | rfl | rfl | rfl <;> rfl
theorem sWide {n size : Nat} (hs : isSize size) (hn : n < 2 ^ 62) : spec_l1Wide n size = some (txt (wideN n size)) := by
  have h8 := hs.le
  unfold spec_l1Wide
  rw [mkL_in (by omega) (by omega) (by omega), Option.bind_some, w64 (by omega), Int.toNat_natCast, wide_go n size (by omega) hn (.inr rfl), Option.bind_some, sMark hs]
  obtain ⟨b, bs, he, hb⟩ := encB_cons (n := n) hs
  unfold wideN
  rw [he]
  have hm : markN size < 256 := by unfold markN; split <;> (try split) <;> (try split) <;> omega
  simp only [ints, List.map_cons, Int.ofNat_eq_natCast, idx, Int.le_refl, if_true, Int.toNat_zero, List.getElem?_cons_zero, Option.bind_some, List.set_cons_zero]
  rw [IntWalk.u8_in (markN size : Int) (by omega), IntKind.wrap_u8]
  simp only [toStr, txt, List.map_cons, List.map_map]
  congr 2


def sizeN (n : Nat) : Nat := if n < 64 then 1 else if n < 16384 then 2 else if n < 1073741824 then 4 else 8
theorem sizeN_is (n : Nat) : isSize (sizeN n) := by unfold sizeN isSize; split <;> (try split) <;> (try split) <;> simp
theorem iSz (n : Nat) : impl_sizeOf n = some (sizeN n : Int) := by
  unfold impl_sizeOf sizeN
  by_cases h1 : n < 64
  · rw [if_pos h1, show decide ((n : Int) < 64) = true by simp <;> omega]; rfl
  by_cases h2 : n < 16384
  · rw [if_neg h1, if_pos h2, show decide ((n : Int) < 64) = false by simp <;> omega, show decide ((n : Int) < 16384) = true by simp <;> omega]; rfl
  by_cases h3 : n < 1073741824
  · rw [if_neg h1, if_neg h2, if_pos h3, show decide ((n : Int) < 64) = false by simp <;> omega, show decide ((n : Int) < 16384) = false by simp <;> omega, show decide ((n : Int) < 1073741824) = true by simp <;> omega]; rfl
  · rw [if_neg h1, if_neg h2, if_neg h3, show decide ((n : Int) < 64) = false by simp <;> omega, show decide ((n : Int) < 16384) = false by simp <;> omega, show decide ((n : Int) < 1073741824) = false by simp <;> omega]; rfl
theorem sSz (n : Nat) : spec_l1Size n = some (sizeN n : Int) := iSz n
theorem iNum (n : Int) : impl_isNumber n = some (inB n 0 1152921504606846975) := by unfold impl_isNumber; rw [iIn]; rfl
theorem sNum (n : Int) : spec_l1Number n = some (inB n 0 1152921504606846975) := by unfold spec_l1Number; rw [sIn]; rfl
def putN (n : Nat) : List UInt8 := txt (wideN n (sizeN n))
theorem inB_nat {n : Int} (h : inB n 0 1152921504606846975 = true) : ∃ m : Nat, n = m ∧ m ≤ 1152921504606846975 := by
  have := inB_iff.1 h
  exact ⟨n.toNat, by omega, by omega⟩
def putF (n : Int) : List UInt8 × Bool := if inB n 0 1152921504606846975 then (putN n.toNat, true) else ([], false)
theorem iPut (n : Int) : impl_PutNumber n = some (putF n) := by
  unfold impl_PutNumber putF
  rw [iNum]
  cases h : inB n 0 1152921504606846975
  · rfl
  · obtain ⟨m, rfl, hm⟩ := inB_nat h
    simp only [Option.bind_some, Bool.not_true, cond_false, impl_number, iSz]
    rw [iWide (sizeN_is m) (by omega)]
    rfl
theorem sPut (n : Int) : spec_PutNumber n = some (putF n) := by
  unfold spec_PutNumber putF
  rw [sNum]
  cases h : inB n 0 1152921504606846975
  · rfl
  · obtain ⟨m, rfl, hm⟩ := inB_nat h
    simp only [Option.bind_some, Bool.not_true, cond_false, spec_l1Put, sSz]
    rw [sWide (sizeN_is m) (by omega)]
    rfl
def sizeF (n : Int) : Int × Bool := if inB n 0 1152921504606846975 then ((sizeN n.toNat : Int), true) else (0, false)
theorem iSize (n : Int) : impl_SizeOf n = some (sizeF n) := by
  unfold impl_SizeOf sizeF
  rw [iNum]
  cases h : inB n 0 1152921504606846975
  · rfl
  · obtain ⟨m, rfl, hm⟩ := inB_nat h
    simp only [Option.bind_some, Bool.not_true, cond_false, iSz]
    rfl
theorem sSize (n : Int) : spec_SizeOf n = some (sizeF n) := by
  unfold spec_SizeOf sizeF
  rw [sNum]
  cases h : inB n 0 1152921504606846975
  · rfl
  · obtain ⟨m, rfl, hm⟩ := inB_nat h
    simp only [Option.bind_some, Bool.not_true, cond_false, sSz]
    rfl

/-! reading -/
theorem or_go {x : Nat} {b : UInt8} (hx : x < 2 ^ 54) : orL .i64 (shlL .i64 (x : Int) 8) (IntKind.i64.wrap (b.toNat : Int)) = ((x * 256 + b.toNat : Nat) : Int) := by
  have hb := b.toNat_lt
  simp only [shlL, show min (Int.toNat 8) IntKind.i64.bits = 8 from rfl]
  rw [w64 (x := (b.toNat : Int)) (by omega), w64 (x := (x : Int) * 2 ^ 8) (by omega), show (x : Int) * 2 ^ 8 = ((2 ^ 8 * x : Nat) : Int) by omega]
  unfold orL
  rw [BitVec.ofInt_natCast, BitVec.ofInt_natCast, BitVec.toNat_or, BitVec.toNat_ofNat, BitVec.toNat_ofNat, Nat.mod_eq_of_lt (by show _ < 2 ^ 64; omega), Nat.mod_eq_of_lt (by show _ < 2 ^ 64; omega), ← Nat.two_pow_add_eq_or_of_lt (by omega), w64 (by omega)]
  omega
theorem and_go (b : UInt8) : IntKind.i64.wrap (andL .u8 (b.toNat : Int) 63) = ((b.toNat % 64 : Nat) : Int) := by
  have hb := b.toNat_lt
  have e : andL .u8 (b.toNat : Int) 63 = ((b.toNat % 64 : Nat) : Int) := by
    unfold andL
    rw [BitVec.ofInt_natCast, show (63 : Int) = ((63 : Nat) : Int) from rfl, BitVec.ofInt_natCast, BitVec.toNat_and, BitVec.toNat_ofNat, BitVec.toNat_ofNat, Nat.mod_eq_of_lt (by show _ < 2 ^ 8; omega), Nat.mod_eq_of_lt (by show _ < 2 ^ 8; omega),
      show (63 : Nat) = 2 ^ 6 - 1 from rfl, Nat.and_two_pow_sub_one_eq_mod, IntWalk.u8_in _ (by omega)]
  rw [e, w64 (by omega)]
theorem sh_go (b : UInt8) : shrL .u8 (b.toNat : Int) 6 = ((b.toNat / 64 : Nat) : Int) := by
  simp only [shrL, show min (Int.toNat 6) IntKind.u8.bits = 6 from rfl]
  rw [Int.fdiv_eq_ediv_of_nonneg _ (by decide)]
  omega
def szB (b : Nat) : Nat := 2 ^ (b / 64)
theorem szB_is {b : Nat} (h : b < 256) : isSize (szB b) := by
  have : b / 64 = 0 ∨ b / 64 = 1 ∨ b / 64 = 2 ∨ b / 64 = 3 := by omega
  unfold szB isSize
  rcases this with h | h | h | h <;> rw [h] <;> decide
theorem one_sl (b : UInt8) : sl .i64 1 ((b.toNat / 64 : Nat) : Int) = some (szB b.toNat : Int) := by
  have hb := b.toNat_lt
  have : b.toNat / 64 = 0 ∨ b.toNat / 64 = 1 ∨ b.toNat / 64 = 2 ∨ b.toNat / 64 = 3 := by omega
  unfold szB
  rcases this with h | h | h | h <;> rw [h] <;> decide
theorem decB_snoc (l : List Nat) (a b : Nat) : decB a (l ++ [b]) = decB a l * 256 + b := by
  induction l generalizing a with
  | nil => rfl
  | cons x l ih => exact ih _
theorem get_go {s : List UInt8} {at_ size : Nat} {a : Nat} (ha : a < 64) (hs : size ≤ 8) (h1 : 1 ≤ size) (hl : at_ + size ≤ s.length) (hb : s.length < 2 ^ 60) {f : Int × Int → Option (LR (Int × Int) Int)} (hf : f = impl_GetNumber_l0 s at_ size) :
    whl f ((a : Int), 1) = some (decB a (((s.drop (at_ + 1)).take (size - 1)).map UInt8.toNat) : Int) := by
  subst hf
  refine whl_to (fun x => ((size : Int) - x.2).toNat) (fun x => ∃ k : Nat, k + 1 ≤ size ∧ x = ((decB a (((s.drop (at_ + 1)).take k).map UInt8.toNat) : Int), (k : Int) + 1)) _ ?_ _ ⟨0, by omega, by simp [decB]⟩
  rintro ⟨x, i⟩ ⟨k, hk, he⟩
  simp only [Prod.mk.injEq] at he
  obtain ⟨rfl, rfl⟩ := he
  simp only [impl_GetNumber_l0]
  by_cases hks : k + 1 < size
  · rw [show decide ((k : Int) + 1 < (size : Int)) = true by simp <;> omega, w64 (x := (at_ : Int) + ((k : Int) + 1)) (by omega), idx_in (by omega) (by omega)]
    simp only [cond_true, Option.bind_some]
    have hlt : decB a (((s.drop (at_ + 1)).take k).map UInt8.toNat) < 2 ^ 54 := by
      have := decB_lt (((s.drop (at_ + 1)).take k).map UInt8.toNat) a (by
        intro b hb
        obtain ⟨c, _, rfl⟩ := List.mem_map.1 hb
        exact c.toNat_lt)
      have hl : (((s.drop (at_ + 1)).take k).map UInt8.toNat).length ≤ 6 := by simp <;> omega
      have h3 : 256 ^ (((s.drop (at_ + 1)).take k).map UInt8.toNat).length ≤ 256 ^ 6 := Nat.pow_le_pow_right (by omega) hl
      have h4 : (a + 1) * 256 ^ (((s.drop (at_ + 1)).take k).map UInt8.toNat).length ≤ 64 * 256 ^ 6 := Nat.mul_le_mul (by omega) h3
      omega
    rw [or_go hlt, w64 (by omega)]
    refine ⟨_, rfl, ⟨k + 1, by omega, ?_⟩, by dsimp only; omega⟩
    simp only [Prod.mk.injEq]
    refine ⟨?_, by omega⟩
    have e : (s.drop (at_ + 1)).take (k + 1) = (s.drop (at_ + 1)).take k ++ [s[at_ + 1 + k]'(by omega)] := by
      rw [List.take_add_one, List.getElem?_drop, List.getElem?_eq_getElem (by omega)]
      rfl
    rw [e, List.map_append, List.map_singleton, decB_snoc]
    have e2 : ((at_ : Int) + (k + 1)).toNat = at_ + 1 + k := by omega
    simp only [e2]
  · have : k = size - 1 := by omega
    subst this
    rw [show decide (((size - 1 : Nat) : Int) + 1 < (size : Int)) = false by simp <;> omega]
    exact ⟨_, rfl, rfl⟩

/-- What stands at a place. -/
def getN (s : List UInt8) (k : Nat) : Option (Nat × Nat) :=
  match s.drop k with
  | [] => none
  | b :: bs => if bs.length + 1 < szB b.toNat then none else
    if decB (b.toNat % 64) ((bs.take (szB b.toNat - 1)).map UInt8.toNat) ≤ 1152921504606846975 ∧ sizeN (decB (b.toNat % 64) ((bs.take (szB b.toNat - 1)).map UInt8.toNat)) = szB b.toNat
    then some (decB (b.toNat % 64) ((bs.take (szB b.toNat - 1)).map UInt8.toNat), k + szB b.toNat) else none
def getF (s : List UInt8) (i : Int) : Int × Int × Bool := if 0 ≤ i then (match getN s i.toNat with | some (n, k) => ((n : Int), (k : Int), true) | none => (0, 0, false)) else (0, 0, false)
theorem iGet {s : List UInt8} (hs : s.length < 2 ^ 60) (i : Int) : impl_GetNumber s i = some (getF s i) := by
  unfold impl_GetNumber getF
  rw [w64 (by omega), iIn, Option.bind_some]
  by_cases h0 : 0 ≤ i
  · obtain ⟨k, rfl⟩ := Int.eq_ofNat_of_zero_le h0
    rw [if_pos h0, Int.toNat_natCast]
    by_cases hk : k < s.length
    · rw [show inB (k : Int) 0 ((s.length : Int) - 1) = true from inB_iff.2 ⟨by omega, by omega⟩]
      simp only [Bool.not_true, cond_false, idx_lt hk, Option.bind_some, sh_go, one_sl, and_go]
      have h8 := (szB_is (s[k]).toNat_lt).le
      unfold getN
      rw [List.drop_eq_getElem_cons hk]
      simp only [List.length_drop]
      rw [w64 (by omega)]
      by_cases hl : s.length < k + szB s[k].toNat
      · rw [show decide ((s.length : Int) < (k : Int) + (szB s[k].toNat : Int)) = true by simp <;> omega, if_pos (by omega)]; rfl
      · rw [show decide ((s.length : Int) < (k : Int) + (szB s[k].toNat : Int)) = false by simp <;> omega, if_neg (by omega)]
        simp only [cond_false]
        rw [get_go (a := s[k].toNat % 64) (by omega) (by omega) (by omega) (by omega) (by omega) rfl]
        simp only [Option.bind_some, iNum, iSz]
        generalize decB (s[k].toNat % 64) (((s.drop (k + 1)).take (szB s[k].toNat - 1)).map UInt8.toNat) = n
        by_cases hn : n ≤ 1152921504606846975
        · rw [show inB (n : Int) 0 1152921504606846975 = true from inB_iff.2 ⟨by omega, by omega⟩]
          by_cases hz : sizeN n = szB s[k].toNat
          · rw [if_pos ⟨hn, hz⟩, hz]; simp
          · rw [if_neg (fun h => hz h.2)]
            have : ((sizeN n : Int) != (szB s[k].toNat : Int)) = true := by simp <;> omega
            simp [this]
        · rw [show inB (n : Int) 0 1152921504606846975 = false by rw [← Bool.not_eq_true, inB_iff]; omega, if_neg (fun h => hn h.1)]; rfl
    · rw [show inB (k : Int) 0 ((s.length : Int) - 1) = false by rw [← Bool.not_eq_true, inB_iff]; omega]
      unfold getN
      rw [List.drop_eq_nil_of_le (by omega)]; rfl
  · rw [if_neg h0, show inB i 0 ((s.length : Int) - 1) = false by rw [← Bool.not_eq_true, inB_iff]; omega]; rfl
theorem sGet0 {s : List UInt8} (hs : s.length < 2 ^ 60) (k : Nat) : spec_l1Get s k = some (match getN s k with | some (n, e) => ((n : Int), (e : Int)) | none => (0, -1)) := by
  unfold spec_l1Get
  by_cases hk : k < s.length
  · rw [show decide ((s.length : Int) ≤ (k : Int)) = false by simp <;> omega]
    simp only [cond_false, idx_lt hk, Option.bind_some, sh_go]
    have h256 := (s[k]).toNat_lt
    rw [u64 (by omega)]
    simp only [one_sl, and_go, Option.bind_some]
    have h8 := (szB_is (s[k]).toNat_lt).le
    unfold getN
    rw [List.drop_eq_getElem_cons hk]
    simp only [List.length_drop]
    rw [w64 (by omega), w64 (by omega)]
    by_cases hl : s.length < k + szB s[k].toNat
    · rw [show decide ((s.length : Int) - (k : Int) < (szB s[k].toNat : Int)) = true by simp <;> omega, if_pos (by omega)]; rfl
    · rw [show decide ((s.length : Int) - (k : Int) < (szB s[k].toNat : Int)) = false by simp <;> omega, if_neg (by omega)]
      simp only [cond_false]
      rw [get_go (f := spec_l1Get_l0 s k (szB s[k].toNat)) (a := s[k].toNat % 64) (by omega) (by omega) (by omega) (by omega) (by omega) rfl]
      simp only [Option.bind_some, sNum, sSz]
      generalize decB (s[k].toNat % 64) (((s.drop (k + 1)).take (szB s[k].toNat - 1)).map UInt8.toNat) = n
      by_cases hn : n ≤ 1152921504606846975
      · rw [show inB (n : Int) 0 1152921504606846975 = true from inB_iff.2 ⟨by omega, by omega⟩]
        by_cases hz : sizeN n = szB s[k].toNat
        · rw [if_pos ⟨hn, hz⟩, hz]; simp
        · rw [if_neg (fun h => hz h.2)]
          have : ((sizeN n : Int) != (szB s[k].toNat : Int)) = true := by simp <;> omega
          simp [this]
      · rw [show inB (n : Int) 0 1152921504606846975 = false by rw [← Bool.not_eq_true, inB_iff]; omega, if_neg (fun h => hn h.1)]; rfl
  · rw [show decide ((s.length : Int) ≤ (k : Int)) = true by simp <;> omega]
    unfold getN
    rw [List.drop_eq_nil_of_le (by omega)]; rfl
theorem sGet {s : List UInt8} (hs : s.length < 2 ^ 60) (i : Int) : spec_GetNumber s i = some (getF s i) := by
  unfold spec_GetNumber getF
  by_cases h0 : 0 ≤ i
  · obtain ⟨k, rfl⟩ := Int.eq_ofNat_of_zero_le h0
    rw [if_pos h0, Int.toNat_natCast, show decide ((k : Int) < 0) = false by simp <;> omega, sGet0 hs]
    by_cases hk : k < s.length
    · rw [show decide ((s.length : Int) ≤ (k : Int)) = false by simp <;> omega]
      simp only [cond_false, Option.bind_some]
      cases getN s k with
      | none => rfl
      | some p =>
        simp only
        rw [show decide ((p.2 : Int) < 0) = false by simp <;> omega]; rfl
    · rw [show decide ((s.length : Int) ≤ (k : Int)) = true by simp <;> omega]
      unfold getN
      rw [List.drop_eq_nil_of_le (by omega)]; rfl
  · rw [if_neg h0, show decide (i < 0) = true by simp <;> omega]; rfl
end Go.VxW
