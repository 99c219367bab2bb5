/-
  The plain law and all that it needs.
-/
import Derived.Test.YtdgiianbihfkoaaVyGF
import Derived.Test.YtdgiianbihfkoaaVaF


open Go Go.VS
namespace Go.VxW
structure Cur (c : L1Cur) (b : Int) : Prop where
  len : c.Code.length ≤ 1048576
  bytes : ∀ x ∈ c.Code, 0 ≤ x ∧ x ≤ 255
  lo : 0 ≤ c.At
  hi : c.At ≤ b
theorem Cur.mono {c : L1Cur} {b d : Int} (h : Cur c b) (hd : b ≤ d) : Cur c d := ⟨h.len, h.bytes, h.lo, by have := h.hi; omega⟩
theorem and255 (k : Int) : 0 ≤ andL .u64 k 255 ∧ andL .u64 k 255 ≤ 255 := by
  have h : (BitVec.ofInt IntKind.u64.bits k &&& BitVec.ofInt IntKind.u64.bits 255).toNat ≤ 255 := by
    rw [BitVec.toNat_and]
    exact Nat.and_le_right
  unfold andL
  rw [IntWalk.u64_in _ (by omega)]
  omega
theorem next_ok {c : L1Cur} {b : Int} (h : Cur c b) (hb : b ≤ 4611686018427387904) : ∃ x d, spec_l1Cur_next c = some (x, d) ∧ (0 ≤ x ∧ x ≤ 255) ∧ Cur d (b + 1) := by
  obtain ⟨h1, h2, h3, h4⟩ := h
  unfold spec_l1Cur_next
  rw [w64 (x := c.At + 1) (by omega)]
  have e : ∃ x5, (bif (decide (c.At < (c.Code.length : Int))) then (idx c.Code c.At).bind fun b10 => some ((IntKind.i64.wrap b10)) else some (0)) = some x5 ∧ 0 ≤ x5 ∧ x5 ≤ 255 := by
    by_cases hc : c.At < c.Code.length
    · rw [show decide (c.At < (c.Code.length : Int)) = true by simpa using hc]
      obtain ⟨n, hn⟩ := Int.eq_ofNat_of_zero_le h3
      rw [hn, idx_lt (show n < c.Code.length by omega)]
      have := h2 _ (List.getElem_mem (show n < c.Code.length by omega))
      simp only [cond_true, Option.bind_some]
      rw [w64 (by omega)]
      exact ⟨_, rfl, this⟩
    · rw [show decide (c.At < (c.Code.length : Int)) = false by simpa using hc]
      exact ⟨0, rfl, by omega, by omega⟩
  obtain ⟨x5, e1, e2⟩ := e
  rw [e1, Option.bind_some]
  cases decide (c.At + 1 ≤ (c.Code.length : Int))
  · refine ⟨_, _, rfl, ?_, ⟨h1, h2, by simp only; omega, by simp only; omega⟩⟩
    have := and255 (shrL .u64 (IntKind.u64.wrap ((IntKind.u64.wrap ((IntKind.u64.wrap (c.Seed * 6364136223846793005)) + (IntKind.u64.wrap x5))) + 1442695040888963407)) 40)
    rw [w64 (by omega)]
    exact this
  · exact ⟨_, _, rfl, e2, ⟨h1, h2, by simp only; omega, by simp only; omega⟩⟩
theorem md_ok {x n : Int} (hx : 0 ≤ x) (hn : 1 < n) : ∃ r, md x n = some r ∧ 0 ≤ r ∧ r < n := by
  unfold md
  rw [if_neg (by omega)]
  refine ⟨_, rfl, ?_, ?_⟩
  · rw [Int.tmod_eq_emod_of_nonneg hx]; exact Int.emod_nonneg _ (by omega)
  · rw [Int.tmod_eq_emod_of_nonneg hx]; exact Int.emod_lt_of_pos _ (by omega)
theorem pick_ok {c : L1Cur} {b n : Int} (h : Cur c b) (hb : b ≤ 4000000000000000000) : ∃ x d, spec_l1Cur_pick c n = some (x, d) ∧ (0 ≤ x ∧ (1 ≤ n → x < n)) ∧ Cur d (b + 2) := by
  unfold spec_l1Cur_pick
  by_cases hn : n ≤ 1
  · rw [show decide (n ≤ 1) = true by simpa using hn]
    exact ⟨0, c, rfl, ⟨by omega, by omega⟩, h.mono (by omega)⟩
  · rw [show decide (n ≤ 1) = false by simpa using hn]
    obtain ⟨x, d, e1, e2, e3⟩ := next_ok h (by omega)
    simp only [cond_false]
    rw [e1, Option.bind_some]
    cases decide (200 < n)
    · simp only [cond_false, Option.bind_some]
      obtain ⟨r, r1, r2, r3⟩ := md_ok (x := x) e2.1 (show 1 < n by omega)
      rw [r1]
      exact ⟨r, _, rfl, ⟨r2, fun _ => r3⟩, e3.mono (by omega)⟩
    · simp only [cond_true]
      obtain ⟨y, d', f1, f2, f3⟩ := next_ok e3 (by omega)
      rw [f1]
      simp only [Option.bind_some]
      rw [w64 (x := x * 256) (by omega), w64 (by omega)]
      obtain ⟨r, r1, r2, r3⟩ := md_ok (x := x * 256 + y) (by omega) (show 1 < n by omega)
      rw [r1]
      exact ⟨r, _, rfl, ⟨r2, fun _ => r3⟩, f3.mono (by omega)⟩
theorem one_ok {c : L1Cur} {b n : Int} (h : Cur c b) (hb : b ≤ 4000000000000000000) : ∃ x d, spec_l1Cur_one c n = some (x, d) ∧ Cur d (b + 2) := by
  obtain ⟨x, d, e1, _, e3⟩ := pick_ok (n := n) h hb
  unfold spec_l1Cur_one
  rw [e1]
  exact ⟨_, _, rfl, e3⟩
theorem among_ok {c : L1Cur} {b : Int} {l : List Int} (h : Cur c b) (hb : b ≤ 4000000000000000000) (hl : l ≠ []) : ∃ x d, spec_l1Cur_among c l = some (x, d) ∧ x ∈ l ∧ Cur d (b + 2) := by
  obtain ⟨x, d, e1, e2, e3⟩ := pick_ok (n := (l.length : Int)) h hb
  have hl' : 1 ≤ l.length := by cases l with | nil => exact absurd rfl hl | cons _ _ => simp
  unfold spec_l1Cur_among
  rw [e1]
  obtain ⟨n, rfl⟩ := Int.eq_ofNat_of_zero_le e2.1
  have hn : n < l.length := by have := e2.2 (by omega); omega
  simp only [Option.bind_some]
  rw [idx_lt hn]
  exact ⟨_, _, rfl, List.getElem_mem hn, e3⟩
theorem cur0 {l : List Int} (hl : l.length ≤ 1048576) (hb : ∀ x ∈ l, 0 ≤ x ∧ x ≤ 255) : Cur ⟨l, 0, 0⟩ 0 := ⟨hl, hb, by simp, by simp⟩
def inB (n a b : Int) : Bool := decide (a ≤ n) && decide (n ≤ b)
theorem sIn (n a b : Int) : spec_l1In n a b = some (inB n a b) := by
  unfold spec_l1In inB; cases decide (a ≤ n) <;> rfl
theorem iIn (n a b : Int) : impl_in n a b = some (inB n a b) := by
  unfold impl_in inB; cases decide (a ≤ n) <;> rfl
theorem inB_iff {n a b : Int} : inB n a b = true ↔ a ≤ n ∧ n ≤ b := by simp [inB]
def leastF (a b : Int) : Int := if a < b then a else b
theorem sLeast (a b : Int) : spec_l1Least a b = some (leastF a b) := by
  unfold spec_l1Least leastF
  by_cases h : a < b
  · rw [show decide (a < b) = true by simpa using h, if_pos h]; rfl
  · rw [show decide (a < b) = false by simpa using h, if_neg h]; rfl
theorem sAll {l : List Int} (hl : l.length ≤ 1048576) (a b : Int) : spec_l1All l a b = some (l.all (inB · a b)) := by
  unfold spec_l1All
  rw [whl_lg l (spec_l1All_l0 l a b) (fun k (_ : Unit) => k) (fun _ x s => if inB x a b then .next s else .done (.done false)) (fun _ => .next ()) (fun k hk s => by
    simp only [spec_l1All_l0]
    rw [dec_t (by omega), idx_lt hk, w64 (by omega)]
    simp only [cond_true, Option.bind_some, sIn]
    cases inB l[k] a b <;> rfl) (fun s => by simp [spec_l1All_l0]) (), lgo_all _ _ (fun _ _ _ => rfl)]
  cases l.all (inB · a b) <;> rfl
theorem ixf_int {l : List Int} (hl : l.length < 2 ^ 60) {g : Int → Option Bool} (p : Int → Bool) (hg : ∀ x ∈ l, g x = some (p x)) : slices_IndexFunc_int l g = some (ixF p l) := by
  unfold slices_IndexFunc_int
  rw [ixf_go p (f := slices_IndexFunc_int_l0 l g) (fun _ => rfl) hl hg]
  have := ixF_ge p l
  by_cases h : ixF p l < 0
  · rw [if_pos h]; simp; omega
  · rw [if_neg h]; rfl
theorem cf_int {l : List Int} (hl : l.length < 2 ^ 60) {g : Int → Option Bool} (p : Int → Bool) (hg : ∀ x ∈ l, g x = some (p x)) : slices_ContainsFunc_int l g = some (l.any p) := by
  unfold slices_ContainsFunc_int
  rw [ixf_int hl p hg, Option.bind_some, ixF_any]
def flowB (l : List Int) : Bool := decide (l.length ≤ 40) && l.all (inB · 0 60)
def rateB (r d : Int) : Bool := inB r 1 20 && inB d 1 60
theorem iFlow {l : List Int} (hl : l.length ≤ 1048576) : impl_isFlow l = some (flowB l) := by
  unfold impl_isFlow flowB
  by_cases h : l.length ≤ 40
  · rw [dec_t (by omega), cond_true, cf_int (by omega) (fun x => !inB x 0 60) (fun x _ => by simp [impl_isFlow_1, iIn])]
    simp [h, List.all_eq_not_any_not]
  · rw [dec_f (by omega)]; simp [h]
theorem sFlow {l : List Int} (hl : l.length ≤ 1048576) : spec_l7Flow l = some (flowB l) := by
  unfold spec_l7Flow flowB
  by_cases h : l.length ≤ 40
  · rw [dec_t (by omega), cond_true, sAll hl]; simp [h]
  · rw [dec_f (by omega)]; simp [h]
theorem iRate (r d : Int) : impl_isRate r d = some (rateB r d) := by
  unfold impl_isRate rateB
  rw [iIn, iIn]
  cases inB r 1 20 <;> rfl
theorem sRate (r d : Int) : spec_l7Rate r d = some (rateB r d) := by
  unfold spec_l7Rate rateB
  rw [sIn, sIn]
  cases inB r 1 20 <;> rfl
theorem flow_iff {l : List Int} (h : flowB l = true) : l.length ≤ 40 ∧ ∀ x ∈ l, 0 ≤ x ∧ x ≤ 60 := by
  unfold flowB at h
  simp only [Bool.and_eq_true, decide_eq_true_eq, List.all_eq_true] at h
  exact ⟨h.1, fun x hx => inB_iff.1 (h.2 x hx)⟩
def okF (r d : Int) : List Int → Int → Int → Bool
  | [], _, _ => true
  | x :: xs, k, s => if d + r * k < s + x then false else okF r d xs (k + 1) (s + x)
def okT (r d : Int) : List Int → Bool
  | [] => true
  | x :: xs => okF r d (x :: xs) 0 0 && okT r d xs
abbrev CR := LR Unit (LR Int (LR Unit (Bool × Bool)))
theorem lgo_okF {r d : Int} {q : CR} {g : Nat → Int → Int → LR Int CR} (hg : ∀ k x s, g k x s = if d + r * k < s + x then .done q else .next (s + x)) (l : List Int) (k : Nat) (s : Int) :
    lgo g (fun _ => .next ()) k l s = if okF r d l k s then .next () else q := by
  induction l generalizing k s with
  | nil => simp [lgo, okF]
  | cons x xs ih =>
    simp only [lgo, hg, okF]
    by_cases h : d + r * k < s + x
    · simp [h]
    · simp only [h, if_false]
      rw [ih]; rfl
theorem mul_small {r : Int} {k : Nat} (hr : 1 ≤ r ∧ r ≤ 20) (hk : k ≤ 40) : 0 ≤ r * (k : Int) ∧ r * (k : Int) ≤ 800 :=
  ⟨Int.mul_nonneg (by omega) (by omega), Int.le_trans (Int.mul_le_mul hr.2 (by omega : (k : Int) ≤ 40) (by omega) (by omega)) (by omega)⟩
theorem iOk {r d : Int} {l : List Int} (hr : 1 ≤ r ∧ r ≤ 20) (hd : 1 ≤ d ∧ d ≤ 60) (h40 : l.length ≤ 40) (hl : ∀ x ∈ l, 0 ≤ x ∧ x ≤ 60) :
    whl (impl_Conforms_l0 r d l) (0, 0) = some (if okF r d l 0 0 then .next () else .done (.done (.done (false, true)))) := by
  rw [whl_lgo l (impl_Conforms_l0 r d l) (fun k (s : Int) => (s, k)) (fun k x s => if d + r * k < s + x then .done (.done (.done (.done (false, true)))) else .next (s + x)) (fun _ => .next ())
    (fun k s => 0 ≤ s ∧ s ≤ 60 * k) (fun k hk s hs => by
    simp only [impl_Conforms_l0]
    rw [dec_t (by omega), idx_lt hk]
    have hx := hl _ (List.getElem_mem hk)
    have hm := mul_small hr (k := k) (by omega)
    simp only [cond_true, Option.bind_some]
    rw [w64 (x := r * (k : Int)) (by omega), w64 (by omega), w64 (by omega), w64 (by omega)]
    by_cases h : d + r * k < s + l[k]
    · rw [dec_t h, if_pos h]; exact ⟨rfl, fun s' h => by simp at h⟩
    · rw [dec_f h, if_neg h]
      refine ⟨rfl, fun s' h => ?_⟩
      simp only [LR.next.injEq] at h
      omega) (fun s _ => by simp [impl_Conforms_l0]) 0 (by simp), lgo_okF (fun _ _ _ => rfl)]
  rfl
theorem sOk {r d : Int} {l : List Int} {i : Nat} (hr : 1 ≤ r ∧ r ≤ 20) (hd : 1 ≤ d ∧ d ≤ 60) (h40 : l.length ≤ 40) (hl : ∀ x ∈ l, 0 ≤ x ∧ x ≤ 60) (hi : i ≤ l.length) :
    whl (spec_Conforms_l0 r d l i) (0, (i : Int)) = some (if okF r d (l.drop i) 0 0 then .next () else .done (.done (.done (false, true)))) := by
  have := whl_lgo (l.drop i) (spec_Conforms_l0 r d l i) (fun k (s : Int) => (s, (i : Int) + k)) (fun k x s => if d + r * k < s + x then .done (.done (.done (.done (false, true)))) else .next (s + x)) (fun _ => .next ())
    (fun k s => 0 ≤ s ∧ s ≤ 60 * k) (fun k hk s hs => by
    rw [List.length_drop] at hk
    simp only [spec_Conforms_l0]
    rw [dec_t (by omega), show (i : Int) + (k : Int) = ((i + k : Nat) : Int) by omega, idx_lt (by omega)]
    have hx := hl _ (List.getElem_mem (show i + k < l.length by omega))
    have hm := mul_small hr (k := k) (by omega)
    simp only [cond_true, Option.bind_some, List.getElem_drop]
    rw [w64 (x := ((i + k : Nat) : Int) - (i : Int)) (by omega), show ((i + k : Nat) : Int) - (i : Int) = k by omega, w64 (x := r * (k : Int)) (by omega), w64 (by omega), w64 (by omega), w64 (by omega)]
    by_cases h : d + r * k < s + l[i + k]
    · rw [dec_t h, if_pos h]; exact ⟨rfl, fun s' h => by simp at h⟩
    · rw [dec_f h, if_neg h]
      refine ⟨by simp only [LR.mapN, cond_false]; rw [show ((i + k : Nat) : Int) + 1 = (i : Int) + ((k : Int) + 1) by omega], fun s' h => ?_⟩
      simp only [LR.next.injEq] at h
      omega) (fun s _ => by
    simp only [spec_Conforms_l0, List.length_drop]
    rw [dec_f (by omega)]; rfl) 0 (by simp)
  rw [show (i : Int) + 0 = i by omega] at this
  rw [this, lgo_okF (fun _ _ _ => rfl)]
  rfl
def conF (r d : Int) (l : List Int) : Bool × Bool := if rateB r d && flowB l then (okT r d l, true) else (false, false)
abbrev CQ := LR Unit (Bool × Bool)
theorem lgo_okT {r d : Int} {l0 : List Int} {q : CQ} {g : Nat → Int → Unit → LR Unit CQ} (hg : ∀ k x s, g k x s = if okF r d (l0.drop k) 0 0 then .next () else .done q) (l : List Int) (k : Nat) (s : Unit) (hl : l0.drop k = l) :
    lgo g (fun _ => .next ()) k l s = if okT r d l then .next () else q := by
  induction l generalizing k s with
  | nil => simp [lgo, okT]
  | cons x xs ih =>
    simp only [lgo, hg, okT, hl]
    by_cases h : okF r d (x :: xs) 0 0 = true
    · simp only [h, if_true, Bool.true_and]
      rw [ih (k + 1) () (by rw [← List.drop_drop, hl]; rfl)]
    · simp [h]
theorem iCon {r d : Int} {l : List Int} (hl : l.length ≤ 1048576) : impl_Conforms r d l = some (conF r d l) := by
  unfold impl_Conforms conF
  rw [iRate, iFlow hl]
  cases hr : rateB r d
  · rfl
  cases hf : flowB l
  · rfl
  obtain ⟨f1, f2⟩ := flow_iff hf
  unfold rateB at hr
  simp only [Bool.and_eq_true, inB_iff] at hr
  simp only [Option.bind_some, Bool.not_true, cond_false, Bool.and_self, if_true]
  rw [whl_lg l (impl_Conforms_l1 r d l) (fun k (_ : Unit) => k) (fun k _ _ => if okF r d (l.drop k) 0 0 then .next () else .done (.done (false, true))) (fun _ => .next ()) (fun k hk s => by
    simp only [impl_Conforms_l1]
    rw [dec_t (by omega), slc_in (by omega) (by omega) (by omega)]
    simp only [cond_true, Option.bind_some, Int.toNat_natCast]
    rw [List.take_of_length_le (by simp), iOk hr.1 hr.2 (by simp <;> omega) (fun x hx => f2 x (List.mem_of_mem_drop hx)), w64 (by omega)]
    cases okF r d (l.drop k) 0 0 <;> rfl) (fun s => by simp [impl_Conforms_l1]) (), lgo_okT (fun _ _ _ => rfl) _ _ _ (by simp)]
  cases okT r d l <;> rfl
theorem sCon {r d : Int} {l : List Int} (hl : l.length ≤ 1048576) : spec_Conforms r d l = some (conF r d l) := by
  unfold spec_Conforms conF
  rw [sRate, sFlow hl]
  cases hr : rateB r d
  · rfl
  cases hf : flowB l
  · rfl
  obtain ⟨f1, f2⟩ := flow_iff hf
  unfold rateB at hr
  simp only [Bool.and_eq_true, inB_iff] at hr
  simp only [Option.bind_some, Bool.not_true, cond_false, Bool.and_self, if_true]
  rw [whl_lg l (spec_Conforms_l1 r d l) (fun k (_ : Unit) => k) (fun k _ _ => if okF r d (l.drop k) 0 0 then .next () else .done (.done (false, true))) (fun _ => .next ()) (fun k hk s => by
    simp only [spec_Conforms_l1]
    rw [dec_t (by omega)]
    simp only [cond_true]
    rw [sOk hr.1 hr.2 f1 f2 (by omega), w64 (by omega)]
    cases okF r d (l.drop k) 0 0 <;> rfl) (fun s => by simp [spec_Conforms_l1]) (), lgo_okT (fun _ _ _ => rfl) _ _ _ (by simp)]
  cases okT r d l <;> rfl
theorem least_le (a b : Int) : leastF a b ≤ a ∧ leastF a b ≤ b ∧ (leastF a b = a ∨ leastF a b = b) := by unfold leastF; split <;> omega
def sumL : List Int → Int
  | [] => 0
  | x :: xs => x + sumL xs
theorem sumL_fold (l : List Int) (s : Int) : l.foldl (· + ·) s = s + sumL l := by
  induction l generalizing s with
  | nil => simp [sumL]
  | cons x xs ih => simp only [List.foldl_cons, sumL]; rw [ih]; omega
theorem sum_go {l : List Int} (hl : l.length ≤ 1048576) (hb : ∀ x ∈ l, -1000000000000 ≤ x ∧ x ≤ 1000000000000) {f : Int × Int → Option (LR (Int × Int) Int)}
    (hs : ∀ (k : Nat) (hk : k < l.length) (s : Int), f (s, k) = some (.next (IntKind.i64.wrap (s + l[k]), (k : Int) + 1))) (hz : ∀ s, f (s, l.length) = some (.done s)) : whl f (0, 0) = some (sumL l) := by
  have := whl_lgo l f (fun k s => (s, k)) (fun _ x s => .next (s + x)) (fun s => s) (fun k s => -1000000000000 * (k : Int) ≤ s ∧ s ≤ 1000000000000 * k) (fun k hk s hi => by
    have hx := hb _ (List.getElem_mem hk)
    rw [hs k hk, w64 (by omega)]
    refine ⟨rfl, fun s' h => ?_⟩
    simp only [LR.next.injEq] at h
    omega) (fun s _ => hz s) 0 (by simp)
  rw [this, lgo_fold (· + ·) (fun _ _ _ => rfl), sumL_fold]
  simp
theorem sameI {l : List Int} (hl : l.length ≤ 1048576) : laws_sameInts l l = some true := by
  unfold laws_sameInts
  rw [eqS_go (l := l) (fun k hk => by
    simp only [laws_sameInts_l0]
    rw [dec_t (by omega), idx_lt hk, w64 (by omega)]
    simp) (by simp [laws_sameInts_l0])]
  simp
theorem sameIs {a b : List Int} (ha : a.length ≤ 1048576) : laws_sameInts a b = some (decide (a = b)) := by
  unfold laws_sameInts
  by_cases hl : a.length = b.length
  · rw [show ((a.length : Int) != (b.length : Int)) = false by simp [hl]]
    simp only [cond_false]
    have go : ∀ (n k : Nat), k + n = a.length → whl (laws_sameInts_l0 a b) (k : Int) = some (if a.drop k = b.drop k then .next () else .done false) := by
      intro n
      induction n with
      | zero =>
        intro k hk
        rw [whl_eq]
        simp only [laws_sameInts_l0]
        rw [dec_f (by omega), List.drop_eq_nil_of_le (by omega), List.drop_eq_nil_of_le (by omega)]
        simp
      | succ n ih =>
        intro k hk
        have h1 : k < a.length := by omega
        have h2 : k < b.length := by omega
        rw [whl_eq]
        simp only [laws_sameInts_l0]
        rw [dec_t (by omega), idx_lt h1, idx_lt h2, List.drop_eq_getElem_cons h1, List.drop_eq_getElem_cons h2]
        simp only [cond_true, Option.bind_some]
        by_cases he : a[k] = b[k]
        · rw [show (a[k] != b[k]) = false by simp [he], w64 (by omega), show (k : Int) + 1 = ((k + 1 : Nat) : Int) by omega]
          simp only [cond_false, Option.bind_some]
          rw [ih (k + 1) (by omega)]
          by_cases hd : a.drop (k + 1) = b.drop (k + 1)
          · rw [if_pos hd, if_pos (by rw [he, hd])]
          · rw [if_neg hd, if_neg (fun h => hd (List.cons.inj h).2)]
        · rw [show (a[k] != b[k]) = true by simp [he], if_neg (fun h => he (List.cons.inj h).1)]
          rfl
    have := go a.length 0 (by omega)
    rw [show ((0 : Nat) : Int) = 0 from rfl] at this
    rw [this]
    simp only [List.drop_zero]
    by_cases he : a = b
    · rw [if_pos he, dec_t he]; rfl
    · rw [if_neg he, dec_f he]; rfl
  · rw [show ((a.length : Int) != (b.length : Int)) = true by simp <;> omega, dec_f (fun h => hl (congrArg List.length h))]; rfl
theorem pick_t {c : L1Cur} {b n : Int} (h : Cur c b) (hb : b ≤ 4000000000000000000) : Tot (spec_l1Cur_pick c n) fun r => 0 ≤ r.1 ∧ (1 ≤ n → r.1 < n) ∧ Cur r.2 (b + 2) := by
  obtain ⟨x, d, e, ⟨h1, h2⟩, h3⟩ := pick_ok (n := n) h hb
  exact ⟨_, e, h1, h2, h3⟩
theorem one_t {c : L1Cur} {b n : Int} (h : Cur c b) (hb : b ≤ 4000000000000000000) : Tot (spec_l1Cur_one c n) fun r => Cur r.2 (b + 2) := by
  obtain ⟨x, d, e, h3⟩ := one_ok (n := n) h hb
  exact ⟨_, e, h3⟩
theorem among_t {c : L1Cur} {b : Int} {l : List Int} (h : Cur c b) (hb : b ≤ 4000000000000000000) (hl : l ≠ []) : Tot (spec_l1Cur_among c l) fun r => r.1 ∈ l ∧ Cur r.2 (b + 2) := by
  obtain ⟨x, d, e, h2, h3⟩ := among_ok h hb hl
  exact ⟨_, e, h2, h3⟩
theorem flow_t {c : L1Cur} {b : Int} (h : Cur c b) (hb : b ≤ 2000000000000000000) : Tot (spec_l1Cur_flow c) fun r => r.1.length ≤ 41 ∧ Cur r.2 (b + 200) := by
  unfold spec_l1Cur_flow
  refine Tot.then (pick_t (by assumption) (by omega)) ?_
  rintro ⟨x, c_x⟩ ⟨x_0, x_1, x_c⟩
  dsimp only at x_0 x_1 x_c ⊢
  have x_2 := x_1 (by omega)
  refine Tot.then (one_t (by assumption) (by omega)) ?_
  rintro ⟨y, c_y⟩ y_c
  dsimp only at y_c ⊢
  refine Tot.then (P := fun r => (0 ≤ r.1 ∧ r.1 ≤ 41) ∧ Cur ⟨r.2.1, r.2.2.1, r.2.2.2⟩ (b + 10)) ?_ ?_
  · refine Tot.cnd (fun hc => ?_) (fun hc => ?_)
    · refine Tot.then (pick_t (by assumption) (by omega)) ?_
      rintro ⟨z, c_z⟩ ⟨z_0, z_1, z_c⟩
      dsimp only at z_0 z_1 z_c ⊢
      have z_2 := z_1 (by omega)
      rw [w64 (by omega)]
      exact .ret ⟨(by first | omega | (dsimp only; omega)), z_c.mono (by omega)⟩
    · exact .ret ⟨(by first | omega | (dsimp only; omega)), y_c.mono (by omega)⟩
  · rintro ⟨n, co, a, se⟩ ⟨hn, hc0⟩
    dsimp only at hn hc0 ⊢
    refine Tot.then (P := fun r => r.1.length ≤ 41 ∧ Cur ⟨r.2.1, r.2.2.1, r.2.2.2⟩ (b + 100)) (Tot.whl (fun s => s.2.1.toNat) (fun s => ((0 ≤ s.2.1 ∧ s.2.1 ≤ 41) ∧ s.1.length + s.2.1.toNat ≤ 41) ∧ Cur ⟨s.2.2.1, s.2.2.2.1, s.2.2.2.2⟩ (b + 10 + 2 * (41 - s.2.1))) ?_ ⟨⟨(by first | omega | (dsimp only; omega)), by simp only [List.length_nil]; omega⟩, hc0.mono (by first | omega | (dsimp only; omega))⟩) ?_
    · rintro ⟨l, n, co, a, se⟩ ⟨⟨h1, h2⟩, hc0⟩
      dsimp only at h1 h2 hc0 ⊢
      unfold spec_l1Cur_flow_l0
      dsimp only
      refine Tot.cnd (fun hc => ?_) (fun hc => ?_)
      · simp only [decide_eq_true_eq] at hc
        refine Tot.then (among_t (by assumption) (by omega) (by simp)) ?_
        rintro ⟨y, c_y⟩ ⟨y_m, y_c⟩
        dsimp only at y_m y_c ⊢
        rw [app_in (by simp <;> omega) (by omega), Option.bind_some, w64 (by omega)]
        exact .ret ⟨⟨⟨(by first | omega | (dsimp only; omega)), by simp only [List.length_append, List.length_singleton]; omega⟩, y_c.mono (by first | omega | (dsimp only; omega))⟩, (by first | omega | (dsimp only; omega))⟩
      · simp only [decide_eq_false_iff_not, Int.not_lt] at hc
        exact .ret ⟨(by first | omega | (dsimp only; omega)), hc0.mono (by first | omega | (dsimp only; omega))⟩
    · rintro ⟨l, co, a, se⟩ ⟨h1, hc0⟩
      dsimp only at h1 hc0 ⊢
      refine Tot.then (P := fun r => (r.1 = true → 1 ≤ l.length) ∧ Cur ⟨r.2.1, r.2.2.1, r.2.2.2⟩ (b + 110)) ?_ ?_
      · refine Tot.cnd (fun hc => ?_) (fun hc => ?_)
        · simp only [decide_eq_true_eq] at hc
          refine Tot.then (one_t (by assumption) (by omega)) ?_
          rintro ⟨y, c_y⟩ y_c
          dsimp only at y_c ⊢
          exact .ret ⟨fun _ => (by first | omega | (dsimp only; omega)), y_c.mono (by first | omega | (dsimp only; omega))⟩
        · exact .ret ⟨fun h => by simp at h, hc0.mono (by first | omega | (dsimp only; omega))⟩
      · rintro ⟨t, co, a, se⟩ ⟨h3, hc3⟩
        dsimp only at h3 hc3 ⊢
        refine Tot.then (P := fun r => r.1.length ≤ 41 ∧ Cur ⟨r.2.1, r.2.2.1, r.2.2.2⟩ (b + 200)) ?_ ?_
        · refine Tot.cnd (fun hc => ?_) (fun hc => ?_)
          · have := h3 hc
            refine Tot.then (among_t (by assumption) (by omega) (by simp)) ?_
            rintro ⟨y, c_y⟩ ⟨y_m, y_c⟩
            dsimp only at y_m y_c ⊢
            rw [idx_in (by omega) (by omega)]
            simp only [Option.bind_some]
            exact .ret ⟨by simp only [List.length_set]; omega, y_c.mono (by omega)⟩
          · exact .ret ⟨h1, hc3.mono (by omega)⟩
        · rintro ⟨l', co', a', se'⟩ ⟨h4, hc4⟩
          exact .ret ⟨h4, hc4⟩
theorem rate_t {c : L1Cur} {b : Int} (h : Cur c b) (hb : b ≤ 2000000000000000000) : Tot (spec_l1Cur_rate c) fun r => ((0 ≤ r.1 ∧ r.1 ≤ 21) ∧ 0 ≤ r.2.1 ∧ r.2.1 ≤ 61) ∧ Cur r.2.2 (b + 10) := by
  unfold spec_l1Cur_rate
  refine Tot.then (one_t (by assumption) (by omega)) ?_
  rintro ⟨x, c_x⟩ x_c
  dsimp only at x_c ⊢
  refine Tot.cnd (fun hc => ?_) (fun hc => ?_)
  · refine Tot.then (among_t (by assumption) (by omega) (by simp)) ?_
    rintro ⟨y, c_y⟩ ⟨y_m, y_c⟩
    dsimp only at y_m y_c ⊢
    refine Tot.then (among_t (by assumption) (by omega) (by simp)) ?_
    rintro ⟨z, c_z⟩ ⟨z_m, z_c⟩
    dsimp only at z_m z_c ⊢
    simp at y_m z_m
    exact .ret ⟨⟨(by first | omega | (dsimp only; omega)), (by first | omega | (dsimp only; omega))⟩, z_c.mono (by omega)⟩
  · refine Tot.then (pick_t (by assumption) (by omega)) ?_
    rintro ⟨y, c_y⟩ ⟨y_0, y_1, y_c⟩
    dsimp only at y_0 y_1 y_c ⊢
    refine Tot.then (pick_t (by assumption) (by omega)) ?_
    rintro ⟨z, c_z⟩ ⟨z_0, z_1, z_c⟩
    dsimp only at z_0 z_1 z_c ⊢
    have := y_1 (by omega)
    have := z_1 (by omega)
    rw [w64 (by omega), w64 (by omega)]
    exact .ret ⟨⟨(by first | omega | (dsimp only; omega)), (by first | omega | (dsimp only; omega))⟩, z_c.mono (by omega)⟩
def bktB (b : Bucket) : Bool := rateB b.Rate b.Depth && inB b.Has 0 b.Depth
theorem iBkt (b : Bucket) : impl_GoodBucket b = some (bktB b) := by
  unfold impl_GoodBucket bktB
  rw [iRate, iIn]
  cases rateB b.Rate b.Depth <;> rfl
theorem sBkt (b : Bucket) : spec_GoodBucket b = some (bktB b) := by
  unfold spec_GoodBucket bktB
  rw [sRate, sIn]
  cases rateB b.Rate b.Depth <;> rfl
theorem rate_iff {r d : Int} : rateB r d = true ↔ (1 ≤ r ∧ r ≤ 20) ∧ 1 ≤ d ∧ d ≤ 60 := by
  unfold rateB
  rw [Bool.and_eq_true, inB_iff, inB_iff]
theorem bkt_iff {b : Bucket} : bktB b = true ↔ ((1 ≤ b.Rate ∧ b.Rate ≤ 20) ∧ 1 ≤ b.Depth ∧ b.Depth ≤ 60) ∧ 0 ≤ b.Has ∧ b.Has ≤ b.Depth := by
  unfold bktB
  rw [Bool.and_eq_true, inB_iff, rate_iff]
def tickB (b : Bucket) : Bucket := ⟨b.Rate, b.Depth, leastF b.Depth (b.Has + b.Rate)⟩
def tickLF (b : Bucket) : Bucket × Bool := if bktB b then (tickB b, true) else (⟨0, 0, 0⟩, false)
theorem tick_good {b : Bucket} (h : bktB b = true) : bktB (tickB b) = true := by
  rw [bkt_iff] at h ⊢
  have := least_le b.Depth (b.Has + b.Rate)
  unfold tickB
  dsimp only
  omega
theorem iTick (b : Bucket) : impl_TickBucket b = some (tickLF b) := by
  unfold impl_TickBucket tickLF
  rw [iBkt]
  cases h : bktB b
  · rfl
  · rw [bkt_iff] at h
    simp only [Option.bind_some, Bool.not_true, cond_false, if_true]
    rw [w64 (by omega)]
    rfl
theorem sTick {b : Bucket} (h : bktB b = true) : spec_l7Tick b = some (tickB b) := by
  rw [bkt_iff] at h
  unfold spec_l7Tick
  rw [sLeast, w64 (by omega)]; rfl
theorem sTickA (b : Bucket) : spec_TickBucket b = some (tickLF b) := by
  unfold spec_TickBucket tickLF
  rw [sBkt]
  cases h : bktB b
  · rfl
  · simp only [Option.bind_some, Bool.not_true, cond_false]
    rw [sTick h]; rfl
def takeLF (b : Bucket) (m : Int) : Bucket × Bool := if bktB b && inB m 0 b.Has then (⟨b.Rate, b.Depth, b.Has - m⟩, true) else (⟨0, 0, 0⟩, false)
theorem iTake (b : Bucket) (m : Int) : impl_TakeBucket b m = some (takeLF b m) ∧ spec_TakeBucket b m = some (takeLF b m) := by
  unfold impl_TakeBucket spec_TakeBucket takeLF
  rw [iBkt, sBkt, iIn, sIn]
  cases h : bktB b
  · exact ⟨rfl, rfl⟩
  · rw [bkt_iff] at h
    by_cases hm : 0 ≤ m ∧ m ≤ b.Has
    · rw [inB_iff.2 hm, inB_iff.2 (show 0 ≤ m ∧ m ≤ 60 by omega), dec_f (by omega), w64 (by omega)]
      exact ⟨rfl, rfl⟩
    · have e : inB m 0 b.Has = false := by rw [← Bool.not_eq_true, inB_iff]; exact hm
      rw [e]
      refine ⟨?_, rfl⟩
      cases h60 : inB m 0 60
      · rfl
      · rw [inB_iff] at h60
        rw [dec_t (by omega)]; rfl
def newLF (r d : Int) : Bucket × Bool := if rateB r d then (⟨r, d, d⟩, true) else (⟨0, 0, 0⟩, false)
theorem iNewB (r d : Int) : impl_NewBucket r d = some (newLF r d) := by
  unfold impl_NewBucket newLF
  rw [iRate]
  cases rateB r d <;> rfl
theorem sNewB (r d : Int) : spec_NewBucket r d = some (newLF r d) := by
  unfold spec_NewBucket newLF
  rw [sRate]
  cases rateB r d <;> rfl
def shF (r d : Int) : List Int → Int → Int → List Int × List Int
  | [], _, _ => ([], [])
  | x :: xs, w, h => (leastF (w + x) h :: (shF r d xs (w + x - leastF (w + x) h) (leastF d (h - leastF (w + x) h + r))).1, (w + x - leastF (w + x) h) :: (shF r d xs (w + x - leastF (w + x) h) (leastF d (h - leastF (w + x) h + r))).2)
/-- The state ahead of a tick: what went, what waited, what waits, what the bucket had behind the last tick (full ahead of the first). -/
def shU (r d : Int) (k : Nat) (x : Int) (s : List Int × List Int × Int × Int) : List Int × List Int × Int × Int :=
  let h := if k = 0 then s.2.2.2 else leastF d (s.2.2.2 + r)
  (s.1 ++ [leastF (s.2.2.1 + x) h], s.2.1 ++ [s.2.2.1 + x - leastF (s.2.2.1 + x) h], s.2.2.1 + x - leastF (s.2.2.1 + x) h, h - leastF (s.2.2.1 + x) h)
theorem sh_lgo {r d : Int} : ∀ (l : List Int) (k : Nat) (a b : List Int) (w h : Int), (k = 0 → True) →
    lgo (fun k x s => .next (shU r d k x s)) (fun s => (s.1, s.2.1)) k l (a, b, w, h) = (a ++ (shF r d l w (if k = 0 then h else leastF d (h + r))).1, b ++ (shF r d l w (if k = 0 then h else leastF d (h + r))).2)
  | [], k, a, b, w, h, _ => by simp [lgo, shF]
  | x :: xs, k, a, b, w, h, _ => by
    simp only [lgo, shF]
    have := sh_lgo (r := r) (d := d) xs (k + 1) (a ++ [leastF (w + x) (if k = 0 then h else leastF d (h + r))]) (b ++ [w + x - leastF (w + x) (if k = 0 then h else leastF d (h + r))]) (w + x - leastF (w + x) (if k = 0 then h else leastF d (h + r))) ((if k = 0 then h else leastF d (h + r)) - leastF (w + x) (if k = 0 then h else leastF d (h + r))) (fun _ => trivial)
    rw [if_neg (show ¬ k + 1 = 0 by omega)] at this
    have e : shU r d k x (a, b, w, h) = (a ++ [leastF (w + x) (if k = 0 then h else leastF d (h + r))], b ++ [w + x - leastF (w + x) (if k = 0 then h else leastF d (h + r))], w + x - leastF (w + x) (if k = 0 then h else leastF d (h + r)), (if k = 0 then h else leastF d (h + r)) - leastF (w + x) (if k = 0 then h else leastF d (h + r))) := rfl
    rw [e, this]
    simp
def shapeLF (r d : Int) (l : List Int) : List Int × List Int × Bool := if rateB r d && flowB l then ((shF r d l 0 d).1, (shF r d l 0 d).2, true) else ([], [], false)
theorem shU_in {r d : Int} (hr : 1 ≤ r ∧ r ≤ 20) {k : Nat} {x : Int} {s : List Int × List Int × Int × Int} (hx : 0 ≤ x ∧ x ≤ 60) (h : s.1.length = k ∧ s.2.1.length = k ∧ (0 ≤ s.2.2.1 ∧ s.2.2.1 ≤ 60 * k) ∧ 0 ≤ s.2.2.2 ∧ s.2.2.2 ≤ d) :
    (shU r d k x s).1.length = k + 1 ∧ (shU r d k x s).2.1.length = k + 1 ∧ (0 ≤ (shU r d k x s).2.2.1 ∧ (shU r d k x s).2.2.1 ≤ 60 * (k + 1 : Nat)) ∧ 0 ≤ (shU r d k x s).2.2.2 ∧ (shU r d k x s).2.2.2 ≤ d := by
  unfold shU
  dsimp only
  have h1 := least_le d (s.2.2.2 + r)
  generalize hh : (if k = 0 then s.2.2.2 else leastF d (s.2.2.2 + r)) = h0
  have h2 : 0 ≤ h0 ∧ h0 ≤ d := by rw [← hh]; split <;> omega
  have h3 := least_le (s.2.2.1 + x) h0
  simp only [List.length_append, List.length_singleton]
  omega
theorem iShape {r d : Int} {l : List Int} (hl : l.length ≤ 1048576) : impl_ShapeFlow r d l = some (shapeLF r d l) := by
  unfold impl_ShapeFlow shapeLF
  rw [iNewB, iFlow hl]
  unfold newLF
  cases hr : rateB r d
  · rfl
  cases hf : flowB l
  · rfl
  obtain ⟨f1, f2⟩ := flow_iff hf
  rw [rate_iff] at hr
  simp only [if_true, Option.bind_some, Bool.not_true, cond_false, Bool.and_self, impl_serve__impl_ShapeFlow_1]
  rw [whl_lgo l (impl_serve__impl_ShapeFlow_1_l0 l) (fun k (s : List Int × List Int × Int × Int) => (s.1, s.2.1, s.2.2.1, k, r, d, s.2.2.2)) (fun k x s => .next (shU r d k x s)) (fun s => (s.1, s.2.1, r, d, s.2.2.2))
    (fun k s => s.1.length = k ∧ s.2.1.length = k ∧ (0 ≤ s.2.2.1 ∧ s.2.2.1 ≤ 60 * k) ∧ 0 ≤ s.2.2.2 ∧ s.2.2.2 ≤ d) (fun k hk s hs => by
    have hx := f2 _ (List.getElem_mem hk)
    have hin := shU_in (r := r) (d := d) hr.1 hx hs
    refine ⟨?_, fun s' h => by simp only [LR.next.injEq] at h; subst h; exact hin⟩
    simp only [impl_serve__impl_ShapeFlow_1_l0, impl_ShapeFlow_1]
    rw [dec_t (by omega), idx_lt hk]
    simp only [cond_true, Option.bind_some]
    have hb : bktB ⟨r, d, s.2.2.2⟩ = true := bkt_iff.2 ⟨hr, hs.2.2.2⟩
    rw [iTick, w64 (x := s.2.2.1 + l[k]) (by omega)]
    have e : (bif decide (0 < (k : Int)) then (some (tickLF ⟨r, d, s.2.2.2⟩)).bind (fun x => some (x.1.Rate, x.1.Depth, x.1.Has)) else some (r, d, s.2.2.2)) = some (r, d, if k = 0 then s.2.2.2 else leastF d (s.2.2.2 + r)) := by
      unfold tickLF
      rw [hb]
      by_cases h0 : k = 0
      · rw [dec_f (by omega), if_pos h0]; rfl
      · rw [dec_t (by omega), if_neg h0]; rfl
    rw [e]
    simp only [Option.bind_some]
    have hu : shU r d k l[k] s = shU r d k l[k] s := rfl
    unfold shU at hin ⊢
    dsimp only at hin ⊢
    generalize (if k = 0 then s.2.2.2 else leastF d (s.2.2.2 + r)) = h0 at hin ⊢
    have el : (if h0 < s.2.2.1 + l[k] then h0 else s.2.2.1 + l[k]) = leastF (s.2.2.1 + l[k]) h0 := by unfold leastF; split <;> split <;> omega
    rw [el]
    have hle := least_le (s.2.2.1 + l[k]) h0
    rw [app_in (by simp <;> omega) (by omega)]
    simp only [Option.bind_some]
    rw [app_in (by simp <;> omega) (by omega)]
    simp only [Option.bind_some]
    rw [w64 (by omega), w64 (by omega), w64 (by omega)]
    rfl) (fun s _ => by simp [impl_serve__impl_ShapeFlow_1_l0]) ([], [], 0, d) (by simp <;> omega)]
  have := sh_lgo (r := r) (d := d) l 0 [] [] 0 d (fun _ => trivial)
  have e2 : ∀ (l : List Int) (k : Nat) (s : List Int × List Int × Int × Int), ∃ q, lgo (fun k x s => LR.next (shU r d k x s)) (fun s => (s.1, s.2.1, r, d, s.2.2.2)) k l s = ((lgo (fun k x s => LR.next (shU r d k x s)) (fun s => (s.1, s.2.1)) k l s).1, (lgo (fun k x s => LR.next (shU r d k x s)) (fun s => (s.1, s.2.1)) k l s).2, r, d, q) := by
    intro l
    induction l with
    | nil => intro k s; exact ⟨s.2.2.2, rfl⟩
    | cons x xs ih => intro k s; simp only [lgo]; exact ih (k + 1) _
  obtain ⟨q, hq⟩ := e2 l 0 ([], [], 0, d)
  rw [hq, this]
  simp
theorem sShape {r d : Int} {l : List Int} (hl : l.length ≤ 1048576) : spec_ShapeFlow r d l = some (shapeLF r d l) := by
  unfold spec_ShapeFlow shapeLF
  rw [sNewB, sFlow hl]
  unfold newLF
  cases hr : rateB r d
  · rfl
  cases hf : flowB l
  · rfl
  obtain ⟨f1, f2⟩ := flow_iff hf
  rw [rate_iff] at hr
  simp only [if_true, Option.bind_some, Bool.not_true, cond_false, Bool.and_self]
  rw [whl_lgo l (spec_ShapeFlow_l0 l) (fun k (s : List Int × List Int × Int × Int) => (s.1, s.2.1, s.2.2.1, k, r, d, s.2.2.2)) (fun k x s => .next (shU r d k x s)) (fun s => (s.1, s.2.1))
    (fun k s => s.1.length = k ∧ s.2.1.length = k ∧ (0 ≤ s.2.2.1 ∧ s.2.2.1 ≤ 60 * k) ∧ 0 ≤ s.2.2.2 ∧ s.2.2.2 ≤ d) (fun k hk s hs => by
    have hx := f2 _ (List.getElem_mem hk)
    have hin := shU_in (r := r) (d := d) hr.1 hx hs
    refine ⟨?_, fun s' h => by simp only [LR.next.injEq] at h; subst h; exact hin⟩
    simp only [spec_ShapeFlow_l0]
    rw [dec_t (by omega), idx_lt hk]
    simp only [cond_true, Option.bind_some]
    have hb : bktB ⟨r, d, s.2.2.2⟩ = true := bkt_iff.2 ⟨hr, hs.2.2.2⟩
    rw [sTick hb, w64 (x := s.2.2.1 + l[k]) (by omega)]
    have e : (bif decide (0 < (k : Int)) then (some (tickB ⟨r, d, s.2.2.2⟩)).bind (fun x => some (x.Rate, x.Depth, x.Has)) else some (r, d, s.2.2.2)) = some (r, d, if k = 0 then s.2.2.2 else leastF d (s.2.2.2 + r)) := by
      by_cases h0 : k = 0
      · rw [dec_f (by omega), if_pos h0]; rfl
      · rw [dec_t (by omega), if_neg h0]; rfl
    rw [e]
    simp only [Option.bind_some]
    unfold shU at hin ⊢
    dsimp only at hin ⊢
    generalize (if k = 0 then s.2.2.2 else leastF d (s.2.2.2 + r)) = h0 at hin ⊢
    have hle := least_le (s.2.2.1 + l[k]) h0
    rw [sLeast]
    simp only [Option.bind_some]
    rw [app_in (by simp <;> omega) (by omega)]
    simp only [Option.bind_some]
    rw [app_in (by simp <;> omega) (by omega)]
    simp only [Option.bind_some]
    rw [w64 (by omega), w64 (by omega), w64 (by omega)]
    rfl) (fun s _ => by simp [spec_ShapeFlow_l0]) ([], [], 0, d) (by simp <;> omega), sh_lgo (r := r) (d := d) l 0 [] [] 0 d (fun _ => trivial)]
  simp
def fitF (r d : Int) : List Int → Int → Bool
  | [], _ => true
  | x :: xs, h => decide (x ≤ h) && fitF r d xs (leastF d (h - x + r))
theorem okF_shift (r h : Int) : ∀ (l : List Int) (k s : Int), okF r h l k s = okF r (h + r * k - s) l 0 0
  | [], _, _ => rfl
  | x :: xs, k, s => by
    simp only [okF]
    rw [okF_shift r h xs (k + 1) (s + x), okF_shift r (h + r * k - s) xs (0 + 1) (0 + x)]
    have e : h + r * (k + 1) - (s + x) = h + r * k - s + r * (0 + 1) - (0 + x) := by rw [Int.mul_add, Int.mul_add, Int.mul_one]; omega
    rw [e]
    by_cases hc : h + r * k < s + x
    · rw [if_pos hc, if_pos (by omega)]
    · rw [if_neg hc, if_neg (by omega)]
theorem okF_mono {r h h' : Int} (hh : h ≤ h') : ∀ (l : List Int) (k s : Int), okF r h l k s = true → okF r h' l k s = true
  | [], _, _, _ => rfl
  | x :: xs, k, s, hk => by
    simp only [okF] at hk ⊢
    split at hk
    · simp at hk
    · rw [if_neg (by omega)]
      exact okF_mono hh xs _ _ hk
theorem okT_head {r d : Int} {l : List Int} (h : okT r d l = true) : okF r d l 0 0 = true := by
  cases l with
  | nil => rfl
  | cons x xs => simp only [okT, Bool.and_eq_true] at h; exact h.1
theorem okF_step (r h x : Int) (xs : List Int) : okF r h (x :: xs) 0 0 = (decide (x ≤ h) && okF r (h - x + r) xs 0 0) := by
  simp only [okF]
  rw [okF_shift r h xs (0 + 1) (0 + x)]
  have e : h + r * (0 + 1) - (0 + x) = h - x + r := by rw [Int.mul_add]; omega
  rw [e]
  by_cases hc : x ≤ h
  · rw [dec_t hc, if_neg (by omega)]; rfl
  · rw [dec_f hc, if_pos (by omega)]; rfl
theorem fit_ok {r d : Int} : ∀ (l : List Int) (h : Int), h ≤ d → fitF r d l h = (okF r h l 0 0 && okT r d l)
  | [], _, _ => rfl
  | x :: xs, h, hh => by
    have hle := least_le d (h - x + r)
    simp only [fitF, okT]
    rw [fit_ok xs _ hle.1, okF_step, okF_step]
    by_cases hx : x ≤ h
    · rw [dec_t hx, dec_t (p := x ≤ d) (by omega)]
      simp only [Bool.true_and]
      rw [Bool.eq_iff_iff]
      simp only [Bool.and_eq_true]
      constructor
      · rintro ⟨h1, h2⟩
        have h3 := okF_mono hle.2.1 xs 0 0 h1
        exact ⟨h3, okF_mono (by omega) xs 0 0 h3, h2⟩
      · rintro ⟨h1, _, h3⟩
        refine ⟨?_, h3⟩
        rcases hle.2.2 with he | he
        · rw [he]; exact okT_head h3
        · rw [he]; exact h1
    · rw [dec_f hx]; rfl
theorem sh_len (r d : Int) : ∀ (l : List Int) (w h : Int), (shF r d l w h).1.length = l.length ∧ (shF r d l w h).2.length = l.length
  | [], _, _ => ⟨rfl, rfl⟩
  | x :: xs, w, h => by
    have := sh_len r d xs (w + x - leastF (w + x) h) (leastF d (h - leastF (w + x) h + r))
    simp [shF, this.1, this.2]
theorem sh_fit {r d : Int} : ∀ (l : List Int) (h : Int), (shF r d l 0 h).1 = l ↔ fitF r d l h = true
  | [], _ => by simp [shF, fitF]
  | x :: xs, h => by
    have hle := least_le (0 + x) h
    have e1 : (shF r d (x :: xs) 0 h).1 = leastF (0 + x) h :: (shF r d xs (0 + x - leastF (0 + x) h) (leastF d (h - leastF (0 + x) h + r))).1 := rfl
    have e2 : fitF r d (x :: xs) h = (decide (x ≤ h) && fitF r d xs (leastF d (h - x + r))) := rfl
    rw [e1, e2]
    by_cases hx : x ≤ h
    · have e : leastF (0 + x) h = x := by unfold leastF; split <;> omega
      rw [e, show 0 + x - x = 0 by omega, dec_t hx, Bool.true_and, ← sh_fit xs (leastF d (h - x + r))]
      simp
    · rw [dec_f hx, Bool.false_and]
      constructor
      · intro he
        have := (List.cons.inj he).1
        omega
      · intro he; simp at he
theorem sh_in {r d : Int} (hr : 1 ≤ r) : ∀ (l : List Int) (w h : Int), (∀ x ∈ l, 0 ≤ x ∧ x ≤ 60) → 0 ≤ w → 0 ≤ h → h ≤ d → (∀ y ∈ (shF r d l w h).1, 0 ≤ y ∧ y ≤ d) ∧ fitF r d (shF r d l w h).1 h = true
  | [], _, _, _, _, _, _ => ⟨by simp [shF], rfl⟩
  | x :: xs, w, h, hl, hw, h0, hd => by
    have hx := hl x (by simp)
    have h1 := least_le (w + x) h
    have h2 := least_le d (h - leastF (w + x) h + r)
    obtain ⟨i1, i2⟩ := sh_in (d := d) hr xs (w + x - leastF (w + x) h) (leastF d (h - leastF (w + x) h + r)) (fun y hy => hl y (by simp [hy])) (by omega) (by omega) (by omega)
    simp only [shF, fitF]
    refine ⟨?_, ?_⟩
    · intro y hy
      simp only [List.mem_cons] at hy
      rcases hy with rfl | hy
      · omega
      · exact i1 y hy
    · rw [i2, dec_t h1.2.1]; rfl
theorem sh_sum {r d : Int} : ∀ (l : List Int) (w h : Int), l ≠ [] → sumL (shF r d l w h).1 + (shF r d l w h).2.getD ((shF r d l w h).2.length - 1) 0 = w + sumL l
  | [], _, _, h => absurd rfl h
  | x :: xs, w, h, _ => by
    simp only [shF, sumL, List.length_cons, Nat.add_sub_cancel]
    cases xs with
    | nil => simp [shF, sumL]; omega
    | cons y ys =>
      have := sh_sum (r := r) (d := d) (y :: ys) (w + x - leastF (w + x) h) (leastF d (h - leastF (w + x) h + r)) (by simp)
      have hl := (sh_len r d (y :: ys) (w + x - leastF (w + x) h) (leastF d (h - leastF (w + x) h + r))).2
      rw [hl] at this ⊢
      simp only [List.length_cons, Nat.add_sub_cancel] at this ⊢
      rw [List.getD_cons_succ]
      omega
theorem bucket_t {c : L1Cur} {b : Int} (h : Cur c b) (hb : b ≤ 2000000000000000000) : Tot (spec_l1Cur_bucket c) fun r => (0 ≤ r.1.Depth ∧ r.1.Depth ≤ 61) ∧ Cur r.2 (b + 20) := by
  unfold spec_l1Cur_bucket
  refine Tot.then (rate_t (by assumption) (by omega)) ?_
  rintro ⟨r, d, c'⟩ ⟨hr, hc⟩
  dsimp only at hr hc ⊢
  refine Tot.then (pick_t (by assumption) (by omega)) ?_
  rintro ⟨x, c_x⟩ ⟨x_0, x_1, x_c⟩
  dsimp only at x_0 x_1 x_c ⊢
  refine Tot.then (P := fun r => Cur ⟨r.2.1, r.2.2.1, r.2.2.2⟩ (b + 20)) ?_ ?_
  · refine Tot.cnd (fun hc => ?_) (fun hc => ?_)
    · refine Tot.then (one_t (by assumption) (by omega)) ?_
      rintro ⟨y, c_y⟩ y_c
      dsimp only at y_c ⊢
      exact .ret (y_c.mono (by first | omega | (dsimp only; omega)))
    · exact .ret (x_c.mono (by first | omega | (dsimp only; omega)))
  · rintro ⟨t, co, a, se⟩ hc0
    dsimp only at hc0 ⊢
    cases t
    · exact .ret ⟨hr.2, hc0⟩
    · exact .ret ⟨hr.2, hc0⟩
theorem drawTick {l : List Int} (hl : l.length ≤ 1048576) (hb : ∀ x ∈ l, 0 ≤ x ∧ x ≤ 255) : Tot (spec_DrawTickBucket l) fun _ => True := by
  unfold spec_DrawTickBucket spec_DrawGoodBucket
  have h := cur0 hl hb
  refine Tot.bind (Tot.bind ?_)
  refine (bucket_t h (by omega)).use ?_
  rintro ⟨s, c⟩ _
  exact .ret (.ret trivial)
theorem drawTake {l : List Int} (hl : l.length ≤ 1048576) (hb : ∀ x ∈ l, 0 ≤ x ∧ x ≤ 255) : Tot (spec_DrawTakeBucket l) fun _ => True := by
  unfold spec_DrawTakeBucket
  have h := cur0 hl hb
  refine Tot.then (bucket_t (by assumption) (by omega)) ?_
  rintro ⟨x, c_x⟩ ⟨x_p, x_c⟩
  dsimp only at x_p x_c ⊢
  refine Tot.then (pick_t (by assumption) (by omega)) ?_
  rintro ⟨y, c_y⟩ ⟨y_0, y_1, y_c⟩
  dsimp only at y_0 y_1 y_c ⊢
  exact .ret trivial
theorem drawNewB {l : List Int} (hl : l.length ≤ 1048576) (hb : ∀ x ∈ l, 0 ≤ x ∧ x ≤ 255) : Tot (spec_DrawNewBucket l) fun _ => True := by
  unfold spec_DrawNewBucket
  have h := cur0 hl hb
  refine Tot.then (rate_t (by assumption) (by omega)) ?_
  rintro ⟨r, d, c'⟩ _
  exact .ret trivial
theorem drawShape {l : List Int} (hl : l.length ≤ 1048576) (hb : ∀ x ∈ l, 0 ≤ x ∧ x ≤ 255) : Tot (spec_DrawShapeFlow l) fun r => r.2.2.length ≤ 41 := by
  unfold spec_DrawShapeFlow
  have h := cur0 hl hb
  refine Tot.then (rate_t (by assumption) (by omega)) ?_
  rintro ⟨r, d, c'⟩ ⟨_, hc⟩
  dsimp only at hc ⊢
  refine Tot.then (flow_t (by assumption) (by omega)) ?_
  rintro ⟨f, c_f⟩ ⟨f_p, f_c⟩
  dsimp only at f_p f_c ⊢
  exact .ret f_p
theorem sumFl {l : List Int} (hl : l.length ≤ 100) (hb : ∀ x ∈ l, 0 ≤ x ∧ x ≤ 60) : laws_sumOf l = some (sumL l) ∧ 0 ≤ sumL l ∧ sumL l ≤ 60 * l.length := by
  refine ⟨?_, ?_⟩
  · unfold laws_sumOf
    rw [sum_go (l := l) (by omega) (fun x hx => by have := hb x hx; omega) (fun k hk s => by simp only [laws_sumOf_l0]; rw [dec_t (by omega), idx_lt hk, w64 (x := (k : Int) + 1) (by omega)]; rfl) (fun s => by simp [laws_sumOf_l0])]; rfl
  · induction l with
    | nil => simp [sumL]
    | cons x xs ih =>
      have := hb x (by simp)
      have := ih (by simp at hl; omega) (fun y hy => hb y (by simp [hy]))
      simp only [sumL, List.length_cons]; omega
theorem pureShaped (a b : List Int) (ha : a.length < 2 ^ 47) (hb : b.length < 2 ^ 47) (ka : ∀ x ∈ a, 0 ≤ x ∧ x ≤ 255) (kb : ∀ x ∈ b, 0 ≤ x ∧ x ≤ 255) : laws_FnShaped a b = some true := by
  unfold laws_FnShaped
  rw [w64 (by omega)]
  by_cases h : (1048576 : Int) < (a.length : Int) + (b.length : Int)
  · rw [dec_t h]; rfl
  rw [dec_f h]
  simp only [cond_false]
  obtain ⟨⟨r, d, l⟩, e1, n1⟩ := drawShape (l := a) (by omega) ka
  obtain ⟨u, e2, _⟩ := drawTick (l := b) (by omega) kb
  obtain ⟨⟨v, m⟩, e3, _⟩ := drawTake (l := b) (by omega) kb
  obtain ⟨⟨p, q⟩, e4, _⟩ := drawNewB (l := b) (by omega) kb
  dsimp only at n1
  simp only [e1, e2, e3, e4, Option.bind_some]
  have hs1 : (shapeLF r d l).1.length ≤ 41 ∧ (shapeLF r d l).2.1.length ≤ 41 := by
    unfold shapeLF
    split
    · have := sh_len r d l 0 d
      dsimp only; omega
    · simp
  rw [iShape (by omega), sShape (by omega), iCon (l := l) (by omega), sCon (l := l) (by omega), iTick, sTickA, (iTake v m).1, (iTake v m).2, iNewB, sNewB]
  simp only [Option.bind_some, beq_self_eq_true, Bool.not_true, cond_false]
  rw [sameI (l := (shapeLF r d l).1) (by omega)]
  simp only [Option.bind_some, Bool.not_true, cond_false]
  rw [sameI (l := (shapeLF r d l).2.1) (by omega), iBkt, iBkt, iBkt, iBkt]
  simp only [Option.bind_some, Bool.not_true, cond_false, Bool.and_self]
  have t1 : (tickLF u).2 = bktB u := by unfold tickLF; cases bktB u <;> rfl
  have t2 : (newLF p q).2 = true → bktB (newLF p q).1 = true ∧ (newLF p q).1.Has = q := by
    unfold newLF
    cases hr : rateB p q
    · simp
    · intro _
      have hr' := rate_iff.1 hr
      exact ⟨bkt_iff.2 ⟨hr', by simp only [if_true]; omega⟩, rfl⟩
  have t3 : (takeLF v m).2 = true → bktB (takeLF v m).1 = true ∧ (IntKind.i64.wrap ((takeLF v m).1.Has + m)) = v.Has := by
    unfold takeLF
    cases hc : (bktB v && inB m 0 v.Has)
    · simp
    · intro _
      rw [Bool.and_eq_true, inB_iff] at hc
      have hv := bkt_iff.1 hc.1
      refine ⟨bkt_iff.2 ⟨hv.1, by simp only [if_true]; omega⟩, ?_⟩
      simp only [if_true]
      rw [w64 (by omega)]; omega
  have t4 : (tickLF u).2 = true → bktB (tickLF u).1 = true := by
    unfold tickLF
    cases hu : bktB u
    · simp
    · intro _; exact tick_good hu
  have hlast : (bif !(bktB u == (tickLF u).2) then some false else bif !(tickLF u).2 then bif !(takeLF v m).2 then bif !(newLF p q).2 then some true else bif bktB (newLF p q).1 then some ((newLF p q).1.Has == q) else some false
      else bif bktB (takeLF v m).1 then bif IntKind.i64.wrap ((takeLF v m).1.Has + m) == v.Has then bif !(newLF p q).2 then some true else bif bktB (newLF p q).1 then some ((newLF p q).1.Has == q) else some false else some false else some false
      else bif bktB (tickLF u).1 then bif !(takeLF v m).2 then bif !(newLF p q).2 then some true else bif bktB (newLF p q).1 then some ((newLF p q).1.Has == q) else some false
      else bif bktB (takeLF v m).1 then bif IntKind.i64.wrap ((takeLF v m).1.Has + m) == v.Has then bif !(newLF p q).2 then some true else bif bktB (newLF p q).1 then some ((newLF p q).1.Has == q) else some false else some false else some false else some false) = some true := by
    rw [t1]
    rw [t1] at t4
    simp only [beq_self_eq_true, Bool.not_true, cond_false]
    cases h1 : bktB u <;> cases h2 : (takeLF v m).2 <;> cases h3 : (newLF p q).2
    · rfl
    · simp [(t2 h3).1, (t2 h3).2]
    · simp [(t3 h2).1, (t3 h2).2]
    · simp [(t3 h2).1, (t3 h2).2, (t2 h3).1, (t2 h3).2]
    · simp [t4 h1]
    · simp [t4 h1, (t2 h3).1, (t2 h3).2]
    · simp [t4 h1, (t3 h2).1, (t3 h2).2]
    · simp [t4 h1, (t3 h2).1, (t3 h2).2, (t2 h3).1, (t2 h3).2]
  cases hc : (rateB r d && flowB l)
  · have : shapeLF r d l = ([], [], false) := by unfold shapeLF; rw [hc]; rfl
    rw [this]
    exact hlast
  · have f0 := hc
    rw [Bool.and_eq_true] at f0
    obtain ⟨f1, f2⟩ := flow_iff f0.2
    have hr := rate_iff.1 f0.1
    have e5 : shapeLF r d l = ((shF r d l 0 d).1, (shF r d l 0 d).2, true) := by unfold shapeLF; rw [hc]; rfl
    have e6 : conF r d l = (okT r d l, true) := by unfold conF; rw [hc]; rfl
    obtain ⟨g1, g2⟩ := sh_in (d := d) hr.1.1 l 0 d f2 (by omega) (by omega) (by omega)
    obtain ⟨q1, q2⟩ := sh_len r d l 0 d
    have hfl : flowB (shF r d l 0 d).1 = true := by
      unfold flowB
      rw [dec_t (by omega), Bool.true_and, List.all_eq_true]
      intro y hy
      have := g1 y hy
      exact inB_iff.2 (by omega)
    have e7 : conF r d (shF r d l 0 d).1 = (true, true) := by
      unfold conF
      rw [f0.1, hfl]
      rw [fit_ok _ d (Int.le_refl _), Bool.and_eq_true] at g2
      simp only [Bool.and_self, if_true, g2.2]
    have e8 : decide ((shF r d l 0 d).1 = l) = okT r d l := by
      have h1 := sh_fit (r := r) (d := d) l d
      rw [fit_ok l d (Int.le_refl _), Bool.and_eq_true] at h1
      by_cases ht : okT r d l = true
      · rw [ht]; exact dec_t (h1.2 ⟨okT_head ht, ht⟩)
      · simp only [Bool.not_eq_true] at ht
        rw [ht]
        refine dec_f fun he => ?_
        have := (h1.1 he).2
        rw [ht] at this; simp at this
    rw [e5, e6]
    simp only [cond_true]
    rw [iCon (by omega), e7, sameIs (a := (shF r d l 0 d).1) (b := l) (by omega), e8]
    simp only [Option.bind_some, Bool.not_true, cond_false, beq_self_eq_true]
    obtain ⟨u1, u2, u3⟩ := sumFl (l := (shF r d l 0 d).1) (by omega) (fun x hx => by have := g1 x hx; omega)
    obtain ⟨v1, v2, v3⟩ := sumFl (l := l) (by omega) f2
    rw [u1, v1]
    simp only [Option.bind_some]
    by_cases h0 : 0 < l.length
    · have hne : l ≠ [] := by intro he; rw [he] at h0; simp at h0
      have hsum := sh_sum (r := r) (d := d) l 0 d hne
      have hk : (shF r d l 0 d).2.length - 1 < (shF r d l 0 d).2.length := by omega
      rw [dec_t (by omega), w64 (x := ((shF r d l 0 d).2.length : Int) - 1) (by omega), show ((shF r d l 0 d).2.length : Int) - 1 = (((shF r d l 0 d).2.length - 1 : Nat) : Int) by omega, idx_lt hk]
      rw [List.getD_eq_getElem?_getD, List.getElem?_eq_getElem hk, Option.getD_some] at hsum
      simp only [cond_true, Option.bind_some]
      rw [hsum, Int.zero_add, w64 (by omega), bne_self_eq_false]
      exact hlast
    · rw [dec_f (by omega)]
      exact hlast
end Go.VxW
