import Derived.Test.YtcgnkhdeckgaaaaVaC
import Derived.StillTail
/-
  VS, part 37: a region whose order is open.
-/
namespace Go.VS

structure DOK (ops : Array Oper) (louds : List Nat) : Prop where
  back : ∀ (i : Nat) (o : Oper), ops[i]? = some o → ∀ e ∈ o.after, Region.binds .any e = true → e.on < i
  uniq : ∀ (i j : Nat) (o p : Oper) (d : Tmp), i ≠ j → ops[i]? = some o → ops[j]? = some p → p.dst = some d → o.dst ≠ some d
  ord : ∀ (i j : Nat) (o p : Oper) (d : Tmp), i ≠ j → ops[i]? = some o → ops[j]? = some p → p.dst = some d → d ∈ Oper.looksAt ops o → ((bef ops.toList).getD (max i j) 0).testBit (min i j) = true
  after : ∀ (i j : Nat) (o p : Oper), ops[i]? = some o → ops[j]? = some p → i ∈ louds → i < j → ((bef ops.toList).getD j 0).testBit i = true ∨ (j ∉ louds ∧ p.guard = none ∧ earlyOp p.op = true ∧ ∃ d, p.dst = some d)
  late : ∀ (i j : Nat) (o p : Oper), ops[i]? = some o → ops[j]? = some p → i ∈ louds → j < i → ((bef ops.toList).getD i 0).testBit j = false → j ∉ louds ∧ p.guard = none ∧ lateOp p.op = true ∧ (∃ d, p.dst = some d) ∧
    ∀ (k : Nat) (r : Oper) (d : Tmp), ops[k]? = some r → r.dst = some d → j ≤ k → d ∉ Oper.looksAt ops p

theorem dok_of {ops : Array Oper} {louds : List Nat} (h : drawOK ops louds = true) : DOK ops louds := by
  have lt : ∀ {i : Nat} {o : Oper}, ops[i]? = some o → i < ops.toList.length := fun h => by have := (Array.getElem?_eq_some_iff.1 h).1; simpa using this
  have tl : ∀ {i : Nat} {o : Oper}, ops[i]? = some o → ops.toList[i]? = some o := fun h => by simpa using h
  have one : ∀ (i : Nat) (o : Oper), ops[i]? = some o → (∀ e ∈ o.after, Region.binds .any e = true → e.on < i) ∧ ∀ (j : Nat) (p : Oper), ops[j]? = some p → i ≠ j →
      (∀ d, p.dst = some d → o.dst ≠ some d ∧ (d ∈ Oper.looksAt ops o → ((bef ops.toList).getD (max i j) 0).testBit (min i j) = true)) ∧
      (i ∈ louds → i < j → ((bef ops.toList).getD j 0).testBit i = true ∨ (j ∉ louds ∧ p.guard = none ∧ earlyOp p.op = true ∧ ∃ d, p.dst = some d)) ∧
      (i ∈ louds → j < i → ((bef ops.toList).getD i 0).testBit j = false → j ∉ louds ∧ p.guard = none ∧ lateOp p.op = true ∧ (∃ d, p.dst = some d) ∧ ∀ (k : Nat) (r : Oper) (d : Tmp), ops[k]? = some r → r.dst = some d → j ≤ k → d ∉ Oper.looksAt ops p) := by
    intro i o ho
    simp only [drawOK, List.all_eq_true, List.mem_range] at h
    have hi := h i (lt ho)
    rw [tl ho] at hi
    simp only [Bool.and_eq_true, Array.all_eq_true_iff_forall_mem, List.all_eq_true, List.mem_range, Bool.or_eq_true, Bool.not_eq_true', decide_eq_true_eq] at hi
    obtain ⟨ha, hb⟩ := hi
    refine ⟨fun e he hbe => (ha e he).resolve_left (by simp [hbe]), fun j p hp hij => ?_⟩
    have hj := hb j (lt hp)
    rw [tl hp] at hj
    simp only [Bool.or_eq_true, beq_iff_eq, Bool.and_eq_true, Bool.not_eq_true'] at hj
    rcases hj with hj | ⟨⟨hj1, hj2⟩, hj3⟩
    · exact absurd hj hij
    refine ⟨fun d hd => ?_, fun hl hlt => ?_, fun hl hlt hbe => ?_⟩
    · rw [hd] at hj1
      simp only [Bool.and_eq_true, bne_iff_ne, ne_eq, Bool.or_eq_true, Bool.not_eq_true'] at hj1
      exact ⟨hj1.1, fun hm => hj1.2.resolve_left (by simp [hm])⟩
    · rcases hj2 with (hj2 | hj2) | ⟨⟨⟨q1, q2⟩, q3⟩, q4⟩
      · simp [hl, hlt] at hj2
      · exact .inl hj2
      · exact .inr ⟨by simpa using q1, by simpa using q2, q3, Option.isSome_iff_exists.1 q4⟩
    · rcases hj3 with (hj3 | hj3) | ⟨⟨⟨⟨q1, q2⟩, q3⟩, q4⟩, q5⟩
      · simp [hl, hlt] at hj3
      · rw [hbe] at hj3; simp at hj3
      · refine ⟨by simpa using q1, by simpa using q2, q3, Option.isSome_iff_exists.1 q4, fun k r d hk hr hjk hm => ?_⟩
        simp only [List.all_eq_true, List.mem_range] at q5
        have := q5 k (lt hk)
        rw [tl hk] at this
        simp only [hr] at this
        simp [hjk, hm] at this
  exact ⟨fun i o ho => (one i o ho).1, fun i j o p d hij ho hp hd => (((one i o ho).2 j p hp hij).1 d hd).1, fun i j o p d hij ho hp hd => (((one i o ho).2 j p hp hij).1 d hd).2,
    fun i j o p ho hp hl hlt => ((one i o ho).2 j p hp (by omega)).2.1 hl hlt, fun i j o p ho hp hl hlt => ((one i o ho).2 j p hp (by omega)).2.2 hl hlt⟩

theorem next_loud (louds : List Nat) (n : Nat) : ∀ (m b : Nat), m = n - b → b ≤ n → ∃ c, b ≤ c ∧ c ≤ n ∧ (c = n ∨ c ∈ louds) ∧ ∀ i, b ≤ i → i < c → i ∉ louds
  | 0, b, hm, hb => ⟨b, Nat.le_refl _, hb, .inl (by omega), fun i h1 h2 => by omega⟩
  | m + 1, b, hm, hb => by
    by_cases h : b ∈ louds
    · exact ⟨b, Nat.le_refl _, hb, .inr h, fun i h1 h2 => by omega⟩
    · obtain ⟨c, h1, h2, h3, h4⟩ := next_loud louds n m (b + 1) (by omega) (by omega)
      refine ⟨c, by omega, h2, h3, fun i k1 k2 => ?_⟩
      by_cases hi : i = b
      · subst hi; exact h
      · exact h4 i (by omega) k2

section draw
variable {P : Program} {C : Ctx} {X : CallRel} {ops : Array Oper} {louds : List Nat} {th : List Nat} {K : Frm → Heap → Prop} {s : Nat → Frm} {H : Nat → Heap} {v : Nat → AV} {act : Nat → Bool}

abbrev TrD (X : CallRel) (C : Ctx) (ops : Array Oper) (louds : List Nat) (th : List Nat) (K : Frm → Heap → Prop) (s : Nat → Frm) (H : Nat → Heap) (v : Nat → AV) (act : Nat → Bool) : Prop :=
  Tr X C ops (fun i => !louds.contains i) (lateOf ops louds) th K ops.toList 0 s H v act

theorem qgs (t : TrD X C ops louds th K s H v act) : ∀ (m i : Nat), i + m ≤ ops.size → (∀ k, i ≤ k → k < i + m → k ∉ louds) → QG (H i) (H (i + m))
  | 0, i, _, _ => .refl _
  | m + 1, i, hn, hl => by
    have h1 := qgs t m i (by omega) (fun k h1 h2 => hl k h1 (by omega))
    have ho := Array.getElem?_eq_getElem (xs := ops) (show i + m < ops.size by omega)
    obtain ⟨_, _, h3, h4, _⟩ := t.step (i + m) _ (by rw [Array.getElem?_toList]; exact ho)
    refine h1.trans ?_
    cases ha : act (i + m) with
    | true =>
      have := h3 ha
      have hnl : (!louds.contains (0 + (i + m))) = true := by simp only [Nat.zero_add]; simpa using hl (i + m) (by omega) (by omega)
      rw [hnl] at this
      exact wpOp_qg this
    | false => have := (h4 ha).2; rw [show i + (m + 1) = i + m + 1 by omega, this]; exact .refl _

theorem sget (dk : DOK ops louds) (t : TrD X C ops louds th K s H v act) : ∀ (i : Nat), i ≤ ops.size → (s i).length = (s 0).length ∧ ∀ x, x < (s 0).length →
    (∀ k o, k < i → ops[k]? = some o → o.dst = some x → (s i).getD x .undef = v k) ∧ ((∀ k o, k < i → ops[k]? = some o → o.dst ≠ some x) → (s i).getD x .undef = (s 0).getD x .undef)
  | 0, _ => ⟨rfl, fun x hx => ⟨fun k o h => by omega, fun _ => rfl⟩⟩
  | i + 1, hi => by
    obtain ⟨h1, h2⟩ := sget dk t i (by omega)
    have ho := Array.getElem?_eq_getElem (xs := ops) (show i < ops.size by omega)
    obtain ⟨hs, _⟩ := t.step i _ (by rw [Array.getElem?_toList]; exact ho)
    have hlen : (s (i + 1)).length = (s 0).length := by
      rw [hs]
      unfold setA
      split
      · simpa using h1
      · exact h1
    refine ⟨hlen, fun x hx => ⟨fun k o hk hok hd => ?_, fun hno => ?_⟩⟩
    · rw [hs]
      by_cases hki : k = i
      · subst hki
        rw [ho] at hok
        simp only [Option.some.injEq] at hok; subst hok
        rw [hd]
        simp only [setA]
        rw [← h1] at hx
        simp [List.getD, hx]
      · have hne := dk.uniq i k _ o x (fun h => hki h.symm) ho hok hd
        have := (h2 x hx).1 k o (by omega) hok hd
        rw [← this]
        unfold setA
        split
        · rename_i d hd'
          have : d ≠ x := fun h => hne (by rw [hd', h])
          simp [List.getD, List.getElem?_set_ne this]
        · rfl
    · rw [hs]
      have hne := hno i _ (Nat.lt_succ_self _) ho
      rw [← (h2 x hx).2 (fun k o hk hok => hno k o (by omega) hok)]
      unfold setA
      split
      · rename_i d hd'
        have : d ≠ x := fun h => hne (by rw [hd', h])
        simp [List.getD, List.getElem?_set_ne this]
      · rfl

/-- Made in memory, and not yet in the abstract heap. -/
structure Pend (w0 w : World) (φ : Phi) (A : Avoid) (z : AV) (sz n : Nat) : Prop where
  old : w0.heap.size ≤ n
  lt : n < w.heap.size
  av : A n
  ow : ¬ Ow φ n
  here : ∃ arr T fr, w.heap[n]? = some (.cells arr T fr) ∧ (∀ j, j < arr.size → ¬ (fr.1 ≤ j ∧ j < fr.2)) ∧ sz ≤ arr.size ∧ z.cells.length = sz ∧
    ∀ (j : Nat) (y : AV) (v : Value), z.cells[j]? = some y → arr[j]? = some v → (∀ (w : World) (A : Avoid), FR w A y v) ∧ v.oneCell' = true

theorem Pend.mono {w0 w w' : World} {G G' : Heap} {φ φ' : Phi} {A A' : Avoid} {z : AV} {sz n : Nat} (h : Pend w0 w φ A z sz n) (o : Out w G φ A w' G' φ' A') : Pend w0 w' φ' A' z sz n := by
  refine ⟨h.old, Nat.lt_of_lt_of_le h.lt o.post.size, o.keep n h.av h.ow, fun hw => ?_, ?_⟩
  · rcases o.post.own n hw with k | k
    · exact h.ow k
    · have := h.lt; omega
  · rw [o.post.kept n h.lt h.ow]; exact h.here

/-- What an early operation made. -/
def Early (C : Ctx) (ops : Array Oper) (louds : List Nat) (w0 w : World) (φ : Phi) (A : Avoid) (a : Act) (j n : Nat) : Prop :=
  j ∉ louds ∧ ∃ (o : Oper) (t : TypeId) (d : Tmp) (ti : TI) (z : AV), ops[j]? = some o ∧ o.guard = none ∧ o.op = .alloc t ∧ o.dst = some d ∧ C.E t = some ti ∧ zeroA ti = some z ∧ Pend w0 w φ A z ti.sz n ∧
    ∀ u, a.tmps[d]? = some u → u = .pointer (some ⟨n, 0, none⟩)

theorem Early.mono {C : Ctx} {ops : Array Oper} {louds : List Nat} {w0 w w' : World} {G G' : Heap} {φ φ' : Phi} {A A' : Avoid} {a a' : Act} {j n : Nat} (h : Early C ops louds w0 w φ A a j n) (o : Out w G φ A w' G' φ' A')
    (ht : ∀ (r : Oper) (d : Tmp), ops[j]? = some r → r.dst = some d → a'.tmps[d]? = a.tmps[d]?) : Early C ops louds w0 w' φ' A' a' j n := by
  obtain ⟨h0, r, t, d, ti, z, h1, h2, h3, h4, h5, h6, h7, h8⟩ := h
  exact ⟨h0, r, t, d, ti, z, h1, h2, h3, h4, h5, h6, h7.mono o, fun u hu => h8 u (by rw [← ht r d h1 h4]; exact hu)⟩

/-- How things stand while a region runs. -/
structure Inv (C : Ctx) (ops : Array Oper) (louds : List Nat) (s : Nat → Frm) (H : Nat → Heap) (v : Nat → AV) (w0 : World) (φ0 : Phi) (A0 : Avoid) (listed : Array Bool) (a : Act) (w : World) (b c : Nat) (φ : Phi) (A : Avoid) (pn : Nat → Nat) : Prop where
  size : listed.size = ops.size
  shut : Shut ops (fun i => listed.getD i false = true)
  bc : b ≤ c
  cn : c ≤ ops.size
  cl : c = ops.size ∨ c ∈ louds
  nol : ∀ i, b ≤ i → i < c → i ∉ louds
  loud : ∀ i, i ∈ louds → i < ops.size → (listed.getD i false = true ↔ i < b)
  base : b = 0 ∨ (b - 1 ∈ louds ∧ 0 < b)
  out : Out w0 (H 0) φ0 A0 w (H c) φ A
  none : ∀ i, b ≤ i → i < c → listed.getD i false = false → ∀ id, (H i).bs.length ≤ id → id < (H (i + 1)).bs.length → φ id = none
  dfr : a.defers = []
  len : (s 0).length = a.tmps.size
  wr : ∀ (k : Nat) (o : Oper) (d : Tmp) (u : Value), ops[k]? = some o → o.dst = some d → listed.getD k false = true → k < c → a.tmps[d]? = some u → R w (H c) φ A (v k) u
  early : ∀ (k : Nat), c ≤ k → listed.getD k false = true → Early C ops louds w0 w φ A a k (pn k)
  pinj : ∀ (j k : Nat), c ≤ j → c ≤ k → listed.getD j false = true → listed.getD k false = true → pn j = pn k → j = k
  un : ∀ (x : Tmp) (u : Value), (∀ (k : Nat) (o : Oper), ops[k]? = some o → o.dst = some x → listed.getD k false = false) → a.tmps[x]? = some u → R w (H c) φ A ((s 0).getD x .undef) u

theorem getD_set_iff {listed : Array Bool} {i : Nat} (hi : i < listed.size) (k : Nat) : (listed.setIfInBounds i true).getD k false = true ↔ (k = i ∨ listed.getD k false = true) := by
  by_cases hk : k = i
  · subst hk; simp [hi]
  · rw [getD_set_ne false (fun h => hk h.symm)]; simp [hk]

variable {w0 : World} {φ0 : Phi} {A0 : Avoid} {listed : Array Bool} {a : Act} {w : World} {b c : Nat} {φ : Phi} {A : Avoid} {pn : Nat → Nat}

/-- What an operation looks at is what it sees in the text's order. -/
theorem Inv.look (inv : Inv C ops louds s H v w0 φ0 A0 listed a w b c φ A pn) (dk : DOK ops louds) (t : TrD X C ops louds th K s H v act) {i : Nat} {o : Oper} (hic : i ≤ c) (ho : ops[i]? = some o) (hu : listed.getD i false = false) (ha : ∀ e ∈ o.after, Region.binds .any e = true → listed.getD e.on false = true)
    {m : Nat} (hm : m ≤ ops.size) (him : i ≤ m) (hlate : m = i ∨ ∀ (k : Nat) (r : Oper) (d : Tmp), ops[k]? = some r → r.dst = some d → i ≤ k → d ∉ Oper.looksAt ops o) {x : Tmp} (hx : x ∈ Oper.looksAt ops o) : R w (H c) φ A (ev (s m) (.tmp x)) (a.eval (.tmp x)) := by
  obtain ⟨hl, hg⟩ := sget dk t m hm
  simp only [ev, Act.eval]
  by_cases hlt : x < (s 0).length
  · have hlt' : x < a.tmps.size := by rw [← inv.len]; exact hlt
    have hu' := Array.getElem?_eq_getElem hlt'
    rw [Array.getD_eq_getD_getElem?, hu', Option.getD_some]
    by_cases hw : ∃ (k : Nat) (r : Oper), ops[k]? = some r ∧ r.dst = some x
    · obtain ⟨k, r, hk, hr⟩ := hw
      rcases Nat.lt_trichotomy k i with hki | hki | hki
      · have hb := dk.ord i k o r x (by omega) ho hk hr hx
        rw [show max i k = i by omega, show min i k = k by omega] at hb
        have hLk := bef_listed inv.shut dk.back i o ho ha k hb
        rw [(hg x hlt).1 k r (by omega) hk hr]
        exact inv.wr k r x _ hk hr hLk (by omega) hu'
      · subst hki
        rw [ho] at hk
        simp only [Option.some.injEq] at hk; subst hk
        rcases hlate with rfl | hlate
        · rw [(hg x hlt).2 (fun k' o' hk' hok' => dk.uniq k' m o' o x (by omega) hok' ho hr)]
          refine inv.un x _ (fun k' o' hok' hd' => ?_) hu'
          by_cases hkm : k' = m
          · subst hkm; exact hu
          · exact absurd hd' (dk.uniq k' m o' o x hkm hok' ho hr)
        · exact absurd hx (hlate k o x ho hr (Nat.le_refl _))
      · rcases hlate with rfl | hlate
        · have hb := dk.ord m k o r x (by omega) ho hk hr hx
          rw [show max m k = k by omega, show min m k = m by omega] at hb
          have hnk : listed.getD k false = false := by
            cases hq : listed.getD k false with
            | false => rfl
            | true =>
              have := bef_listed inv.shut dk.back k r hk (inv.shut k r hk hq) m hb
              rw [hu] at this; simp at this
          rw [(hg x hlt).2 (fun k' o' hk' hok' => dk.uniq k' k o' r x (by omega) hok' hk hr)]
          refine inv.un x _ (fun k' o' hok' hd' => ?_) hu'
          by_cases hkm : k' = k
          · subst hkm; exact hnk
          · exact absurd hd' (dk.uniq k' k o' r x hkm hok' hk hr)
        · exact absurd hx (hlate k r x hk hr (by omega))
    · rw [(hg x hlt).2 (fun k' o' _ hok' hd' => hw ⟨k', o', hok', hd'⟩)]
      exact inv.un x _ (fun k' o' hok' hd' => absurd ⟨k', o', hok', hd'⟩ hw) hu'
  · have : (s m).getD x .undef = .undef := by simp [List.getD, List.getElem?_eq_none (show (s m).length ≤ x by rw [hl]; exact Nat.le_of_not_lt hlt)]
    rw [this]
    exact .fr _ _ (.undef _)

theorem Inv.opnd (inv : Inv C ops louds s H v w0 φ0 A0 listed a w b c φ A pn) (dk : DOK ops louds) (t : TrD X C ops louds th K s H v act) {i : Nat} {o : Oper} (hic : i ≤ c) (ho : ops[i]? = some o) (hu : listed.getD i false = false) (ha : ∀ e ∈ o.after, Region.binds .any e = true → listed.getD e.on false = true)
    {m : Nat} (hm : m ≤ ops.size) (him : i ≤ m) (hlate : m = i ∨ ∀ (k : Nat) (r : Oper) (d : Tmp), ops[k]? = some r → r.dst = some d → i ≤ k → d ∉ Oper.looksAt ops o) : ∀ y ∈ o.op.operands, R w (H c) φ A (ev (s m) y) (a.eval y) := by
  intro y hy
  cases y with
  | tmp x =>
    refine inv.look dk t hic ho hu ha hm him hlate ?_
    unfold Oper.looksAt
    refine List.mem_append.2 (.inl (List.mem_filterMap.2 ⟨.tmp x, by simpa using hy, rfl⟩))
  | const v => exact .fr _ _ (FR.ofValue w A v)
  | global g => exact .fr _ _ (.undef _)
  | func f => exact .fr _ _ (.fn f [] #[] rfl (by simp))

/-- A quiet operation has come. -/
theorem Inv.stepQ (inv : Inv C ops louds s H v w0 φ0 A0 listed a w b c φ A pn) (hst0 : St w0 (H 0) φ0 A0) (dk : DOK ops louds) (t : TrD X C ops louds th K s H v act) {i : Nat} {o : Oper} (hic : i < c) (ho : ops[i]? = some o) (hl : i ∉ louds) (ha : ∀ e ∈ o.after, Region.binds .any e = true → listed.getD e.on false = true)
    {u : Value} {w' : World} {φ1 : Phi} {A1 : Avoid} (hout : Out w (H c) φ A w' (H c) φ1 A1) (hr : ∀ d, o.dst = some d → d < a.tmps.size → R w' (H c) φ1 A1 (v i) u)
    (hnew : ∀ id loc, φ1 id = some loc → φ id = some loc ∨ (b ≤ i ∧ i < c ∧ (H i).bs.length ≤ id ∧ id < (H (i + 1)).bs.length)) : Inv C ops louds s H v w0 φ0 A0 (listed.setIfInBounds i true) (a.put o.dst u) w' b c φ1 A1 pn := by
  have hi : i < ops.size := (Array.getElem?_eq_some_iff.1 ho).1
  have hsz : i < listed.size := by rw [inv.size]; exact hi
  have hiff := getD_set_iff hsz
  have hfalse : ∀ k, (listed.setIfInBounds i true).getD k false = false → k ≠ i ∧ listed.getD k false = false := fun k hk => by
    have := (not_congr (hiff k)).1 (by rw [hk]; simp)
    refine ⟨fun h => this (.inl h), ?_⟩
    cases hq : listed.getD k false with
    | false => rfl
    | true => exact absurd (.inr hq) this
  refine ⟨by simp [inv.size], fun k r hk hLk e he hb => ?_, inv.bc, inv.cn, inv.cl, inv.nol, fun k hk hkn => ?_, inv.base, inv.out.trans hst0 hout, fun k h1 h2 h3 id h4 h5 => ?_, ?_, ?_, fun k r d u' hk hr' hLk hkc hu' => ?_, fun k hck hLk => ?_, fun j k hj hk hLj hLk hp => inv.pinj j k hj hk (((hiff j).1 hLj).resolve_left (by omega)) (((hiff k).1 hLk).resolve_left (by omega)) hp, fun x u' hno hu' => ?_⟩
  · rcases (hiff k).1 hLk with rfl | hLk
    · rw [ho] at hk
      simp only [Option.some.injEq] at hk; subst hk
      exact (hiff _).2 (.inr (ha e he hb))
    · exact (hiff _).2 (.inr (inv.shut k r hk hLk e he hb))
  · rw [hiff, ← inv.loud k hk hkn]
    constructor
    · rintro (rfl | h)
      · exact absurd hk hl
      · exact h
    · exact .inr
  · obtain ⟨hki, hLk⟩ := hfalse k h3
    have hcn := inv.cn
    cases hq : φ1 id with
    | none => rfl
    | some loc =>
      rcases hnew id loc hq with h | ⟨h6, h7, h8, h9⟩
      · rw [inv.none k h1 h2 hLk id h4 h5] at h; simp at h
      · exfalso
        rcases Nat.lt_or_ge k i with hlt | hge
        · have := (qgs t (i - (k + 1)) (k + 1) (by omega) (fun j j1 j2 => inv.nol j (by omega) (by omega))).1.2
          rw [show k + 1 + (i - (k + 1)) = i by omega] at this
          omega
        · have := (qgs t (k - (i + 1)) (i + 1) (by omega) (fun j j1 j2 => inv.nol j (by omega) (by omega))).1.2
          rw [show i + 1 + (k - (i + 1)) = k by omega] at this
          omega
  · cases hd : o.dst <;> simp [Act.put, inv.dfr]
  · cases hd : o.dst <;> simp [Act.put, inv.len]
  · by_cases hki : k = i
    · subst hki
      rw [ho] at hk
      simp only [Option.some.injEq] at hk; subst hk
      rw [hr'] at hu'
      simp only [Act.put, Array.getElem?_setIfInBounds] at hu'
      simp only [if_true] at hu'
      split at hu'
      · rename_i hlt
        simp only [Option.some.injEq] at hu'; subst hu'
        exact hr d hr' hlt
      · simp at hu'
    · have hLk := ((hiff k).1 hLk).resolve_left hki
      have hne : o.dst ≠ some d := dk.uniq i k o r d (fun h => hki h.symm) ho hk hr'
      have : a.tmps[d]? = some u' := by
        cases hd : o.dst with
        | none => rw [hd] at hu'; exact hu'
        | some d' =>
          rw [hd] at hu'
          simp only [Act.put, Array.getElem?_setIfInBounds] at hu'
          rw [if_neg (by rintro rfl; exact hne hd)] at hu'
          exact hu'
      exact (inv.wr k r d u' hk hr' hLk hkc this).mono hout.evo
  · have hki : k ≠ i := by omega
    refine (inv.early k hck (((hiff k).1 hLk).resolve_left hki)).mono hout fun r d hk hr' => ?_
    have hne : o.dst ≠ some d := dk.uniq i k o r d (fun h => hki h.symm) ho hk hr'
    cases hd : o.dst with
    | none => rfl
    | some d' =>
      simp only [Act.put, Array.getElem?_setIfInBounds]
      rw [if_neg (by rintro rfl; exact hne hd)]
  · have hne : o.dst ≠ some x := fun hd => by have := hno i o ho hd; have h2 := (hiff i).2 (.inl rfl); rw [this] at h2; simp at h2
    have : a.tmps[x]? = some u' := by
      cases hd : o.dst with
      | none => rw [hd] at hu'; exact hu'
      | some d' =>
        rw [hd] at hu'
        simp only [Act.put, Array.getElem?_setIfInBounds] at hu'
        rw [if_neg (by rintro rfl; exact hne hd)] at hu'
        exact hu'
    exact (inv.un x u' (fun k r hk hr' => (hfalse k (hno k r hk hr')).2) this).mono hout.evo

/-- Nothing of ours, to be kept off. -/
theorem allocOut1 {w : World} {G : Heap} {φ : Phi} {A : Avoid} (hst : St w G φ A) (o : Obj) : Out w G φ A (w.alloc o) G φ (fun c => A c ∨ c = w.heap.size) := by
  have hevo : Evo w G φ A (w.alloc o) G φ (fun c => A c ∨ c = w.heap.size) := ⟨fun c a t fr hc hn => ⟨⟨fr, by rw [heap_alloc_old w _ (lt_of_heap hc)]; exact hc⟩, fun h => by have := lt_of_heap hc; rcases h with h | h; exact hn h; omega⟩, Nat.le_refl _,
    fun i b' hb' _ => ⟨b', hb', rfl, rfl, rfl, rfl, fun loc hl => hl⟩, fun c hc => by unfold bsz; rw [heap_alloc_old w _ (Ow.lt hst hc)]⟩
  refine ⟨⟨hst.inj, fun c hc => .inl (hst.own c hc), fun c hc => ?_, fun i loc hl => ?_⟩,
    ⟨rfl, rfl, rfl, by simp, fun c hc _ => heap_alloc_old w _ hc, fun c hc => by unfold bsz; rw [heap_alloc_old w _ hc], fun c hc => .inl hc⟩, hevo, fun c hc _ => .inl hc⟩
  · simp only [World.size_alloc]
    rcases hc with h | h
    · have := hst.bnd c h; omega
    · omega
  obtain ⟨b', hg', hb'⟩ := hst.blk i loc hl
  refine ⟨b', hg', hb'.ver, hb'.sized, hb'.virt, fun c b0 h => ?_⟩
  obtain ⟨a, t, fr, h1, h2, h3, h4⟩ := hb'.here c b0 h
  exact ⟨a, t, fr, by rw [heap_alloc_old w _ (lt_of_heap h1)]; exact h1, h2, h3, fun i x j y v hx hy hv => ⟨(h4 i x j y v hx hy hv).1.mono hevo, (h4 i x j y v hx hy hv).2⟩⟩

/-- An early operation has come. -/
theorem Inv.stepE (inv : Inv C ops louds s H v w0 φ0 A0 listed a w b c φ A pn) (hst0 : St w0 (H 0) φ0 A0) (dk : DOK ops louds) {i : Nat} {o : Oper} (hci : c ≤ i) (ho : ops[i]? = some o) (hu0 : listed.getD i false = false) (hl : i ∉ louds) (hg : o.guard = Option.none) {t : TypeId} (hop : o.op = .alloc t) {d : Tmp} (hd : o.dst = some d)
    {ti : TI} {z : AV} (hti : C.E t = some ti) (hz : zeroA ti = some z) (ha : ∀ e ∈ o.after, Region.binds .any e = true → listed.getD e.on false = true) {arr : Array Value} {T : TypeId} (hsz : ti.sz ≤ arr.size) (hzl : z.cells.length = ti.sz)
    (hcl : ∀ (j : Nat) (y : AV) (v : Value), z.cells[j]? = some y → arr[j]? = some v → (∀ (w : World) (A : Avoid), FR w A y v) ∧ v.oneCell' = true) :
    Inv C ops louds s H v w0 φ0 A0 (listed.setIfInBounds i true) (a.put o.dst (.pointer (some ⟨w.heap.size, 0, Option.none⟩))) (w.alloc (.cells arr T)) b c φ (fun k => A k ∨ k = w.heap.size) (fun k => if k = i then w.heap.size else pn k) := by
  have hi : i < ops.size := (Array.getElem?_eq_some_iff.1 ho).1
  have hsi : i < listed.size := by rw [inv.size]; exact hi
  have hiff := getD_set_iff hsi
  have hout := allocOut1 inv.out.st (.cells arr T)
  have hfalse : ∀ k, (listed.setIfInBounds i true).getD k false = false → k ≠ i ∧ listed.getD k false = false := fun k hk => by
    have := (not_congr (hiff k)).1 (by rw [hk]; simp)
    refine ⟨fun h => this (.inl h), ?_⟩
    cases hq : listed.getD k false with
    | false => rfl
    | true => exact absurd (.inr hq) this
  have htm : ∀ (x : Tmp), o.dst ≠ some x → (a.put o.dst (.pointer (some ⟨w.heap.size, 0, Option.none⟩))).tmps[x]? = a.tmps[x]? := fun x hne => by
    rw [hd] at hne ⊢
    simp only [Act.put, Array.getElem?_setIfInBounds]
    rw [if_neg (by rintro rfl; exact hne rfl)]
  refine ⟨by simp [inv.size], fun k r hk hLk e he hb => ?_, inv.bc, inv.cn, inv.cl, inv.nol, fun k hk hkn => ?_, inv.base, inv.out.trans hst0 hout, fun k h1 h2 h3 id h4 h5 => inv.none k h1 h2 (hfalse k h3).2 id h4 h5, ?_, ?_, fun k r d' u' hk hr' hLk hkc hu' => ?_, fun k hck hLk => ?_, fun j k hj hk hLj hLk hp => ?_, fun x u' hno hu' => ?_⟩
  · rcases (hiff k).1 hLk with rfl | hLk
    · rw [ho] at hk
      simp only [Option.some.injEq] at hk; subst hk
      exact (hiff _).2 (.inr (ha e he hb))
    · exact (hiff _).2 (.inr (inv.shut k r hk hLk e he hb))
  · rw [hiff, ← inv.loud k hk hkn]
    constructor
    · rintro (rfl | h)
      · exact absurd hk hl
      · exact h
    · exact .inr
  · rw [hd]; simp [Act.put, inv.dfr]
  · rw [hd]; simp [Act.put, inv.len]
  · have hki : k ≠ i := by omega
    have hne : o.dst ≠ some d' := dk.uniq i k o r d' (fun h => hki h.symm) ho hk hr'
    rw [htm d' hne] at hu'
    exact (inv.wr k r d' u' hk hr' (((hiff k).1 hLk).resolve_left hki) hkc hu').mono hout.evo
  · by_cases hki : k = i
    · subst hki
      simp only [if_true]
      refine ⟨hl, o, t, d, ti, z, ho, hg, hop, hd, hti, hz, ⟨inv.out.post.size, by simp, .inr rfl, fun h => by have := Ow.lt inv.out.st h; omega, arr, T, (0, 0), heap_alloc_new w _, fun j _ h => absurd h.2 (Nat.not_lt_zero j), hsz, hzl, hcl⟩, fun u hu => ?_⟩
      rw [hd] at hu
      simp only [Act.put, Array.getElem?_setIfInBounds, if_true] at hu
      split at hu
      · simpa using hu.symm
      · simp at hu
    · simp only [if_neg hki]
      exact (inv.early k hck (((hiff k).1 hLk).resolve_left hki)).mono hout fun r d' hk hr' => htm d' (dk.uniq i k o r d' (fun h => hki h.symm) ho hk hr')
  · have one : ∀ k, c ≤ k → (listed.setIfInBounds i true).getD k false = true → k ≠ i → pn k ≠ w.heap.size := fun k hck hLk hki he => by
      obtain ⟨_, _, _, _, _, _, _, _, _, _, _, _, hp, _⟩ := inv.early k hck (((hiff k).1 hLk).resolve_left hki)
      have := hp.lt
      omega
    by_cases hji : j = i
    · by_cases hki : k = i
      · rw [hji, hki]
      · simp only [hji, if_true, if_neg hki] at hp
        exact absurd hp.symm (one k hk hLk hki)
    · by_cases hki : k = i
      · simp only [hki, if_true, if_neg hji] at hp
        exact absurd hp (one j hj hLj hji)
      · simp only [if_neg hji, if_neg hki] at hp
        exact inv.pinj j k hj hk (((hiff j).1 hLj).resolve_left hji) (((hiff k).1 hLk).resolve_left hki) hp
  · have hne : o.dst ≠ some x := fun hd => by have := hno i o ho hd; have h2 := (hiff i).2 (.inl rfl); rw [this] at h2; simp at h2
    rw [htm x hne] at hu'
    exact (inv.un x u' (fun k r hk hr' => (hfalse k (hno k r hk hr')).2) hu').mono hout.evo

/-- What was made early comes to be of the abstract heap. -/
theorem fill (t : TrD X C ops louds th K s H v act) (hst0 : St w0 (H 0) φ0 A0) {lst : Nat → Prop} {lo hi : Nat} (hq : ∀ j, lo ≤ j → j ≤ hi → QG (H j) (H hi)) (hlen : ∀ j k, lo ≤ j → j ≤ k → k ≤ hi → (H j).bs.length ≤ (H k).bs.length)
    (hinj : ∀ j k, lo ≤ j → lo ≤ k → lst j → lst k → pn j = pn k → j = k) (hout : Out w0 (H 0) φ0 A0 w (H hi) φ A) (hE : ∀ j, lo ≤ j → lst j → Early C ops louds w0 w φ A a j (pn j)) (hnone : ∀ id, (H lo).bs.length ≤ id → φ id = none) :
    ∀ m, lo ≤ m → m ≤ hi → ∃ φ2, Out w0 (H 0) φ0 A0 w (H hi) φ2 A ∧ Evo w (H hi) φ A w (H hi) φ2 A ∧ (∀ j, lo ≤ j → j < m → lst j → ∀ (o : Oper) (d : Tmp) (u : Value), ops[j]? = some o → o.dst = some d → a.tmps[d]? = some u → R w (H hi) φ2 A (v j) u) ∧
      (∀ id loc, φ2 id = some loc → φ id = some loc ∨ ∃ j, lo ≤ j ∧ j < m ∧ lst j ∧ (H j).bs.length ≤ id ∧ id < (H (j + 1)).bs.length) ∧ (∀ j, m ≤ j → lst j → Early C ops louds w0 w φ2 A a j (pn j)) := by
  intro m hm
  obtain ⟨k, rfl⟩ := Nat.exists_eq_add_of_le hm
  clear hm
  induction k with
  | zero => exact fun _ => ⟨φ, hout, .refl _ _ _ _, fun j h1 h2 => by omega, fun id loc h => .inl h, hE⟩
  | succ k ih =>
    intro hmh
    obtain ⟨φ2, k1, k2, k3, k4, k5⟩ := ih (by omega)
    rw [show lo + (k + 1) = lo + k + 1 by omega] at hmh ⊢
    have hm : lo ≤ lo + k := Nat.le_add_right _ _
    generalize lo + k = m at hm hmh k3 k4 k5 ⊢
    by_cases hL : lst m
    · obtain ⟨hnl, o, tt, d, ti, z, e1, e2, e3, e4, e5, e6, hp, hu⟩ := k5 m (Nat.le_refl _) hL
      obtain ⟨_, s2, s3, _, _⟩ := t.step m o (by rw [Array.getElem?_toList]; exact e1)
      have hact : act m = true := by
        simp only [guardA, e2, Option.some.injEq] at s2; exact s2.symm
      have hw := s3 hact
      obtain ⟨hv, hH⟩ : v m = .ptr (H m).bs.length (H m).st 0 0 ∧ H (m + 1) = (H m).new ti.sz false [z] := by
        obtain ⟨dst, op, ty, pos, after, guard⟩ := o
        simp only at e3; subst e3
        unfold wpOp at hw
        simp only [evalOp, e5, e6] at hw
        exact ⟨hw.2.1.symm, hw.2.2.symm⟩
      have hg1 := hq (m + 1) (by omega) (by omega)
      have hb : (H hi).get (H m).bs.length = some ⟨(H m).st, ti.sz, false, [z]⟩ := by
        refine hg1.1.1.1 _ _ ?_
        rw [hH]
        simp [Heap.get, Heap.new]
      have hver : (H m).st < (H hi).st := by
        have := hg1.1.1.2
        rw [hH] at this
        exact this
      have hφ : φ2 (H m).bs.length = none := by
        cases hc : φ2 (H m).bs.length with
        | none => rfl
        | some loc =>
          exfalso
          rcases k4 _ _ hc with h | ⟨j, h1, h2, _, _, h4⟩
          · rw [hnone _ (hlen lo m (Nat.le_refl _) hm (by omega))] at h; simp at h
          · have := hlen (j + 1) m (by omega) (by omega) (by omega)
            omega
      obtain ⟨arr, T, fr, h1, h2, h3, h4, h5⟩ := hp.here
      let φ3 : Phi := fun i => if i = (H m).bs.length then some (.at_ (pn m) 0) else φ2 i
      have hOw : ∀ c, Ow φ3 c → Ow φ2 c ∨ c = pn m := by
        rintro c ⟨i, b0, h⟩
        simp only [φ3] at h
        split at h
        · simp only [Option.some.injEq, Loc.at_.injEq] at h; exact .inr h.1.symm
        · exact .inl ⟨i, b0, h⟩
      have hevo : Evo w (H hi) φ2 A w (H hi) φ3 A := by
        refine ⟨fun c a t fr hc hn => ⟨⟨fr, hc⟩, hn⟩, Nat.le_refl _, fun i b' hb' _ => ⟨b', hb', rfl, rfl, rfl, rfl, fun loc hl => ?_⟩, fun _ _ => rfl⟩
        simp only [φ3]
        split
        · rename_i h; subst h; rw [hφ] at hl; simp at hl
        · exact hl
      have hst3 : St w (H hi) φ3 A := by
        refine ⟨fun i i' c b0 b1 h1 h2 => ?_, fun c hc => ?_, k1.st.bnd, fun i loc hl => ?_⟩
        · simp only [φ3] at h1 h2
          split at h1
          · rename_i hi1
            split at h2
            · rename_i hi2; omega
            · simp only [Option.some.injEq, Loc.at_.injEq] at h1
              exact absurd ⟨i', b1, by rw [h1.1]; exact h2⟩ hp.ow
          · split at h2
            · simp only [Option.some.injEq, Loc.at_.injEq] at h2
              exact absurd ⟨i, b0, by rw [h2.1]; exact h1⟩ hp.ow
            · exact k1.st.inj i i' c b0 b1 h1 h2
        · rcases hOw c hc with h | h
          · exact k1.st.own c h
          · rw [h]; exact hp.av
        · simp only [φ3] at hl
          split at hl
          · rename_i hi1; subst hi1
            simp only [Option.some.injEq] at hl; subst hl
            refine ⟨_, hb, hver, fun i x hx => ?_, by simp, fun c b0 h => ?_⟩
            · cases i with
              | zero => simp at hx; subst hx; exact h4
              | succ i => simp at hx
            simp only [Loc.at_.injEq] at h
            obtain ⟨rfl, rfl⟩ := h
            refine ⟨arr, T, fr, h1, h2, by simpa using h3, fun i x j y v hx hy hv => ?_⟩
            cases i with
            | zero =>
              simp only [List.getElem?_cons_zero, Option.some.injEq, Nat.zero_mul, Nat.zero_add] at hx hv; subst hx
              obtain ⟨g1, g2⟩ := h5 j y v hy hv
              exact ⟨.fr _ _ (g1 w A), g2⟩
            | succ i => simp at hx
          · obtain ⟨b', hg', hb'⟩ := k1.st.blk i loc hl
            refine ⟨b', hg', hb'.ver, hb'.sized, hb'.virt, fun c b0 h => ?_⟩
            obtain ⟨a, t, fr, h1, h2, h3, h4⟩ := hb'.here c b0 h
            exact ⟨a, t, fr, h1, h2, h3, fun i x j y v hx hy hv => ⟨(h4 i x j y v hx hy hv).1.mono hevo, (h4 i x j y v hx hy hv).2⟩⟩
      have hout3 : Out w0 (H 0) φ0 A0 w (H hi) φ3 A := by
        refine ⟨hst3, ⟨k1.post.os, k1.post.tape, k1.post.output, k1.post.size, k1.post.kept, k1.post.bsz, fun c hc => ?_⟩, k1.evo.trans hevo (fun c hc => k1.post.bsz c (Ow.lt hst0 hc)), k1.keep⟩
        rcases hOw c hc with h | h
        · exact k1.post.own c h
        · right; rw [h]; exact hp.old
      refine ⟨φ3, hout3, k2.trans hevo (fun _ _ => rfl), fun j j1 j2 j3 o' d' u' q1 q2 q3 => ?_, fun id loc h => ?_, fun j j1 j2 => ?_⟩
      · by_cases hjm : j = m
        · subst hjm
          rw [e1] at q1
          simp only [Option.some.injEq] at q1; subst q1
          rw [e4] at q2
          simp only [Option.some.injEq] at q2; subst q2
          rw [hu u' q3, hv]
          exact ptr_new hver (by simp [φ3])
        · exact (k3 j j1 (by omega) j3 o' d' u' q1 q2 q3).mono hevo
      · simp only [φ3] at h
        split at h
        · rename_i hid
          refine .inr ⟨m, hm, Nat.lt_succ_self _, hL, by omega, ?_⟩
          rw [hH]; simp [Heap.new]; omega
        · rcases k4 id loc h with h | ⟨j, q1, q2, q3⟩
          · exact .inl h
          · exact .inr ⟨j, q1, by omega, q3⟩
      · obtain ⟨g0, r, t', d', ti', z', g1, g2, g3, g4, g5, g6, g7, g8⟩ := k5 j (by omega) j2
        refine ⟨g0, r, t', d', ti', z', g1, g2, g3, g4, g5, g6, ⟨g7.old, g7.lt, g7.av, fun h => ?_, g7.here⟩, g8⟩
        rcases hOw _ h with h | h
        · exact g7.ow h
        · have := hinj j m (by omega) hm j2 hL h
          omega
    · refine ⟨φ2, k1, k2, fun j j1 j2 j3 => ?_, fun id loc h => ?_, fun j j1 j2 => k5 j (by omega) j2⟩
      · by_cases hjm : j = m
        · subst hjm; exact absurd j3 hL
        · exact k3 j j1 (by omega) j3
      · rcases k4 id loc h with h | ⟨j, q1, q2, q3⟩
        · exact .inl h
        · exact .inr ⟨j, q1, by omega, q3⟩
end draw
end Go.VS

/-
  VS, part 38: a region whose order is open ends as in the text's order.
-/
namespace Go.VS

section draw
variable {P : Program} {C : Ctx} {X : CallRel} {ops : Array Oper} {louds : List Nat} {th : List Nat} {K : Frm → Heap → Prop} {s : Nat → Frm} {H : Nat → Heap} {v : Nat → AV} {act : Nat → Bool}
variable {w0 : World} {φ0 : Phi} {A0 : Avoid} {listed : Array Bool} {a : Act} {w : World} {b c : Nat} {φ : Phi} {A : Avoid} {pn : Nat → Nat}

theorem Inv.past (inv : Inv C ops louds s H v w0 φ0 A0 listed a w b c φ A pn) (dk : DOK ops louds) {i : Nat} {o : Oper} (ho : ops[i]? = some o) (ha : ∀ e ∈ o.after, Region.binds .any e = true → listed.getD e.on false = true) : i ≤ c ∨ (i ∉ louds ∧ o.guard = Option.none ∧ earlyOp o.op = true ∧ ∃ d, o.dst = some d) := by
  rcases Nat.lt_or_ge c i with h | h
  · have hi : i < ops.size := (Array.getElem?_eq_some_iff.1 ho).1
    rcases inv.cl with hc | hc
    · omega
    · have hco := Array.getElem?_eq_getElem (xs := ops) (show c < ops.size by omega)
      rcases dk.after c i _ o hco ho hc h with hb | hb
      · exfalso
        have hL := bef_listed inv.shut dk.back i o ho ha c hb
        have := (inv.loud c hc (by omega)).1 hL
        have := inv.bc
        omega
      · exact .inr hb
  · exact .inl h

theorem Inv.stepL (inv : Inv C ops louds s H v w0 φ0 A0 listed a w b c φ A pn) (hst0 : St w0 (H 0) φ0 A0) (dk : DOK ops louds) (t : TrD X C ops louds th K s H v act) {o : Oper} (ho : ops[c]? = some o) (hl : c ∈ louds) (ha : ∀ e ∈ o.after, Region.binds .any e = true → listed.getD e.on false = true)
    {u : Value} {w' : World} {φ1 : Phi} {A1 : Avoid} (hout : Out w (H c) φ A w' (H (c + 1)) φ1 A1) (hr : R w' (H (c + 1)) φ1 A1 (v c) u) : ∃ c' φ2, Inv C ops louds s H v w0 φ0 A0 (listed.setIfInBounds c true) (a.put o.dst u) w' (c + 1) c' φ2 A1 pn := by
  have hi : c < ops.size := (Array.getElem?_eq_some_iff.1 ho).1
  have hsz : c < listed.size := by rw [inv.size]; exact hi
  have hiff := getD_set_iff hsz
  have hbc := inv.bc
  have hcu : listed.getD c false = false := by
    cases hq : listed.getD c false with
    | false => rfl
    | true => have := (inv.loud c hl hi).1 hq; omega
  have hfalse : ∀ k, (listed.setIfInBounds c true).getD k false = false → k ≠ c ∧ listed.getD k false = false := fun k hk => by
    have := (not_congr (hiff k)).1 (by rw [hk]; simp)
    refine ⟨fun h => this (.inl h), ?_⟩
    cases hq : listed.getD k false with
    | false => rfl
    | true => exact absurd (.inr hq) this
  have htm : ∀ (k : Nat) (r : Oper) (d : Tmp), k ≠ c → ops[k]? = some r → r.dst = some d → (a.put o.dst u).tmps[d]? = a.tmps[d]? := fun k r d hkc hk hr' => by
    have hne : o.dst ≠ some d := dk.uniq c k o r d (fun h => hkc h.symm) ho hk hr'
    cases hd : o.dst with
    | none => rfl
    | some d' =>
      simp only [Act.put, Array.getElem?_setIfInBounds]
      rw [if_neg (by rintro rfl; exact hne hd)]
  obtain ⟨c', k1, k2, k3, k4⟩ := next_loud louds ops.size (ops.size - (c + 1)) (c + 1) rfl (by omega)
  have hQ : ∀ j k, c + 1 ≤ j → j ≤ k → k ≤ c' → QG (H j) (H k) := fun j k h1 h2 h3 => by
    have := qgs t (k - j) j (by omega) (fun i i1 i2 => k4 i (by omega) (by omega))
    rwa [show j + (k - j) = k by omega] at this
  have hqg := hQ (c + 1) c' (Nat.le_refl _) k1 (Nat.le_refl _)
  have hlen : ∀ j k, c + 1 ≤ j → j ≤ k → k ≤ c' → (H j).bs.length ≤ (H k).bs.length := fun j k h1 h2 h3 => (hQ j k h1 h2 h3).1.2
  have hex := extOut hout.st hqg.1.1 hqg.2
  have hevo := hout.evo.trans hex.evo (fun k hk => by rw [(hout.post.trans hex.post).bsz k (Ow.lt inv.out.st hk)])
  have hE : ∀ j, c + 1 ≤ j → (listed.setIfInBounds c true).getD j false = true → Early C ops louds w0 w' φ1 A1 (a.put o.dst u) j (pn j) := fun j hj hL =>
    (inv.early j (by omega) (((hiff j).1 hL).resolve_left (by omega))).mono hout fun r d hk hr' => htm j r d (by omega) hk hr'
  obtain ⟨φ2, o2, ev2, r2, m2, e2⟩ := fill (lst := fun j => (listed.setIfInBounds c true).getD j false = true) t hst0 (fun j h1 h2 => hQ j c' h1 h2 (Nat.le_refl _)) hlen
    (fun j k hj hk hLj hLk hp => inv.pinj j k (by omega) (by omega) (((hiff j).1 hLj).resolve_left (by omega)) (((hiff k).1 hLk).resolve_left (by omega)) hp) ((inv.out.trans hst0 hout).trans hst0 hex) hE (fun id h => hout.st.new h) c' k1 (Nat.le_refl _)
  refine ⟨c', φ2, by simp [inv.size], fun k r hk hLk e he hb => ?_, k1, k2, k3, k4, fun k hk hkn => ?_, .inr ⟨by simpa using hl, Nat.succ_pos _⟩, o2, fun k h1 h2 h3 id h4 h5 => ?_, ?_, ?_, fun k r d u' hk hr' hLk hkc' hu' => ?_, fun k hck hLk => e2 k hck hLk,
    fun j k hj hk hLj hLk hp => inv.pinj j k (by omega) (by omega) (((hiff j).1 hLj).resolve_left (by omega)) (((hiff k).1 hLk).resolve_left (by omega)) hp, fun x u' hno hu' => ?_⟩
  · by_cases hkc : k = c
    · subst hkc
      rw [ho] at hk
      simp only [Option.some.injEq] at hk; subst hk
      exact (hiff _).2 (.inr (ha e he hb))
    · exact (hiff _).2 (.inr (inv.shut k r hk (((hiff k).1 hLk).resolve_left hkc) e he hb))
  · rw [hiff, inv.loud k hk hkn]
    constructor
    · rintro (h | h) <;> omega
    · intro h
      by_cases hkc : k = c
      · exact .inl hkc
      · right
        rcases Nat.lt_or_ge k b with h' | h'
        · exact h'
        · exact absurd hk (inv.nol k h' (by omega))
  · cases hp : φ2 id with
    | none => rfl
    | some loc =>
      exfalso
      rcases m2 id loc hp with h | ⟨j, j1, j2, j3, j4, j5⟩
      · rw [hout.st.new (Nat.le_trans (hlen (c + 1) k (Nat.le_refl _) h1 (by omega)) h4)] at h; simp at h
      · have : j = k := by
          rcases Nat.lt_trichotomy j k with h | h | h
          · have := hlen (j + 1) k (by omega) (by omega) (by omega); omega
          · exact h
          · have := hlen (k + 1) j (by omega) (by omega) (by omega); omega
        subst this
        rw [h3] at j3; simp at j3
  · cases hd : o.dst <;> simp [Act.put, inv.dfr]
  · cases hd : o.dst <;> simp [Act.put, inv.len]
  · by_cases hki : k = c
    · subst hki
      rw [ho] at hk
      simp only [Option.some.injEq] at hk; subst hk
      rw [hr'] at hu'
      simp only [Act.put, Array.getElem?_setIfInBounds] at hu'
      simp only [if_true] at hu'
      split at hu'
      · rename_i hlt
        simp only [Option.some.injEq] at hu'; subst hu'
        exact (hr.mono hex.evo).mono ev2
      · simp at hu'
    · rcases Nat.lt_or_ge k c with hlt | hge
      · rw [htm k r d hki hk hr'] at hu'
        exact ((inv.wr k r d u' hk hr' (((hiff k).1 hLk).resolve_left hki) hlt hu').mono hevo).mono ev2
      · exact r2 k (by omega) hkc' hLk r d u' hk hr' hu'
  · have hne : o.dst ≠ some x := fun hd => by have := hno c o ho hd; have h2 := (hiff c).2 (.inl rfl); rw [this] at h2; simp at h2
    have : a.tmps[x]? = some u' := by
      cases hd : o.dst with
      | none => rw [hd] at hu'; exact hu'
      | some d' =>
        rw [hd] at hu'
        simp only [Act.put, Array.getElem?_setIfInBounds] at hu'
        rw [if_neg (by rintro rfl; exact hne hd)] at hu'
        exact hu'
    exact ((inv.un x u' (fun k r hk hr' => (hfalse k (hno k r hk hr')).2) this).mono hevo).mono ev2

theorem late_quiet {op : Op} (h : lateOp op = true) : quietOp op = true := by
  cases op <;> first | rfl | (simp [lateOp] at h)

/-- How much is left. -/
def left (ops : Array Oper) (listed : Array Bool) : Nat := ((List.range ops.size).filter fun k => !listed.getD k false).length

theorem left_set {ops : Array Oper} {listed : Array Bool} {i : Nat} (hs : listed.size = ops.size) (hi : i < ops.size) (hu : listed.getD i false = false) : left ops (listed.setIfInBounds i true) < left ops listed := by
  have hiff := getD_set_iff (listed := listed) (i := i) (by omega)
  have he : ((List.range ops.size).filter fun k => !(listed.setIfInBounds i true).getD k false) = (((List.range ops.size).filter fun k => !listed.getD k false).filter fun k => !(listed.setIfInBounds i true).getD k false) := by
    rw [List.filter_filter]
    refine List.filter_congr fun k _ => ?_
    cases hq : (listed.setIfInBounds i true).getD k false with
    | true => simp
    | false =>
      have : listed.getD k false = false := by
        cases hq2 : listed.getD k false with
        | false => rfl
        | true => rw [(hiff k).2 (.inr hq2)] at hq; simp at hq
      simp only [this, Bool.not_false, Bool.and_self]
  unfold left
  rw [he]
  refine List.length_filter_lt_length_iff_exists.2 ⟨i, List.mem_filter.2 ⟨List.mem_range.2 hi, by rw [hu]; rfl⟩, ?_⟩
  rw [(hiff i).2 (.inl rfl)]
  simp

theorem draw_key (hE : ∀ t ti, C.E t = some ti → TyOK P t ti) (hX : ∀ f ys H K, X f ys H K → Sim P f ys H K) (dk : DOK ops louds) (t : TrD X C ops louds th K s H v act) (hst0 : St w0 (H 0) φ0 A0) {Q : Exit → Act → World → Prop}
    (hq : ∀ s' H' φ' A' a' w', Out w0 (H 0) φ0 A0 w' H' φ' A' → SF w' H' φ' A' s' a' → K s' H' → Q .normal a' w') :
    ∀ (fuel : Nat) (listed : Array Bool) (a : Act) (w : World) (b c : Nat) (φ : Phi) (A : Avoid) (pn : Nat → Nat), Inv C ops louds s H v w0 φ0 A0 listed a w b c φ A pn → left ops listed ≤ fuel → wpAny P .any ops Q fuel listed a w := by
  have done : ∀ (listed : Array Bool) (a : Act) (w : World) (b c : Nat) (φ : Phi) (A : Avoid) (pn : Nat → Nat), Inv C ops louds s H v w0 φ0 A0 listed a w b c φ A pn → Region.ready .any ops listed = [] → Q .normal a w := by
    intro listed a w b c φ A pn inv hr
    have all : ∀ k, k < ops.size → listed.getD k false = true := by
      intro k
      induction k using Nat.strongRecOn with
      | _ k ih =>
        intro hk
        cases hq : listed.getD k false with
        | true => rfl
        | false =>
          exfalso
          have ho := Array.getElem?_eq_getElem (xs := ops) hk
          have : k ∈ Region.ready .any ops listed := mem_ready.2 ⟨getD_in (by rw [inv.size]; exact hk) hq, _, ho, fun e he hb => by
            have hlt := dk.back k _ ho e he hb
            exact ih e.on hlt (by omega)⟩
          rw [hr] at this
          cases this
    have hcn : c = ops.size := by
      rcases inv.cl with h | h
      · exact h
      · rcases Nat.lt_or_ge c ops.size with h' | h'
        · have := (inv.loud c h h').1 (all c h')
          have := inv.bc
          omega
        · have := inv.cn; omega
    obtain ⟨hl, hg⟩ := sget dk t ops.size (Nat.le_refl _)
    have hfin := t.fin
    rw [Array.length_toList] at hfin
    have hout := inv.out
    rw [hcn] at hout
    refine hq (s ops.size) (H ops.size) φ A a w hout ⟨by rw [hl, inv.len], fun x y u hx hu => ?_, inv.dfr⟩ hfin
    have hxl : x < (s 0).length := by rw [← hl]; exact (List.getElem?_eq_some_iff.1 hx).1
    have hy : (s ops.size).getD x .undef = y := by simp [List.getD, hx]
    by_cases hw : ∃ (k : Nat) (r : Oper), ops[k]? = some r ∧ r.dst = some x
    · obtain ⟨k, r, hk, hr⟩ := hw
      have hkl : k < ops.size := (Array.getElem?_eq_some_iff.1 hk).1
      rw [(hg x hxl).1 k r hkl hk hr] at hy
      subst hy
      have := inv.wr k r x u hk hr (all k hkl) (by omega) hu
      rw [hcn] at this; exact this
    · rw [(hg x hxl).2 (fun k' o' _ hok' hd' => hw ⟨k', o', hok', hd'⟩)] at hy
      subst hy
      have := inv.un x u (fun k' o' hok' hd' => absurd ⟨k', o', hok', hd'⟩ hw) hu
      rw [hcn] at this; exact this
  intro fuel
  induction fuel with
  | zero =>
    intro listed a w b c φ A pn inv hle
    have hr : Region.ready .any ops listed = [] := by
      cases hq : Region.ready .any ops listed with
      | nil => rfl
      | cons i rs =>
        exfalso
        have hm : i ∈ Region.ready .any ops listed := by rw [hq]; simp
        obtain ⟨hu, o, ho, _⟩ := mem_ready.1 hm
        have hi : i < ops.size := (Array.getElem?_eq_some_iff.1 ho).1
        have : i ∈ ((List.range ops.size).filter fun k => !listed.getD k false) := List.mem_filter.2 ⟨List.mem_range.2 hi, by rw [getD_both hu]; rfl⟩
        have := List.length_pos_of_mem this
        unfold left at hle
        omega
    exact ⟨hr, done listed a w b c φ A pn inv hr⟩
  | succ fuel ih =>
    intro listed a w b c φ A pn inv hle
    refine ⟨done listed a w b c φ A pn inv, fun i hi => ?_⟩
    obtain ⟨hu1, o, ho, ha⟩ := mem_ready.1 hi
    have hu := getD_both hu1
    have hin : i < ops.size := (Array.getElem?_eq_some_iff.1 ho).1
    have hleft := left_set inv.size hin hu
    have hpast := inv.past dk ho ha
    obtain ⟨st1, st2, st3, st4, st5⟩ := t.step i o (by rw [Array.getElem?_toList]; exact ho)
    rw [Nat.zero_add] at st3
    by_cases hple : i ≤ c
    case neg =>
      -- an early one
      obtain ⟨hnl, hg, he, d, hd⟩ := hpast.resolve_left hple
      obtain ⟨tt, hop⟩ : ∃ tt, o.op = .alloc tt := by
        cases hh : o.op <;> rw [hh] at he <;> simp [earlyOp] at he
        exact ⟨_, rfl⟩
      have hact : act i = true := by
        simp only [guardA, hg, Option.some.injEq] at st2; exact st2.symm
      have h3 := st3 hact
      obtain ⟨ti, z, hti, hz⟩ : ∃ ti z, C.E tt = some ti ∧ zeroA ti = some z := by
        obtain ⟨dst, op, ty, pos, after, guard⟩ := o
        simp only at hop; subst hop
        unfold wpOp at h3
        simp only [evalOp] at h3
        cases hti : C.E tt with
        | none => rw [hti] at h3; exact h3.2.elim
        | some ti =>
          rw [hti] at h3
          cases hz : zeroA ti with
          | none => simp only [hz] at h3; exact h3.2.elim
          | some z => exact ⟨ti, z, rfl, hz⟩
      obtain ⟨zv, e1, e2, e3, e4, _, e5⟩ := zero_ok (hE _ _ hti) hz w
      have hrun : (execOp a.eval o).run P w = .ok (.value (.pointer (some ⟨w.heap.size, 0, none⟩))) (w.alloc (.cells zv.cells tt)) := by
        obtain ⟨dst, op, ty, pos, after, guard⟩ := o
        simp only at hop; subst hop
        show ((do pure (.value (← Instr.alloc tt true (.tuple #[]))) : Sem Next).run P w) = _
        simp [Instr.alloc, e1, newVar, newRow]
      unfold Go.wpOp
      rw [ho]
      simp only
      have hw : Region.wanted o (yielded ops a.tmps) = true := by simp [Region.wanted, hg]
      rw [if_pos hw]
      refine .inl ?_
      show o.upon P a _ Q _
      rw [hrun]
      exact ih _ _ _ _ _ _ _ _ (inv.stepE hst0 dk (by omega) ho hu hnl hg hop hd hti hz ha (by rw [e2]; exact Nat.le_refl _) (by rw [e3, e4]) fun j y v hy hv => by
        rw [e3] at hy
        exact ⟨fun w A => (e5 w A j y v hy hv).1, (e5 w A j y v hy hv).2⟩) (by omega)
    replace hpast := hple
    unfold Go.wpOp
    rw [ho]
    simp only
    by_cases hloud : i ∈ louds
    · -- a loud one
      have hic : i = c := by
        rcases Nat.lt_or_ge i c with h | h
        · exfalso
          have hb : ¬ i < b := fun h => by have := (inv.loud i hloud hin).2 h; rw [hu] at this; simp at this
          exact inv.nol i (by omega) h hloud
        · omega
      subst hic
      have hop := inv.opnd dk t hpast ho hu ha (m := i) (by omega) (Nat.le_refl _) (.inl rfl)
      have hw := guard_wanted (H := H i) (φ := φ) (A := A) (w := w) (s := s i) (a := a) (fun j want x hg hx => inv.look dk t hpast ho hu ha (m := i) (by omega) (Nat.le_refl _) (.inl rfl) (by
        unfold Oper.looksAt
        refine List.mem_append.2 (.inr ?_)
        rw [hg]; simp only; rw [hx]; simp)) st2
      cases hact : act i with
      | true =>
        rw [hact] at hw
        rw [if_pos hw]
        have h3 := st3 hact
        rw [show (!louds.contains i) = false by simpa using hloud] at h3
        refine .inl (opSim hE hX inv.out.st hop h3 fun x u w' H' φ' A' k1 k2 k3 => ?_)
        obtain ⟨rfl, rfl⟩ := k3
        obtain ⟨c', φ2, inv'⟩ := inv.stepL hst0 dk t ho hloud ha k1 k2
        exact ih _ _ _ _ _ _ _ _ inv' (by omega)
      | false =>
        rw [hact] at hw
        rw [if_neg (by rw [hw]; simp)]
        obtain ⟨h4, h5⟩ := st4 hact
        obtain ⟨c', φ2, inv'⟩ := inv.stepL hst0 dk t ho hloud ha (u := undef) (w' := w) (φ1 := φ) (A1 := A) (by rw [h5]; exact .refl inv.out.st) (by rw [h4]; exact .fr _ _ (.tup [] #[] rfl (by simp)))
        exact ih _ _ _ _ _ _ _ _ inv' (by omega)
    · have hic : i < c := by
        rcases Nat.lt_or_ge i c with h | h
        · exact h
        · have : i = c := by omega
          subst this
          rcases inv.cl with h' | h'
          · omega
          · exact absurd h' hloud
      have hcn := inv.cn
      rcases Nat.lt_or_ge i b with hib | hib
      · -- late
        obtain ⟨hb1, hb2⟩ : b - 1 ∈ louds ∧ 0 < b := by
          rcases inv.base with h | h
          · omega
          · exact h
        have hbc := inv.bc
        have hbo := Array.getElem?_eq_getElem (xs := ops) (show b - 1 < ops.size by omega)
        have hLb := (inv.loud (b - 1) hb1 (by omega)).2 (by omega)
        have hib' : i < b - 1 := by
          rcases Nat.lt_or_ge i (b - 1) with h | h
          · exact h
          · have : i = b - 1 := by omega
            subst this
            exact absurd hb1 hloud
        have hbef : ((bef ops.toList).getD (b - 1) 0).testBit i = false := by
          cases hq : ((bef ops.toList).getD (b - 1) 0).testBit i with
          | false => rfl
          | true =>
            have := bef_listed inv.shut dk.back (b - 1) _ hbo (inv.shut (b - 1) _ hbo hLb) i hq
            rw [hu] at this; simp at this
        obtain ⟨_, hg, hlo, ⟨d, hd⟩, hlk⟩ := dk.late (b - 1) i _ o hbo ho hb1 hib' hbef
        obtain ⟨_, _, _, _, hch⟩ := t.step (b - 1) _ (by rw [Array.getElem?_toList]; exact hbo)
        rw [Nat.zero_add, show b - 1 + 1 = b by omega] at hch
        have hchk := hch i (by
          unfold lateOf
          rw [if_pos (by simpa using hb1)]
          exact List.mem_filter.2 ⟨List.mem_range.2 hib', by rw [hbef]; rfl⟩)
        unfold lateChk at hchk
        rw [ho] at hchk
        simp only [hd] at hchk
        have hop := inv.opnd dk t hpast ho hu ha (m := b) (by omega) (by omega) (.inr hlk)
        have hqg := qgs t (c - b) b (by omega) (fun k h1 h2 => inv.nol k h1 (by omega))
        rw [show b + (c - b) = c by omega] at hqg
        have hw : Region.wanted o (yielded ops a.tmps) = true := by simp [Region.wanted, hg]
        rw [if_pos hw]
        refine .inl ((simQuiet hE inv.out.st hqg.1.1 hqg.1.1 (fun h => absurd h (Nat.lt_irrefl _)) (late_quiet hlo) hop hchk).upon fun u w' φ' A' k1 k2 k3 => ?_)
        refine ih _ _ _ _ _ _ _ _ (inv.stepQ hst0 dk t hic ho hloud ha k1 (fun d' hd' hlt => ?_) (fun id loc h => ?_)) (by omega)
        · rw [hd] at hd'
          simp only [Option.some.injEq] at hd'; subst hd'
          rw [← ((sget dk t b (by omega)).2 d (by rw [inv.len]; exact hlt)).1 i o hib ho hd]
          exact k2
        · rcases k3 id loc h with h | ⟨h1, h2⟩
          · exact .inl h
          · omega
      · -- in time
        have hop := inv.opnd dk t hpast ho hu ha (m := i) (by omega) (Nat.le_refl _) (.inl rfl)
        have hw := guard_wanted (H := H c) (φ := φ) (A := A) (w := w) (s := s i) (a := a) (fun j want x hg hx => inv.look dk t hpast ho hu ha (m := i) (by omega) (Nat.le_refl _) (.inl rfl) (by
          unfold Oper.looksAt
          refine List.mem_append.2 (.inr ?_)
          rw [hg]; simp only; rw [hx]; simp)) st2
        cases hact : act i with
        | true =>
          rw [hact] at hw
          rw [if_pos hw]
          have h3 := st3 hact
          have hnl : (!louds.contains i) = true := by simpa using hloud
          rw [hnl] at h3
          have hq1 := qgs t (c - i) i (by omega) (fun k h1 h2 => inv.nol k (by omega) (by omega))
          rw [show i + (c - i) = c by omega] at hq1
          have hq2 := qgs t (c - (i + 1)) (i + 1) (by omega) (fun k h1 h2 => inv.nol k (by omega) (by omega))
          rw [show i + 1 + (c - (i + 1)) = c by omega] at hq2
          refine .inl (VS.stepQ hE hX inv.out.st hop hq1.1.1 ⟨hq2.1.1, fun id h1 h2 => inv.none i hib hic hu id h1 h2⟩ h3 fun u w' φ' A' k1 k2 k3 => ?_)
          refine ih _ _ _ _ _ _ _ _ (inv.stepQ hst0 dk t hic ho hloud ha k1 (fun d' _ _ => k2) (fun id loc h => ?_)) (by omega)
          rcases k3 id loc h with h | h
          · exact .inl h
          · exact .inr ⟨hib, hic, h⟩
        | false =>
          rw [hact] at hw
          rw [if_neg (by rw [hw]; simp)]
          obtain ⟨h4, h5⟩ := st4 hact
          refine ih _ _ _ _ _ _ _ _ (inv.stepQ hst0 dk t hic ho hloud ha (.refl inv.out.st) (fun d' _ _ => by rw [h4]; exact .fr _ _ (.tup [] #[] rfl (by simp))) (fun id loc h => .inl h)) (by omega)

theorem drawSim (hXe : Exact X) (_hm : P.follows .mixedOrders = true) (hE : ∀ t ti, C.E t = some ti → TyOK P t ti) (hX : ∀ f ys H K, X f ys H K → Sim P f ys H K) : DrawSim P C X := by
  intro ops louds th s0 H0 K Q w φ A a hd h hst hs hq
  have dk := dok_of hd
  obtain ⟨s, H, v, act, rfl, rfl, t⟩ := tr_of hXe ops.toList 0 s0 H0 h
  have hevo : Evo w (H 0) φ A { w with drawn := w.drawn + 1 } (H 0) φ A := ⟨fun c arr T fr hc hn => ⟨⟨fr, hc⟩, hn⟩, Nat.le_refl _, fun id b h _ => ⟨b, h, rfl, rfl, rfl, rfl, fun _ h => h⟩, fun _ _ => rfl⟩
  have hst1 : St { w with drawn := w.drawn + 1 } (H 0) φ A := by
    refine ⟨hst.inj, hst.own, hst.bnd, fun id loc hl => ?_⟩
    obtain ⟨b, hb, hok⟩ := hst.blk id loc hl
    refine ⟨b, hb, hok.ver, hok.sized, hok.virt, fun c b0 he => ?_⟩
    obtain ⟨arr, T, fr, k1, k2, k3, k4⟩ := hok.here c b0 he
    exact ⟨arr, T, fr, k1, k2, k3, fun i x j y v hx hy hv => ⟨(k4 i x j y v hx hy hv).1.mono hevo, (k4 i x j y v hx hy hv).2⟩⟩
  have ho1 : Out w (H 0) φ A { w with drawn := w.drawn + 1 } (H 0) φ A := ⟨hst1, ⟨rfl, rfl, rfl, Nat.le_refl _, fun _ _ _ => rfl, fun _ _ => rfl, fun _ h => .inl h⟩, hevo, fun _ h _ => h⟩
  obtain ⟨c, k1, k2, k3, k4⟩ := next_loud louds ops.size (ops.size - 0) 0 rfl (Nat.zero_le _)
  have hqg := qgs t c 0 (by omega) (fun k h1 h2 => k4 k h1 (by omega))
  rw [Nat.zero_add] at hqg
  have hex := extOut hst1 hqg.1.1 hqg.2
  refine draw_key hE hX dk t hst hq ops.size _ a _ 0 c φ A (fun _ => 0) ⟨by simp, fun i o ho hl => by have hl' : (Array.replicate ops.size false).getD i false = true := hl; rw [getD_replicate_false] at hl'; simp at hl', k1, k2, k3, k4, fun i _ _ => by rw [getD_replicate_false]; simp, .inl rfl, ho1.trans hst hex, fun i _ _ _ id h4 h5 => ?_, hs.dfr, hs.len, fun k o d u _ _ hl => by rw [getD_replicate_false] at hl; simp at hl, fun k _ hl => by rw [getD_replicate_false] at hl; simp at hl, fun j k _ _ hl => by rw [getD_replicate_false] at hl; simp at hl, fun x u _ hu => ?_⟩ ?_
  · refine hst.new ?_
    rename_i h1 h2 h3
    have := (qgs t i 0 (by omega) (fun k h1 h2 => k4 k h1 (by omega))).1.2
    rw [Nat.zero_add] at this
    omega
  · have hx := (hs.mono (ho1.evo.trans hex.evo (fun _ _ => rfl))).ev (.tmp x)
    simp only [ev, Act.eval] at hx
    rw [Array.getD_eq_getD_getElem?, hu] at hx
    exact hx
  · unfold left
    exact Nat.le_trans (List.length_filter_le _ _) (by simp)
end draw

end Go.VS

/-
  VS, part 39: rules for what is shown of a call.
-/
namespace Go.VS

section mono
variable {X X' : CallRel} {C : Ctx} (hX : ∀ f ys H (K K' : AV → Heap → Prop), (∀ v H, K v H → K' v H) → X f ys H K → X' f ys H K')
include hX

theorem wpCallQ_mono {f : FuncId} {args : List AV} {th : Bool} {H : Heap} {K K' : AV → Heap → Prop} (hK : ∀ v H, K v H → K' v H) (h : wpCallQ X C f args th H K) : wpCallQ X' C f args th H K' := by
  unfold wpCallQ at h ⊢
  split at h
  · exact h.elim
  rename_i ys lent hy
  obtain ⟨y, h1, h2, h3⟩ := h
  refine ⟨y, hX _ _ _ _ _ (fun _ _ h => h) h1, h2, ?_⟩
  split at h3
  · rename_i ht; rw [if_pos ht]; exact hK _ _ h3
  · rename_i ht; rw [if_neg ht]; exact hK _ _ h3

theorem wpOp_mono' {q th : Bool} {o : Oper} {s : Frm} {H : Heap} {K K' : AV → Heap → Prop} (hK : ∀ v H, K v H → K' v H) (h : wpOp X C q th o s H K) : wpOp X' C q th o s H K' := by
  unfold wpOp at h ⊢
  split at h
  · obtain ⟨hq, h⟩ := h
    refine ⟨hq, ?_⟩
    split at h
    · exact hK _ _ h
    · exact h.elim
  · split at h
    · cases q with
      | true => exact wpCallQ_mono hX hK h
      | false =>
        rcases h with h | h
        · exact .inl (hX _ _ _ _ _ hK h)
        · exact .inr (wpCallQ_mono hX hK h)
    · exact h.elim
  · obtain ⟨hq, h⟩ := h
    refine ⟨hq, ?_⟩
    split at h
    · exact hK _ _ h
    · exact h.elim

omit hX in
theorem lateAll_mono {ops : Array Oper} {s : Frm} {H : Heap} {K K' : Prop} (hK : K → K') : ∀ (l : List Nat), lateAll C ops s H K l → lateAll C ops s H K' l
  | [], h => hK h
  | _j :: js, h => ⟨h.1, lateAll_mono hK js h.2⟩

theorem wpOpsA_mono {ops : Array Oper} {q : Nat → Bool} {late : Nat → List Nat} {th : List Nat} {K K' : Frm → Heap → Prop} (hK : ∀ s H, K s H → K' s H) : ∀ (l : List Oper) (i : Nat) (s : Frm) (H : Heap), wpOpsA X C ops q late th K l i s H → wpOpsA X' C ops q late th K' l i s H
  | [], i, s, H, h => hK s H h
  | o :: rest, i, s, H, h => by
    simp only [wpOpsA] at h ⊢
    cases hg : o.guard with
    | none =>
      rw [hg] at h
      exact wpOp_mono' hX (fun v H' hv => lateAll_mono (wpOpsA_mono hK rest (i + 1) _ _) _ hv) h
    | some p =>
      rw [hg] at h
      obtain ⟨v, H', h1, h2⟩ := h
      refine ⟨v, H', ?_, lateAll_mono (wpOpsA_mono hK rest (i + 1) _ _) _ h2⟩
      split at h1
      · split at h1
        · rename_i hb; simp only [hb, if_true]; exact wpOp_mono' hX (fun _ _ h => h) h1
        · rename_i hb; simp only [hb]; exact h1
      · exact h1.elim

theorem wpOpsN_mono {ops : Array Oper} {th : List Nat} {fz : List (Nat × List (List Nat × List Sh))} {K K' : Frm → Heap → Prop} (hK : ∀ s H, K s H → K' s H) : ∀ (l : List Oper) (i : Nat) (s : Frm) (H : Heap), wpOpsN X C ops th fz K l i s H → wpOpsN X' C ops th fz K' l i s H
  | [], i, s, H, h => hK s H h
  | o :: rest, i, s, H, h => by
    simp only [wpOpsN] at h ⊢
    obtain ⟨s1, H1, hf, h⟩ := h
    refine ⟨s1, H1, hf, ?_⟩
    cases hg : o.guard with
    | none =>
      rw [hg] at h
      exact wpOp_mono' hX (fun v H' hv => wpOpsN_mono hK rest (i + 1) _ _ hv) h
    | some p =>
      rw [hg] at h
      obtain ⟨v, H', h1, h2⟩ := h
      refine ⟨v, H', ?_, wpOpsN_mono hK rest (i + 1) _ _ h2⟩
      split at h1
      · split at h1
        · rename_i hb; simp only [hb, if_true]; exact wpOp_mono' hX (fun _ _ h => h) h1
        · rename_i hb; simp only [hb]; exact h1
      · exact h1.elim

theorem wpC_mono : ∀ (c : AC) (s : Frm) (H : Heap) (K K' : Ex → Frm → Heap → Prop), (∀ e s H, K e s H → K' e s H) → wpC X C c s H K → wpC X' C c s H K' := by
  intro c
  induction c with
  | skip => intro s H K K' hK h; exact hK _ _ _ h
  | ret => intro s H K K' hK h; exact hK _ _ _ h
  | exit id => intro s H K K' hK h; exact hK _ _ _ h
  | seq a b iha ihb =>
    intro s H K K' hK h
    simp only [wpC] at h ⊢
    refine iha s H _ _ (fun e s' H' h => ?_) h
    cases e with
    | normal => exact ihb s' H' K K' hK h
    | exit id => exact hK _ _ _ h
    | ret => exact hK _ _ _ h
  | cond c a b iha ihb =>
    intro s H K K' hK h
    simp only [wpC] at h ⊢
    split at h
    · split at h
      · rename_i hb; simp only [hb, if_true]; exact iha s H K K' hK h
      · rename_i hb; simp only [hb]; exact ihb s H K K' hK h
    · exact h.elim
  | block id keep a ih =>
    intro s H K K' hK h
    simp only [wpC] at h ⊢
    refine ih s H _ _ (fun e s' H' h => ?_) h
    cases e with
    | normal => exact hK _ _ _ h
    | ret => exact hK _ _ _ h
    | exit j =>
      simp only at h ⊢
      split at h
      · rename_i hj; rw [if_pos hj]; exact hK _ _ _ h
      · rename_i hj; rw [if_neg hj]; exact hK _ _ _ h
  | loop sp a ih =>
    intro s H K K' hK h
    simp only [wpC] at h ⊢
    intro Y hY
    refine h Y fun s' H' hB => hY s' H' (ih s' H' _ _ (fun e s2 H2 h => ?_) hB)
    cases e with
    | normal => exact h
    | exit id => exact hK _ _ _ h
    | ret => exact hK _ _ _ h
  | region id ops draw louds th fz =>
    intro s H K K' hK h
    cases draw with
    | true =>
      simp only [wpC] at h ⊢
      exact ⟨h.1, wpOpsA_mono hX (fun s H h => hK _ s H h) _ _ _ _ h.2⟩
    | false =>
      simp only [wpC] at h ⊢
      exact wpOpsN_mono hX (fun s H h => hK _ s H h) _ _ _ _ h
  | frz l kp =>
    intro s H K K' hK h
    simp only [wpC] at h ⊢
    split at h
    · exact hK _ _ _ h
    · exact h
  | bad => intro s H K K' hK h; exact h
end mono

/-- A relation that may be asked for less. -/
def Up (X : CallRel) : Prop := ∀ f ys H (K K' : AV → Heap → Prop), (∀ v H, K v H → K' v H) → X f ys H K → X f ys H K'

/-- One round of a loop. -/
theorem LoopP.round {X : CallRel} (hU : Up X) {C : Ctx} {c : AC} {next : Frm → Heap → Frm × Heap} {K : Ex → Frm → Heap → Prop} {s : Frm} {H : Heap}
    (h : wpC X C c s H (fun e s' H' => match e with
      | .normal => LoopP (wpC X C c) next K (next s' H').1 (next s' H').2
      | e => K e s' H')) : LoopP (wpC X C c) next K s H := by
  intro Y hY
  refine hY s H (wpC_mono hU c s H _ _ (fun e s' H' h => ?_) h)
  cases e with
  | normal => exact h Y hY
  | exit id => exact h
  | ret => exact h

/-- What a piece of code comes to is one thing. -/
theorem wpOpsA_exact {X : CallRel} {C : Ctx} (hU : Up X) (hXe : Exact X) {ops : Array Oper} {q : Nat → Bool} {late : Nat → List Nat} {th : List Nat} {K : Frm → Heap → Prop} : ∀ (l : List Oper) (i : Nat) (s : Frm) (H : Heap), wpOpsA X C ops q late th K l i s H → ∃ s' H', wpOpsA X C ops q late th (fun s1 H1 => s1 = s' ∧ H1 = H') l i s H ∧ K s' H'
  | [], i, s, H, h => ⟨s, H, ⟨rfl, rfl⟩, h⟩
  | o :: rest, i, s, H, h => by
    have late_ex : ∀ (ls : List Nat) (s1 : Frm) (H1 : Heap), lateAll C ops s1 H1 (wpOpsA X C ops q late th K rest (i + 1) s1 H1) ls → ∃ s' H', lateAll C ops s1 H1 (wpOpsA X C ops q late th (fun s1 H1 => s1 = s' ∧ H1 = H') rest (i + 1) s1 H1) ls ∧ K s' H' := by
      intro ls s1 H1 h
      obtain ⟨h1, h2⟩ := lateAll_iff _ _ _ _ _ _ h
      obtain ⟨s', H', h3, h4⟩ := wpOpsA_exact hU hXe rest (i + 1) s1 H1 h2
      refine ⟨s', H', ?_, h4⟩
      clear h h2 h4
      induction ls with
      | nil => exact h3
      | cons j js ih => exact ⟨h1 j (by simp), ih fun k hk => h1 k (by simp [hk])⟩
    simp only [wpOpsA] at h ⊢
    cases hg : o.guard with
    | none =>
      rw [hg] at h
      simp only at h ⊢
      obtain ⟨v, H1, h1, h2⟩ := wpOp_exact hXe h
      obtain ⟨s', H', h3, h4⟩ := late_ex _ _ _ h2
      exact ⟨s', H', wpOp_mono' hU (fun v1 H2 e => by obtain ⟨rfl, rfl⟩ := e; exact h3) h1, h4⟩
    | some p =>
      rw [hg] at h
      simp only at h ⊢
      obtain ⟨v, H1, h1, h2⟩ := h
      obtain ⟨s', H', h3, h4⟩ := late_ex _ _ _ h2
      exact ⟨s', H', ⟨v, H1, h1, h3⟩, h4⟩

theorem wpOpsN_exact {X : CallRel} {C : Ctx} (hU : Up X) (hXe : Exact X) {ops : Array Oper} {th : List Nat} {fz : List (Nat × List (List Nat × List Sh))} {K : Frm → Heap → Prop} : ∀ (l : List Oper) (i : Nat) (s : Frm) (H : Heap), wpOpsN X C ops th fz K l i s H → ∃ s' H', wpOpsN X C ops th fz (fun s1 H1 => s1 = s' ∧ H1 = H') l i s H ∧ K s' H'
  | [], i, s, H, h => ⟨s, H, ⟨rfl, rfl⟩, h⟩
  | o :: rest, i, s, H, h => by
    simp only [wpOpsN] at h ⊢
    obtain ⟨s0, H0, hf, h⟩ := h
    cases hg : o.guard with
    | none =>
      rw [hg] at h
      simp only at h ⊢
      obtain ⟨v, H1, h1, h2⟩ := wpOp_exact hXe h
      obtain ⟨s', H', h3, h4⟩ := wpOpsN_exact hU hXe rest (i + 1) _ _ h2
      exact ⟨s', H', ⟨s0, H0, hf, wpOp_mono' hU (fun v1 H2 e => by obtain ⟨rfl, rfl⟩ := e; exact h3) h1⟩, h4⟩
    | some p =>
      rw [hg] at h
      simp only at h ⊢
      obtain ⟨v, H1, h1, h2⟩ := h
      obtain ⟨s', H', h3, h4⟩ := wpOpsN_exact hU hXe rest (i + 1) _ _ h2
      exact ⟨s', H', ⟨s0, H0, hf, v, H1, h1, h3⟩, h4⟩

theorem wpC_exact {X : CallRel} {C : Ctx} (hU : Up X) (hXe : Exact X) : ∀ (c : AC) (s : Frm) (H : Heap) (K : Ex → Frm → Heap → Prop), wpC X C c s H K → ∃ e s' H', wpC X C c s H (fun e1 s1 H1 => e1 = e ∧ s1 = s' ∧ H1 = H') ∧ K e s' H' := by
  intro c
  induction c with
  | skip => intro s H K h; exact ⟨_, _, _, ⟨rfl, rfl, rfl⟩, h⟩
  | ret => intro s H K h; exact ⟨_, _, _, ⟨rfl, rfl, rfl⟩, h⟩
  | exit id => intro s H K h; exact ⟨_, _, _, ⟨rfl, rfl, rfl⟩, h⟩
  | seq a b iha ihb =>
    intro s H K h
    simp only [wpC] at h ⊢
    obtain ⟨e, s1, H1, h1, h2⟩ := iha s H _ h
    cases e with
    | normal =>
      obtain ⟨e, s2, H2, h3, h4⟩ := ihb s1 H1 K h2
      exact ⟨e, s2, H2, wpC_mono hU a s H _ _ (fun e1 s' H' q => by obtain ⟨rfl, rfl, rfl⟩ := q; exact h3) h1, h4⟩
    | exit id => exact ⟨.exit id, s1, H1, wpC_mono hU a s H _ _ (fun e1 s' H' q => by obtain ⟨rfl, rfl, rfl⟩ := q; exact ⟨rfl, rfl, rfl⟩) h1, h2⟩
    | ret => exact ⟨.ret, s1, H1, wpC_mono hU a s H _ _ (fun e1 s' H' q => by obtain ⟨rfl, rfl, rfl⟩ := q; exact ⟨rfl, rfl, rfl⟩) h1, h2⟩
  | cond c a b iha ihb =>
    intro s H K h
    simp only [wpC] at h ⊢
    split at h
    · split at h
      · rename_i hb; simp only [hb, if_true]; exact iha s H K h
      · rename_i hb; simp only [hb]; exact ihb s H K h
    · exact h.elim
  | block id keep a ih =>
    intro s H K h
    simp only [wpC] at h ⊢
    obtain ⟨e, s1, H1, h1, h2⟩ := ih s H _ h
    cases e with
    | normal => exact ⟨.normal, killB keep s1, H1, wpC_mono hU a s H _ _ (fun e1 s' H' q => by obtain ⟨rfl, rfl, rfl⟩ := q; exact ⟨rfl, rfl, rfl⟩) h1, h2⟩
    | ret => exact ⟨.ret, s1, H1, wpC_mono hU a s H _ _ (fun e1 s' H' q => by obtain ⟨rfl, rfl, rfl⟩ := q; exact ⟨rfl, rfl, rfl⟩) h1, h2⟩
    | exit j =>
      simp only at h2
      split at h2
      · rename_i hj
        exact ⟨.normal, killB keep s1, H1, wpC_mono hU a s H _ _ (fun e1 s' H' q => by obtain ⟨rfl, rfl, rfl⟩ := q; simp [hj]) h1, h2⟩
      · rename_i hj
        exact ⟨.exit j, s1, H1, wpC_mono hU a s H _ _ (fun e1 s' H' q => by obtain ⟨rfl, rfl, rfl⟩ := q; simp [hj]) h1, h2⟩
  | loop sp a ih =>
    intro s H K h
    simp only [wpC] at h ⊢
    refine h (fun s1 H1 => ∃ e s' H', LoopP (wpC X C a) (nextL sp H.bs.length) (fun e1 s2 H2 => e1 = e ∧ s2 = s' ∧ H2 = H') s1 H1 ∧ K e s' H') fun s1 H1 hB => ?_
    obtain ⟨e, s2, H2, h1, h2⟩ := ih s1 H1 _ hB
    cases e with
    | normal =>
      obtain ⟨e, s', H', h3, h4⟩ := h2
      exact ⟨e, s', H', .round hU (wpC_mono hU a s1 H1 _ _ (fun e1 s' H' q => by obtain ⟨rfl, rfl, rfl⟩ := q; exact h3) h1), h4⟩
    | exit id => exact ⟨_, _, _, .round hU (wpC_mono hU a s1 H1 _ _ (fun e1 s' H' q => by obtain ⟨rfl, rfl, rfl⟩ := q; exact ⟨rfl, rfl, rfl⟩) h1), h2⟩
    | ret => exact ⟨_, _, _, .round hU (wpC_mono hU a s1 H1 _ _ (fun e1 s' H' q => by obtain ⟨rfl, rfl, rfl⟩ := q; exact ⟨rfl, rfl, rfl⟩) h1), h2⟩
  | region id ops draw louds th fz =>
    intro s H K h
    cases draw with
    | true =>
      simp only [wpC] at h ⊢
      obtain ⟨s', H', h1, h2⟩ := wpOpsA_exact hU hXe _ _ _ _ h.2
      exact ⟨.normal, s', H', ⟨h.1, wpOpsA_mono hU (fun s H q => ⟨rfl, q⟩) _ _ _ _ h1⟩, h2⟩
    | false =>
      simp only [wpC] at h ⊢
      obtain ⟨s', H', h1, h2⟩ := wpOpsN_exact hU hXe _ _ _ _ h
      exact ⟨.normal, s', H', wpOpsN_mono hU (fun s H q => ⟨rfl, q⟩) _ _ _ _ h1, h2⟩
  | frz l kp =>
    intro s H K h
    simp only [wpC] at h ⊢
    split at h
    · rename_i s' H' he; exact ⟨_, _, _, ⟨rfl, rfl, rfl⟩, h⟩
    · exact h.elim
  | bad => intro s H K h; exact h.elim

theorem finK.mono {E : TEnv} {res : List ResultVar} {K K' : AV → Heap → Prop} (hK : ∀ v H, K v H → K' v H) : ∀ e s H, finK E res K e s H → finK E res K' e s H
  | .normal, _, _, ⟨rs, h1, h2⟩ => ⟨rs, h1, hK _ _ h2⟩
  | .ret, _, _, ⟨rs, h1, h2⟩ => ⟨rs, h1, hK _ _ h2⟩
  | .exit _, _, _, h => h

theorem finK.exact {E : TEnv} {res : List ResultVar} {K : AV → Heap → Prop} : ∀ e s H, finK E res K e s H → ∃ v H', finK E res (fun v1 H1 => v1 = v ∧ H1 = H') e s H ∧ K v H'
  | .normal, _, _, ⟨rs, h1, h2⟩ => ⟨_, _, ⟨rs, h1, rfl, rfl⟩, h2⟩
  | .ret, _, _, ⟨rs, h1, h2⟩ => ⟨_, _, ⟨rs, h1, rfl, rfl⟩, h2⟩
  | .exit _, _, _, h => h.elim

theorem body_exact {X : CallRel} {C : Ctx} (hU : Up X) (hXe : Exact X) {f : FuncId} {ys : List AV} {H : Heap} {K : AV → Heap → Prop} (h : Body X C f ys H K) : ∃ v H', Body X C f ys H (fun v1 H1 => v1 = v ∧ H1 = H') ∧ K v H' := by
  unfold Body at h ⊢
  split at h
  · exact h.elim
  · rename_i fn hfn
    split at h
    · exact h.elim
    · rename_i c hc
      obtain ⟨e, s', H', h1, h2⟩ := wpC_exact hU hXe _ _ _ _ h
      obtain ⟨v, H2, h3, h4⟩ := finK.exact _ _ _ h2
      refine ⟨v, H2, ?_, h4⟩
      exact wpC_mono hU _ _ _ _ _ (fun e1 s1 H1 q => by obtain ⟨rfl, rfl, rfl⟩ := q; exact h3) h1

theorem Body.mono {X X' : CallRel} {C : Ctx} (hX : ∀ f ys H (K K' : AV → Heap → Prop), (∀ v H, K v H → K' v H) → X f ys H K → X' f ys H K') {f : FuncId} {ys : List AV} {H : Heap} {K K' : AV → Heap → Prop} (hK : ∀ v H, K v H → K' v H) (h : Body X C f ys H K) : Body X' C f ys H K' := by
  unfold Body at h ⊢
  split at h
  · exact h.elim
  · rename_i fn hfn
    split at h
    · exact h.elim
    · rename_i c hc
      exact wpC_mono hX _ _ _ _ _ (finK.mono hK) h

/-- What is said of a call by a rule of one's own. -/
def ExtUp (C : Ctx) : Prop := Up C.ext

theorem ACall.up {C : Ctx} (hE : ExtUp C) : Up (ACall C) := by
  intro f ys H K K' hK h
  refine h (fun f ys H K => ∀ K', (∀ v H, K v H → K' v H) → ACall C f ys H K') ⟨fun f ys H K h K' hK X hX => hX.1 _ _ _ _ (hE _ _ _ _ _ hK h), fun f ys H K h K' hK X hX => ?_⟩ K' hK
  refine hX.2 _ _ _ _ (Body.mono (fun f ys H K K2 hK2 h => ?_) hK h)
  exact h K2 hK2 X hX

/-- A call's body is enough. -/
theorem ACall.intro {C : Ctx} (hE : ExtUp C) {f : FuncId} {ys : List AV} {H : Heap} {K : AV → Heap → Prop} (h : Body (ACall C) C f ys H K) : ACall C f ys H K := by
  intro X hX
  refine hX.2 _ _ _ _ (Body.mono (fun f ys H K K' hK hc => ?_) (fun _ _ h => h) h)
  exact ACall.up hE _ _ _ _ _ hK hc X hX

/-- A call comes to one thing. -/
theorem ACall.exact {C : Ctx} (hE : ExtUp C) (hX : Exact C.ext) : Exact (ACall C) := by
  intro f ys H K h
  refine h (fun f ys H K => ∃ v H', ACall C f ys H (fun v1 H1 => v1 = v ∧ H1 = H') ∧ K v H') ⟨fun f ys H K h => ?_, fun f ys H K h => ?_⟩
  · obtain ⟨v, H', h1, h2⟩ := hX _ _ _ _ h
    exact ⟨v, H', fun X hX => hX.1 _ _ _ _ h1, h2⟩
  · obtain ⟨v, H', h1, h2⟩ := body_exact (X := fun f ys H K => ∃ v H', ACall C f ys H (fun v1 H1 => v1 = v ∧ H1 = H') ∧ K v H') (fun f ys H K K' hK ⟨v, H', h1, h2⟩ => ⟨v, H', h1, hK _ _ h2⟩) (fun f ys H K ⟨v, H', h1, h2⟩ => ⟨v, H', ⟨v, H', h1, rfl, rfl⟩, h2⟩) h
    refine ⟨v, H', ACall.intro hE (Body.mono (fun f ys H K K' hK ⟨v, H', h1, h2⟩ => ?_) (fun _ _ h => h) h1), h2⟩
    exact ACall.up hE _ _ _ _ _ (fun v1 H1 q => by obtain ⟨rfl, rfl⟩ := q; exact hK _ _ h2) h1

theorem ACall.ext {C : Ctx} {f : FuncId} {ys : List AV} {H : Heap} {K : AV → Heap → Prop} (h : C.ext f ys H K) : ACall C f ys H K := fun _ hX => hX.1 _ _ _ _ h

/-- What the semantics says of a call is so. -/
theorem acall_sim {P : Program} {C : Ctx} (hm : P.follows .mixedOrders = true) (hE : ∀ t ti, C.E t = some ti → TyOK P t ti) (hC : ∀ f fn, C.code f = some fn → P.funcs[f]? = some fn ∧ (fn.name == "runtime.NumGoroutine") = false ∧ ordsB (C.pol f) fn = true)
    (hext : ∀ f ys H K, C.ext f ys H K → ∃ v H', Sim P f ys H (fun v1 H1 => v1 = v ∧ H1 = H') ∧ K v H')
    {f : FuncId} {ys : List AV} {H : Heap} {K : AV → Heap → Prop} (h : ACall C f ys H K) : Sim P f ys H K := by
  have hY : ∃ v H', Sim P f ys H (fun v1 H1 => v1 = v ∧ H1 = H') ∧ K v H' := by
    let Y : CallRel := fun f ys H K => ∃ v H', Sim P f ys H (fun v1 H1 => v1 = v ∧ H1 = H') ∧ K v H'
    have hYe : Exact Y := fun f ys H K ⟨v, H', h1, h2⟩ => ⟨v, H', ⟨v, H', h1, rfl, rfl⟩, h2⟩
    have hYu : Up Y := fun f ys H K K' hK ⟨v, H', h1, h2⟩ => ⟨v, H', h1, hK _ _ h2⟩
    have hYs : ∀ f ys H K, Y f ys H K → Sim P f ys H K := fun f ys H K ⟨v, H', h1, h2⟩ => h1.mono fun v1 H1 q => by obtain ⟨rfl, rfl⟩ := q; exact h2
    refine h Y ⟨hext, fun f ys H K hb => ?_⟩
    obtain ⟨v, H', h1, h2⟩ := body_exact hYu hYe hb
    exact ⟨v, H', bodySim hm hE hC hYs (drawSim hYe hm hE hYs) h1, h2⟩
  obtain ⟨v, H', h1, h2⟩ := hY
  exact h1.mono fun v1 H1 q => by obtain ⟨rfl, rfl⟩ := q; exact h2
end Go.VS

/-
  VS, part 40: walking through code, step by step.
-/
namespace Go.VS

/-- What is asked of the rules of one's own. -/
structure Good (C : Ctx) : Prop where
  up : ExtUp C
  exact : Exact C.ext

def seqK (C : Ctx) (b : AC) (K : Ex → Frm → Heap → Prop) : Ex → Frm → Heap → Prop
  | .normal, s, H => wpC (ACall C) C b s H K
  | .exit i, s, H => K (.exit i) s H
  | .ret, s, H => K .ret s H
def blkK (id : Nat) (keep : Option (List Nat)) (K : Ex → Frm → Heap → Prop) : Ex → Frm → Heap → Prop
  | .normal, s, H => K .normal (killB keep s) H
  | .exit j, s, H => if j = id then K .normal (killB keep s) H else K (.exit j) s H
  | .ret, s, H => K .ret s H
def cndK (C : Ctx) (v : AV) (a b : AC) (s : Frm) (H : Heap) (K : Ex → Frm → Heap → Prop) : Prop :=
  match v with
  | .bool t => if t then wpC (ACall C) C a s H K else wpC (ACall C) C b s H K
  | _ => False

section
variable {C : Ctx} {K K1 : Ex → Frm → Heap → Prop} {s : Frm} {H : Heap}

theorem w_seq {a b : AC} (h : ∀ K1, K1 = seqK C b K → wpC (ACall C) C a s H K1) : wpC (ACall C) C (.seq a b) s H K := by
  have := h _ rfl
  have e : seqK C b K = (fun e s' H' => match e with | .normal => wpC (ACall C) C b s' H' K | e => K e s' H') := by
    funext e s H; cases e <;> rfl
  rw [e] at this; exact this
theorem w_blk {id : Nat} {kp : Option (List Nat)} {a : AC} (h : ∀ K1, K1 = blkK id kp K → wpC (ACall C) C a s H K1) : wpC (ACall C) C (.block id kp a) s H K := by
  have := h _ rfl
  have e : blkK id kp K = (fun e s' H' => match e with
    | .exit j => if j = id then K .normal (killB kp s') H' else K (.exit j) s' H'
    | .normal => K .normal (killB kp s') H'
    | .ret => K .ret s' H') := by funext e s H; cases e <;> rfl
  rw [e] at this; exact this
theorem w_skip (h : K .normal s H) : wpC (ACall C) C .skip s H K := h
theorem w_ret (h : K .ret s H) : wpC (ACall C) C .ret s H K := h
theorem w_exit {id : Nat} (h : K (.exit id) s H) : wpC (ACall C) C (.exit id) s H K := h
theorem w_if {c : Operand} {a b : AC} (h : cndK C (ev s c) a b s H K) : wpC (ACall C) C (.cond c a b) s H K := h
theorem w_kill {kp : List Nat} (h : K .normal (killF kp s) H) : wpC (ACall C) C (.frz [] (some kp)) s H K := h
theorem seq_n {b : AC} (hK : K1 = seqK C b K) (h : wpC (ACall C) C b s H K) : K1 .normal s H := by rw [hK]; exact h
theorem seq_r {b : AC} (hK : K1 = seqK C b K) (h : K .ret s H) : K1 .ret s H := by rw [hK]; exact h
theorem seq_x {b : AC} {i : Nat} (hK : K1 = seqK C b K) (h : K (.exit i) s H) : K1 (.exit i) s H := by rw [hK]; exact h
theorem blk_n {id : Nat} {kp : Option (List Nat)} (hK : K1 = blkK id kp K) (h : K .normal (killB kp s) H) : K1 .normal s H := by rw [hK]; exact h
theorem blk_n0 {id : Nat} (hK : K1 = blkK id none K) (h : K .normal s H) : K1 .normal s H := by rw [hK]; exact h
theorem blk_e {id : Nat} {kp : Option (List Nat)} (hK : K1 = blkK id kp K) (h : K .normal (killB kp s) H) : K1 (.exit id) s H := by rw [hK]; simp only [blkK, if_true]; exact h
theorem blk_r {id : Nat} {kp : Option (List Nat)} (hK : K1 = blkK id kp K) (h : K .ret s H) : K1 .ret s H := by rw [hK]; exact h
theorem fin_r {E : TEnv} {res : List ResultVar} {P : AV → Heap → Prop} {rs : List AV} (hK : K1 = finK E res P) (hr : resVals E s H res = some rs) (h : P (oneOrTup rs) H) : K1 .ret s H := by rw [hK]; exact ⟨rs, hr, h⟩
theorem fin_r1 {E : TEnv} {a : Tmp} {P : AV → Heap → Prop} (hK : K1 = finK E [.tmp a] P) {x : AV} (hx : s.getD a .undef = x) (h : P x H) : K1 .ret s H := by
  rw [hK]; exact ⟨[s.getD a .undef], rfl, by rw [hx]; exact h⟩
theorem fin_r2 {E : TEnv} {a b : Tmp} {P : AV → Heap → Prop} (hK : K1 = finK E [.tmp a, .tmp b] P) {x y : AV} (hx : s.getD a .undef = x) (hy : s.getD b .undef = y) (h : P (.tup [x, y]) H) : K1 .ret s H := by
  rw [hK]; exact ⟨[s.getD a .undef, s.getD b .undef], rfl, by rw [hx, hy]; exact h⟩
theorem fin_r0 {E : TEnv} {P : AV → Heap → Prop} (hK : K1 = finK E [] P) (h : P (.tup []) H) : K1 .ret s H := by
  rw [hK]; exact ⟨[], rfl, h⟩
theorem fin_n0 {E : TEnv} {P : AV → Heap → Prop} (hK : K1 = finK E [] P) (h : P (.tup []) H) : K1 .normal s H := by
  rw [hK]; exact ⟨[], rfl, h⟩
/-- A condition, with what the function's own text says of it. -/
theorem w_cnd {α : Type} {c : Bool} {x y : Option α} {r : α} {a b : AC} (h : (bif c then x else y) = some r) (ht : c = true → x = some r → wpC (ACall C) C a s H K) (hf : c = false → y = some r → wpC (ACall C) C b s H K) : cndK C (.bool c) a b s H K := by
  cases c with
  | true => exact ht rfl h
  | false => exact hf rfl h
/-- A piece of code of which more is known. -/
theorem w_cut {a : AC} (h : wpC (ACall C) C a s H K1) (hK : ∀ e s H, K1 e s H → K e s H) (gC : Good C) : wpC (ACall C) C a s H K := wpC_mono (ACall.up gC.up) a s H _ _ hK h
end

/-! Regions. -/
/-- An operation as it is walked: where its value goes, what guards it, what has to be the same when it comes late. -/
structure GO where
  d : Option Tmp
  op : Op
  g : Option (Option Tmp × Bool)
  late : List (Op × Option Tmp)
  th : Bool
  q : Bool

def lk : List Oper → Nat → Option Tmp
  | [], _ => none
  | o :: _, 0 => o.dst
  | _ :: os, n + 1 => lk os n

def wpO (X : CallRel) (C : Ctx) (q thaw : Bool) (op : Op) (s : Frm) (H : Heap) (K : AV → Heap → Prop) : Prop := wpOp X C q thaw ⟨none, op, 0, "", #[], none⟩ s H K

theorem wpO_eq (X : CallRel) (C : Ctx) (q thaw : Bool) (o : Oper) (s : Frm) (H : Heap) (K : AV → Heap → Prop) : wpOp X C q thaw o s H K = wpO X C q thaw o.op s H K := by
  cases o; rfl

def lateG (C : Ctx) (s : Frm) (H : Heap) (K : Prop) : List (Op × Option Tmp) → Prop
  | [] => K
  | (op, d) :: js => (∃ t, d = some t ∧ evalOp C.E op s H = some (s.getD t .undef, H)) ∧ lateG C s H K js

def grd (g : Option (Option Tmp × Bool)) (s : Frm) (a b : Prop) : Prop :=
  match g with
  | none => a
  | some (none, _) => False
  | some (some t, want) => match s.getD t .undef with
    | .bool c => if c = want then a else b
    | .tup _ => b
    | _ => False

def wpG (C : Ctx) (K : Frm → Heap → Prop) : List GO → Frm → Heap → Prop
  | [], s, H => K s H
  | o :: rest, s, H => grd o.g s (wpO (ACall C) C o.q o.th o.op s H fun v H' => lateG C (setA s o.d v) H' (wpG C K rest (setA s o.d v) H') o.late)
      (lateG C (setA s o.d (.tup [])) H (wpG C K rest (setA s o.d (.tup [])) H) o.late)

def lkO (ops : List Oper) (j : Nat) : Op × Option Tmp := match ops[j]? with | some o => (o.op, o.dst) | none => (.move (.tmp 0), none)

def cmpL (all : List Oper) (q : Nat → Bool) (late : Nat → List Nat) (th : List Nat) : List Oper → Nat → List GO
  | [], _ => []
  | o :: rest, i => ⟨o.dst, o.op, o.guard.map fun p => (lk all p.1, p.2), (late i).map (lkO all), th.contains i, q i⟩ :: cmpL all q late th rest (i + 1)

theorem lk_eq : ∀ (l : List Oper) (j : Nat), lk l j = (l[j]?).bind (·.dst)
  | [], j => by simp [lk]
  | o :: os, 0 => by simp [lk]
  | o :: os, j + 1 => by simp [lk, lk_eq os j]

theorem lateG_eq {C : Ctx} {ops : Array Oper} {s : Frm} {H : Heap} {K : Prop} : ∀ (l : List Nat), lateG C s H K (l.map (lkO ops.toList)) → lateAll C ops s H K l
  | [], h => h
  | j :: js, h => by
    simp only [List.map_cons, lateG] at h
    refine ⟨?_, lateG_eq js h.2⟩
    unfold lateChk
    have h1 := h.1
    unfold lkO at h1
    rw [Array.getElem?_toList] at h1
    cases ho : ops[j]? with
    | none => rw [ho] at h1; simp at h1
    | some o =>
      rw [ho] at h1
      obtain ⟨t, ht, he⟩ := h1
      simp only at ht he ⊢
      rw [ht]
      exact he

theorem wpG_ok {C : Ctx} (gC : Good C) {ops : Array Oper} {q : Nat → Bool} {late : Nat → List Nat} {th : List Nat} {K : Frm → Heap → Prop} : ∀ (l : List Oper) (i : Nat) (s : Frm) (H : Heap), wpG C K (cmpL ops.toList q late th l i) s H → wpOpsA (ACall C) C ops q late th K l i s H
  | [], i, s, H, h => h
  | o :: rest, i, s, H, h => by
    simp only [cmpL, wpG] at h
    have yes : (wpO (ACall C) C (q i) (th.contains i) o.op s H fun v H' => lateG C (setA s o.dst v) H' (wpG C K (cmpL ops.toList q late th rest (i + 1)) (setA s o.dst v) H') ((late i).map (lkO ops.toList))) →
        wpOp (ACall C) C (q i) (th.contains i) o s H fun v H' => lateAll C ops (setA s o.dst v) H' (wpOpsA (ACall C) C ops q late th K rest (i + 1) (setA s o.dst v) H') (late i) := by
      intro h
      rw [← wpO_eq] at h
      refine wpOp_mono' (ACall.up gC.up) (fun v H' h => ?_) h
      exact lateAll_mono (wpG_ok gC rest (i + 1) _ _) _ (lateG_eq _ h)
    simp only [wpOpsA]
    cases hg : o.guard with
    | none =>
      rw [hg] at h
      simp only [Option.map_none, grd] at h ⊢
      exact yes h
    | some p =>
      obtain ⟨j, want⟩ := p
      rw [hg] at h
      simp only [Option.map_some, lk_eq, Array.getElem?_toList] at h ⊢
      cases hd : (ops[j]?).bind (·.dst) with
      | none => rw [hd] at h; exact h.elim
      | some t =>
        rw [hd] at h
        simp only [grd] at h
        have no : (lateG C (setA s o.dst (.tup [])) H (wpG C K (cmpL ops.toList q late th rest (i + 1)) (setA s o.dst (.tup [])) H) ((late i).map (lkO ops.toList))) → guardA ops o s = some false → ∃ v H', (match guardA ops o s with
            | some b => if b then wpOp (ACall C) C (q i) (th.contains i) o s H (fun v1 H1 => v1 = v ∧ H1 = H') else v = .tup [] ∧ H' = H
            | none => False) ∧ lateAll C ops (setA s o.dst v) H' (wpOpsA (ACall C) C ops q late th K rest (i + 1) (setA s o.dst v) H') (late i) := by
          intro h hb
          refine ⟨.tup [], H, ?_, lateAll_mono (wpG_ok gC rest (i + 1) _ _) _ (lateG_eq _ h)⟩
          rw [hb]
          simp
        split at h
        · rename_i c hc
          have hga : guardA ops o s = some (c == want) := by
            unfold guardA
            rw [hg]
            simp only [hd, hc]
          split at h
          · rename_i hcw
            obtain ⟨v, H', h1, h2⟩ := wpOp_exact (ACall.exact gC.up gC.exact) (yes h)
            refine ⟨v, H', ?_, h2⟩
            rw [hga, hcw]
            simp only [beq_self_eq_true, if_true]
            exact h1
          · rename_i hcw
            exact no h (by rw [hga]; simpa using hcw)
        · rename_i hc
          exact no h (by unfold guardA; rw [hg]; simp only [hd, hc])
        · exact h.elim

section
variable {C : Ctx} {K K1 : Ex → Frm → Heap → Prop} {s : Frm} {H : Heap}
def nrm (K : Ex → Frm → Heap → Prop) : Frm → Heap → Prop := fun s H => K .normal s H

theorem w_reg (gC : Good C) {id : Nat} {ops : List Oper} {ls th : List Nat} (h : wpG C (nrm K) (cmpL ops (fun _ => false) (fun _ => []) th ops 0) s H) : wpC (ACall C) C (.region id ops.toArray false ls th []) s H K := by
  have h2 := wpG_ok gC (ops := ops.toArray) (q := fun _ => false) (late := fun _ => []) (th := th) ops 0 s H h
  have key : ∀ (l : List Oper) (i : Nat) (s : Frm) (H : Heap), wpOpsA (ACall C) C ops.toArray (fun _ => false) (fun _ => []) th (nrm K) l i s H → wpOpsN (ACall C) C ops.toArray th [] (nrm K) l i s H := by
    intro l
    induction l with
    | nil => intro i s H h; exact h
    | cons o rest ih =>
      intro i s H h
      simp only [wpOpsA, lateAll] at h
      simp only [wpOpsN]
      refine ⟨s, H, rfl, ?_⟩
      cases hg : o.guard with
      | none =>
        rw [hg] at h
        exact wpOp_mono' (ACall.up gC.up) (fun v H' hv => ih (i + 1) _ _ hv) h
      | some p =>
        rw [hg] at h
        obtain ⟨v, H', h1, h2⟩ := h
        exact ⟨v, H', h1, ih (i + 1) _ _ h2⟩
  exact key _ _ _ _ h2
/-- A region's list, with what is kept for good before an operation. -/
def wpF (C : Ctx) (fz : List (Nat × List (List Nat × List Sh))) (K : Frm → Heap → Prop) : List GO → Nat → Frm → Heap → Prop
  | [], _, s, H => K s H
  | o :: rest, i, s0, H0 => ∃ s H, frzSlots ((fz.lookup i).getD []) s0 H0 = some (s, H) ∧
    grd o.g s (wpO (ACall C) C o.q o.th o.op s H fun v H' => wpF C fz K rest (i + 1) (setA s o.d v) H') (wpF C fz K rest (i + 1) (setA s o.d (.tup [])) H)
theorem wpF_ok (gC : Good C) {ops : Array Oper} {th : List Nat} {fz : List (Nat × List (List Nat × List Sh))} {K : Frm → Heap → Prop} : ∀ (l : List Oper) (i : Nat) (s : Frm) (H : Heap), wpF C fz K (cmpL ops.toList (fun _ => false) (fun _ => []) th l i) i s H → wpOpsN (ACall C) C ops th fz K l i s H
  | [], i, s, H, h => h
  | o :: rest, i, s0, H0, h => by
    simp only [cmpL, wpF] at h
    obtain ⟨s, H, hf, h⟩ := h
    simp only [wpOpsN]
    refine ⟨s, H, hf, ?_⟩
    have yes : (wpO (ACall C) C false (th.contains i) o.op s H fun v H' => wpF C fz K (cmpL ops.toList (fun _ => false) (fun _ => []) th rest (i + 1)) (i + 1) (setA s o.dst v) H') →
        wpOp (ACall C) C false (th.contains i) o s H fun v H' => wpOpsN (ACall C) C ops th fz K rest (i + 1) (setA s o.dst v) H' := by
      intro h
      rw [← wpO_eq] at h
      exact wpOp_mono' (ACall.up gC.up) (fun v H' h => wpF_ok gC rest (i + 1) _ _ h) h
    cases hg : o.guard with
    | none =>
      rw [hg] at h
      simp only [Option.map_none, grd] at h ⊢
      exact yes h
    | some p =>
      obtain ⟨j, want⟩ := p
      rw [hg] at h
      simp only [Option.map_some, lk_eq, Array.getElem?_toList] at h ⊢
      cases hd : (ops[j]?).bind (·.dst) with
      | none => rw [hd] at h; exact h.elim
      | some t =>
        rw [hd] at h
        simp only [grd] at h
        have no : wpF C fz K (cmpL ops.toList (fun _ => false) (fun _ => []) th rest (i + 1)) (i + 1) (setA s o.dst (.tup [])) H → guardA ops o s = some false → ∃ v H', (match guardA ops o s with
            | some b => if b then wpOp (ACall C) C false (th.contains i) o s H (fun v1 H1 => v1 = v ∧ H1 = H') else v = .tup [] ∧ H' = H
            | none => False) ∧ wpOpsN (ACall C) C ops th fz K rest (i + 1) (setA s o.dst v) H' := by
          intro h hb
          refine ⟨.tup [], H, ?_, wpF_ok gC rest (i + 1) _ _ h⟩
          rw [hb]
          simp
        split at h
        · rename_i c hc
          have hga : guardA ops o s = some (c == want) := by
            unfold guardA
            rw [hg]
            simp only [hd, hc]
          split at h
          · rename_i hcw
            obtain ⟨v, H', h1, h2⟩ := wpOp_exact (ACall.exact gC.up gC.exact) (yes h)
            refine ⟨v, H', ?_, h2⟩
            rw [hga, hcw]
            simp only [beq_self_eq_true, if_true]
            exact h1
          · rename_i hcw
            exact no h (by rw [hga]; simpa using hcw)
        · rename_i hc
          exact no h (by unfold guardA; rw [hg]; simp only [hd, hc])
        · exact h.elim
theorem w_regF (gC : Good C) {id : Nat} {ops : List Oper} {ls th : List Nat} {fz : List (Nat × List (List Nat × List Sh))} (h : wpF C fz (nrm K) (cmpL ops (fun _ => false) (fun _ => []) th ops 0) 0 s H) : wpC (ACall C) C (.region id ops.toArray false ls th fz) s H K :=
  wpF_ok gC (ops := ops.toArray) ops 0 s H h
theorem w_draw (gC : Good C) {id : Nat} {ops : List Oper} {ls th : List Nat} {fz : List (Nat × List (List Nat × List Sh))} (hd : drawOK ops.toArray ls = true) (h : wpG C (nrm K) (cmpL ops (fun i => !ls.contains i) (lateOf ops.toArray ls) th ops 0) s H) : wpC (ACall C) C (.region id ops.toArray true ls th fz) s H K := by
  have := wpG_ok gC (ops := ops.toArray) (q := fun i => !ls.contains i) (late := lateOf ops.toArray ls) (th := th) ops 0 s H h
  exact ⟨hd, this⟩
theorem lateOf_nil (ops : Array Oper) : lateOf ops [] = fun _ => [] := by funext i; rfl
theorem w_draw0 (gC : Good C) {id : Nat} {ops : List Oper} {th : List Nat} {fz : List (Nat × List (List Nat × List Sh))} (hd : drawOK ops.toArray [] = true) (h : wpG C (nrm K) (cmpL ops (fun _ => true) (fun _ => []) th ops 0) s H) : wpC (ACall C) C (.region id ops.toArray true [] th fz) s H K :=
  w_draw gC hd (by rw [lateOf_nil]; exact h)
end

/-- A call is shown on its body. -/
theorem acall_of {C : Ctx} (gC : Good C) {f : FuncId} {fn : Func} {c : Code} {res : List ResultVar} {n : Nat} (hc : C.code f = some fn) (hb : fn.body = some c) (hr : fn.results = res.toArray) (hn : fn.ntmps = n) {ys : List AV} {H : Heap} {P : AV → Heap → Prop}
    (h : ∀ K0, K0 = finK C.E res P → wpC (ACall C) C (annot (C.pol f) 0 c) (ys ++ List.replicate (n - ys.length) .undef) H K0) : ACall C f ys H P := by
  refine ACall.intro gC.up ?_
  unfold Body
  rw [hc]
  simp only [hb, hr, hn]
  exact h _ rfl
end Go.VS

/-
  VS, part 41: the operations that only compute, as equations.
-/
namespace Go.VS

def resV (v : Option AV) (H : Heap) (K : AV → Heap → Prop) : Prop := match v with | some v => K v H | none => False
def resO (r : Option (AV × Heap)) (K : AV → Heap → Prop) : Prop := match r with | some (v, H) => K v H | none => False

section
variable {C : Ctx} {q th : Bool} {s : Frm} {H : Heap} {K : AV → Heap → Prop}

theorem wpO_pure (op : Op) (h : quietOp op = true) : wpO (ACall C) C q th op s H K = resO (evalOp C.E op s H) K := by
  have : ∀ c, op ≠ .call c := by rintro c rfl; simp [quietOp] at h
  unfold wpO wpOp
  split
  · rename_i hop; exact absurd hop (this _)
  · rename_i hop; exact absurd hop (this _)
  · simp only [h, implies_true, true_and]; rfl
theorem wpO_wr (op : Op) (h : ∀ c, op ≠ .call c) : wpO (ACall C) C false th op s H K = resO (evalOp C.E op s H) K := by
  unfold wpO wpOp
  split
  · rename_i hop; exact absurd hop (h _)
  · rename_i hop; exact absurd hop (h _)
  · simp only [Bool.false_eq_true, false_implies, true_and]; rfl

theorem wpG_nil (K : Frm → Heap → Prop) : wpG C K [] s H = K s H := rfl
def grdV (v : AV) (w : Bool) (a b : Prop) : Prop := match v with | .bool c => if c = w then a else b | .tup _ => b | _ => False
theorem grdV_tt (a b : Prop) : grdV (.bool true) true a b = a := by simp [grdV]
theorem grdV_ff (a b : Prop) : grdV (.bool false) false a b = a := by simp [grdV]
theorem grdV_tf (a b : Prop) : grdV (.bool true) false a b = b := by simp [grdV]
theorem grdV_ft (a b : Prop) : grdV (.bool false) true a b = b := by simp [grdV]
theorem late_nil (K : Prop) : lateG C s H K [] = K := rfl
theorem late_cons (K : Prop) (op : Op) (t : Tmp) (js : List (Op × Option Tmp)) : lateG C s H K ((op, some t) :: js) = (evalOp C.E op s H = some (s.getD t .undef, H) ∧ lateG C s H K js) := by
  simp [lateG]

theorem setA_s (t : Tmp) (v : AV) : setA s (some t) v = s.set t v := rfl
theorem setA_n (v : AV) : setA s none v = s := rfl
theorem ev_t (t : Tmp) : ev s (.tmp t) = s.getD t .undef := rfl
theorem ev_c (v : Value) : ev s (.const v) = ofValue v := rfl
theorem ev_f (f : FuncId) : ev s (.func f) = .fn f [] := rfl
theorem ofV_i (k : IntKind) (n : Int) : ofValue (.int k n) = .int k n := rfl
theorem ofV_b (b : Bool) : ofValue (.bool b) = .bool b := rfl
theorem ofV_n : ofValue (.slice none 0 0) = .nil := rfl
theorem ofV_e : ofValue .nilIface = .errv false := rfl
theorem ofV_p : ofValue (.pointer none) = .nilp := rfl
theorem ofV_s (b : ByteArray) : ofValue (.string b) = .str b.data.toList := rfl

theorem resV_s (v : AV) : resV (some v) H K = K v H := rfl
theorem o_move (x : Operand) : wpO (ACall C) C q th (.move x) s H K = K (ev s x) H := by rw [wpO_pure _ rfl]; rfl
theorem o_assign (x : Operand) : wpO (ACall C) C q th (.assign x) s H K = K (ev s x) H := by rw [wpO_pure _ rfl]; rfl

/-! Arithmetic. -/
theorem o_binc (b : BinOp) (t : TypeId) (x : Operand) (c : Value) (w : TypeId) : wpO (ACall C) C q th (.binOp b t x (.const c) w) s H K = resV (binA C.E b t (ev s x) (ofValue c)) H K := by
  rw [wpO_pure _ rfl]
  simp only [evalOp, show ev s (.const c) = ofValue c from rfl]
  generalize binA C.E b t (ev s x) (ofValue c) = r
  cases r <;> rfl
def binK (E : TEnv) (b : BinOp) (t : TypeId) (x y : AV) (H : Heap) (K : AV → Heap → Prop) : Prop := match y with | .errv _ => False | y => resV (binA E b t x y) H K
theorem o_bint (b : BinOp) (t : TypeId) (x : Operand) (n : Tmp) (w : TypeId) : wpO (ACall C) C q th (.binOp b t x (.tmp n) w) s H K = binK C.E b t (ev s x) (ev s (.tmp n)) H K := by
  rw [wpO_pure _ rfl]
  simp only [evalOp]
  generalize ev s (.tmp n) = y
  unfold binK
  cases y
  all_goals (first | rfl | (simp only; generalize binA C.E b t (ev s x) _ = r; cases r <;> rfl))
theorem binK_i (E : TEnv) (b : BinOp) (t : TypeId) (x : AV) (k : IntKind) (n : Int) : binK E b t x (.int k n) H K = resV (binA E b t x (.int k n)) H K := rfl
theorem binK_b (E : TEnv) (b : BinOp) (t : TypeId) (x : AV) (n : Bool) : binK E b t x (.bool n) H K = resV (binA E b t x (.bool n)) H K := rfl
theorem binK_s (E : TEnv) (b : BinOp) (t : TypeId) (x : AV) (n : List UInt8) : binK E b t x (.str n) H K = resV (binA E b t x (.str n)) H K := rfl
theorem binK_a (E : TEnv) (b : BinOp) (t : TypeId) (x : AV) (n : List AV) : binK E b t x (.agg n) H K = resV (binA E b t x (.agg n)) H K := rfl
variable (E : TEnv) (t : TypeId) (k : IntKind) (a b : Int) (c d : Bool) (u v : List UInt8)
theorem b_add : binA E .add t (.int k a) (.int k b) = some (.int k (k.wrap (a + b))) := by simp [binA, intBin]
theorem b_sub : binA E .sub t (.int k a) (.int k b) = some (.int k (k.wrap (a - b))) := by simp [binA, intBin]
theorem b_mul : binA E .mul t (.int k a) (.int k b) = some (.int k (k.wrap (a * b))) := by simp [binA, intBin]
theorem b_and : binA E .and t (.int k a) (.int k b) = some (.int k (k.wrap (BitVec.ofInt k.bits a &&& BitVec.ofInt k.bits b).toNat)) := by simp [binA, intBin]
theorem b_or : binA E .or t (.int k a) (.int k b) = some (.int k (k.wrap (BitVec.ofInt k.bits a ||| BitVec.ofInt k.bits b).toNat)) := by simp [binA, intBin]
theorem b_xor : binA E .xor t (.int k a) (.int k b) = some (.int k (k.wrap (BitVec.ofInt k.bits a ^^^ BitVec.ofInt k.bits b).toNat)) := by simp [binA, intBin]
theorem b_eql : binA E .eql t (.int k a) (.int k b) = some (.bool (a == b)) := by simp [binA, intBin]
theorem b_neq : binA E .neq t (.int k a) (.int k b) = some (.bool (a != b)) := by simp [binA, intBin]
theorem b_lss : binA E .lss t (.int k a) (.int k b) = some (.bool (decide (a < b))) := by simp [binA, intBin]
theorem b_leq : binA E .leq t (.int k a) (.int k b) = some (.bool (decide (a ≤ b))) := by simp [binA, intBin]
theorem b_gtr : binA E .gtr t (.int k a) (.int k b) = some (.bool (decide (b < a))) := by simp [binA, intBin]
theorem b_geq : binA E .geq t (.int k a) (.int k b) = some (.bool (decide (b ≤ a))) := by simp [binA, intBin]
/-- Division, where it is one. -/
def dv (k : IntKind) (a b : Int) : Option Int := if b = 0 then none else some (k.wrap (a.tdiv b))
def md (a b : Int) : Option Int := if b = 0 then none else some (a.tmod b)
theorem b_quo : binA E .quo t (.int k a) (.int k b) = (dv k a b).map (.int k) := by simp [binA, intBin, dv]; split <;> rfl
theorem b_rem : binA E .rem t (.int k a) (.int k b) = (md a b).map (.int k) := by simp [binA, intBin, md]; split <;> rfl
/-- Shifts, where they are ones. -/
def sl (k : IntKind) (a b : Int) : Option Int := if b < 0 then none else some (k.wrap (a * 2 ^ (min b.toNat k.bits)))
def sr (k : IntKind) (a b : Int) : Option Int := if b < 0 then none else some (a.fdiv (2 ^ (min b.toNat k.bits)))
theorem b_shl (j : IntKind) : binA E .shl t (.int k a) (.int j b) = (sl k a b).map (.int k) := by simp [binA, sl]; split <;> rfl
theorem b_shr (j : IntKind) : binA E .shr t (.int k a) (.int j b) = (sr k a b).map (.int k) := by simp [binA, sr]; split <;> rfl
theorem b_seql : binA E .eql t (.str u) (.str v) = some (.bool (u == v)) := by simp [binA, strBin]
theorem b_sneq : binA E .neq t (.str u) (.str v) = some (.bool (!(u == v))) := by simp [binA, strBin]
def cat (u v : List UInt8) : Option (List UInt8) := if u.length + v.length ≤ 2 ^ 45 then some (u ++ v) else none
theorem b_sadd : binA E .add t (.str u) (.str v) = (cat u v).map .str := by simp only [binA, strBin, cat]; split <;> rfl
theorem b_beql {ti : TI} (h : E t = some ti) (hu : ti.und = .bl) : binA E .eql t (.bool c) (.bool d) = some (.bool (c == d)) := by simp [binA, h, hu]
theorem b_bneq {ti : TI} (h : E t = some ti) (hu : ti.und = .bl) : binA E .neq t (.bool c) (.bool d) = some (.bool (!(c == d))) := by simp [binA, h, hu]
def aggEq (ti : Option TI) (r : Option Bool) (neg : Bool) : Option AV := match ti with | some ti => if ti.agg then (match r with | some b => some (.bool (if neg then !b else b)) | none => none) else none | none => none
theorem b_aeql (xs ys : List AV) : binA E .eql t (.agg xs) (.agg ys) = aggEq (E t) (eqT E 8 t xs ys) false := by
  simp only [binA, aggEq]; cases E t <;> rfl
theorem b_aneq (xs ys : List AV) : binA E .neq t (.agg xs) (.agg ys) = aggEq (E t) (eqT E 8 t xs ys) true := by
  simp only [binA, aggEq]; cases E t <;> rfl
def nilEq (ti : Option TI) (x y : AV) (neg : Bool) : Option AV := match ti with | some ti => (match isNil ti.und x y with | some b => some (.bool (if neg then !b else b)) | none => none) | none => none
theorem b_nn : binA E .eql t .nil .nil = nilEq (E t) .nil .nil false := by simp only [binA, nilEq]; cases E t <;> rfl
theorem b_nn' : binA E .neq t .nil .nil = nilEq (E t) .nil .nil true := by simp only [binA, nilEq]; cases E t <;> rfl
theorem b_en (x : Bool) : binA E .eql t (.errv x) (.errv false) = nilEq (E t) (.errv x) (.errv false) false := by simp only [binA, nilEq]; cases E t <;> rfl
theorem b_en' (x : Bool) : binA E .neq t (.errv x) (.errv false) = nilEq (E t) (.errv x) (.errv false) true := by simp only [binA, nilEq]; cases E t <;> rfl
/-- A number that may not be there. -/
theorem w_num {α : Type} {o : Option Int} {f : Int → Option α} {r : α} (h : o.bind f = some r) (hk : ∀ n, o = some n → f n = some r → K (.int k n) H) : resV (o.map (.int k)) H K := by
  cases o with
  | none => simp at h
  | some n => exact hk n rfl h
theorem o_un (op : UnOp) (x : Operand) : wpO (ACall C) C q th (.unOp op t x) s H K = resV (unA op (ev s x)) H K := by
  rw [wpO_pure _ rfl]; simp only [evalOp]; generalize unA op (ev s x) = r; cases r <;> rfl
theorem u_not : unA .not (.bool c) = some (.bool !c) := rfl
theorem u_neg : unA .neg (.int k a) = some (.int k (k.wrap (0 - a))) := rfl
def pickK (c : AV) (x y : AV) (H : Heap) (K : AV → Heap → Prop) : Prop := match c with | .bool t => K (if t then x else y) H | _ => False
theorem o_pick (x y z : Operand) : wpO (ACall C) C q th (.pick x y z) s H K = pickK (ev s x) (ev s y) (ev s z) H K := by
  rw [wpO_pure _ rfl]; simp only [evalOp]; generalize ev s x = r; cases r <;> rfl
theorem pick_t (x y : AV) : pickK (.bool true) x y H K = K x H := rfl
theorem pick_f (x y : AV) : pickK (.bool false) x y H K = K y H := rfl
theorem pick_b (p : Bool) : pickK (.bool p) (.bool c) (.bool d) H K = K (.bool (if p then c else d)) H := by cases p <;> rfl
def extK (x : AV) (i : Nat) (H : Heap) (K : AV → Heap → Prop) : Prop := match x with | .tup vs => resV vs[i]? H K | _ => False
theorem o_ext (x : Operand) (i : Nat) : wpO (ACall C) C q th (.extract x i) s H K = extK (ev s x) i H K := by
  rw [wpO_pure _ rfl]; simp only [evalOp, extK]; generalize ev s x = r; cases r <;> first | rfl | (simp only; rename_i vs; cases vs[i]? <;> rfl)
theorem ext_t (vs : List AV) (i : Nat) : extK (.tup vs) i H K = resV vs[i]? H K := rfl

/-! Memory that is read. -/
def loadC (ti : TI) (x : Option AV) (off : Nat) (H : Heap) (K : AV → Heap → Prop) : Prop := match x with | some y => resV (rdAt ti y off) H K | none => False
def loadB (ti : TI) (b : Option Blk) (idx off : Nat) (H : Heap) (K : AV → Heap → Prop) : Prop := match b with | some b => loadC ti b.el[idx]? off H K | none => False
def loadK (ti : Option TI) (x : AV) (H : Heap) (K : AV → Heap → Prop) : Prop :=
  match ti with
  | some ti => match x with
    | .fe y off => resV (rdAt ti y off) H K
    | .ptr id ver idx off => loadB ti (H.blk id ver) idx off H K
    | _ => False
  | none => False
theorem o_load (x : Operand) : wpO (ACall C) C q th (.load t x) s H K = loadK (C.E t) (ev s x) H K := by
  rw [wpO_pure _ rfl]
  simp only [evalOp, loadK]
  cases C.E t with
  | none => rfl
  | some ti =>
    simp only
    generalize ev s x = r
    cases r <;> first | rfl | skip
    · rename_i id ver idx off
      simp only [loadB]
      cases H.blk id ver with
      | none => rfl
      | some b =>
        simp only [loadC]
        cases b.el[idx]? with
        | none => rfl
        | some y => simp only; generalize rdAt ti y off = z; cases z <;> rfl
    · rename_i y off
      simp only; generalize rdAt ti y off = z; cases z <;> rfl
theorem load_fe (ti : TI) (y : AV) (off : Nat) : loadK (some ti) (.fe y off) H K = resV (rdAt ti y off) H K := rfl
theorem load_p (ti : TI) (id ver idx off : Nat) : loadK (some ti) (.ptr id ver idx off) H K = loadB ti (H.blk id ver) idx off H K := rfl
theorem loadB_s (ti : TI) (b : Blk) (idx off : Nat) : loadB ti (some b) idx off H K = loadC ti b.el[idx]? off H K := rfl
theorem loadC_s (ti : TI) (y : AV) (off : Nat) : loadC ti (some y) off H K = resV (rdAt ti y off) H K := rfl

/-- A field's place and type. -/
def fldT (E : TEnv) (t : TypeId) (f : Nat) : Option (Nat × TI) := match E t with
  | some ti => match ti.und with
    | .st fs => match fs[f]? with
      | some (o, ft) => match E ft with
        | some tf => some (o, tf)
        | none => none
      | none => none
    | _ => none
  | none => none
def faK (p : Option (Nat × TI)) (x : AV) (H : Heap) (K : AV → Heap → Prop) : Prop := match p with
  | some (o, tf) => if tf.sz = 0 then False else match x with
    | .ptr id ver idx off => match H.blk id ver with
      | some _ => K (.ptr id ver idx (off + o)) H
      | none => False
    | .fe y off => K (.fe y (off + o)) H
    | _ => False
  | none => False
theorem o_fa (x : Operand) (f : Nat) : wpO (ACall C) C q th (.fieldAddr t x f) s H K = faK (fldT C.E t f) (ev s x) H K := by
  rw [wpO_pure _ rfl]
  simp only [evalOp, faK, fldT]
  cases C.E t with
  | none => rfl
  | some ti =>
    simp only
    cases ti.und <;> try rfl
    rename_i fs
    simp only
    cases fs[f]? with
    | none => rfl
    | some p =>
      obtain ⟨o, ft⟩ := p
      simp only
      cases C.E ft with
      | none => rfl
      | some tf =>
        simp only
        split
        · rfl
        · generalize ev s x = r
          cases r <;> try rfl
          rename_i id ver idx off
          simp only
          cases H.blk id ver <;> rfl
theorem fa_fe (o : Nat) (tf : TI) (h : (tf.sz == 0) = false) (y : AV) (off : Nat) : faK (some (o, tf)) (.fe y off) H K = K (.fe y (off + o)) H := by
  simp at h; simp [faK, h]
theorem fa_p (o : Nat) (tf : TI) (h : (tf.sz == 0) = false) (id ver idx off : Nat) : faK (some (o, tf)) (.ptr id ver idx off) H K = (match H.blk id ver with | some _ => K (.ptr id ver idx (off + o)) H | none => False) := by
  simp at h; simp [faK, h]
def fieldK (p : Option (Nat × TI)) (x : AV) (H : Heap) (K : AV → Heap → Prop) : Prop := match x with
  | .agg cs => (match p with | some (o, tf) => resV (rdAt tf (.agg cs) o) H K | none => False)
  | _ => False
theorem o_field (x : Operand) (f : Nat) : wpO (ACall C) C q th (.field t x f) s H K = fieldK (fldT C.E t f) (ev s x) H K := by
  rw [wpO_pure _ rfl]
  simp only [evalOp, fieldK, fldT]
  cases C.E t with
  | none => simp only; generalize ev s x = r; cases r <;> rfl
  | some ti =>
    simp only
    generalize ev s x = r
    cases r
    case agg cs =>
      simp only
      cases ti.und <;> try rfl
      rename_i fs
      simp only
      cases fs[f]? with
      | none => rfl
      | some p =>
        obtain ⟨o, ft⟩ := p
        simp only
        cases C.E ft with
        | none => rfl
        | some tf => simp only; generalize rdAt tf (.agg cs) o = z; cases z <;> rfl
    all_goals rfl
theorem field_a (o : Nat) (tf : TI) (cs : List AV) : fieldK (some (o, tf)) (.agg cs) H K = resV (rdAt tf (.agg cs) o) H K := rfl

/-! Lengths, the least and the greatest. -/
theorem o_len (x : Operand) : wpO (ACall C) C q th (.call { callee := .builtin .len, args := #[x], argTypes := #[t] }) s H K = resO (evalBuiltin C.E .len #[t] [ev s x] H) K := by
  unfold wpO wpOp
  simp only [quietBuiltin, implies_true, true_and]; rfl
def lenK (ti : Option TI) (x : AV) (n : Option Nat) (H : Heap) (K : AV → Heap → Prop) : Prop := match ti, n with
  | some ti, some n => match ti.und, x with
    | .str, .str _ => K (.int .i64 n) H
    | .sl _, .str _ => False
    | .sl _, _ => K (.int .i64 n) H
    | _, _ => False
  | _, _ => False
theorem e_len (E : TEnv) (t : TypeId) (x : AV) : resO (evalBuiltin E .len #[t] [x] H) K = lenK (E t) x (lenOf H x) H K := by
  simp only [evalBuiltin, lenK]
  have : (#[t] : Array TypeId)[0]?.bind E = E t := rfl
  rw [this]
  cases E t with
  | none => rfl
  | some ti =>
    obtain ⟨sz, agg, z, by_, und, eq⟩ := ti
    cases lenOf H x with
    | none => rfl
    | some n => cases und <;> cases x <;> rfl
theorem o_min (xs : Array Operand) (tys : Array TypeId) : wpO (ACall C) C q th (.call { callee := .builtin .min, args := xs, argTypes := tys }) s H K = resV (minA (xs.toList.map (ev s))) H K := by
  unfold wpO wpOp
  simp only [quietBuiltin, implies_true, true_and, evalBuiltin]
  generalize minA _ = r; cases r <;> rfl
theorem o_max (xs : Array Operand) (tys : Array TypeId) : wpO (ACall C) C q th (.call { callee := .builtin .max, args := xs, argTypes := tys }) s H K = resV (maxA (xs.toList.map (ev s))) H K := by
  unfold wpO wpOp
  simp only [quietBuiltin, implies_true, true_and, evalBuiltin]
  generalize maxA _ = r; cases r <;> rfl
theorem min2 : minA [.int k a, .int k b] = some (.int k (if b < a then b else a)) := rfl
theorem max2 : maxA [.int k a, .int k b] = some (.int k (if b > a then b else a)) := rfl
end
end Go.VS

/-
  VS, part 42: what a function owns, and the operations on it.
-/
namespace Go.VS

/-- A slice or a variable that is owned: its value, its elements' size, its elements. -/
structure It where
  v : AV
  sz : Nat
  el : List AV

def idOf : AV → Option Nat
  | .ref id _ _ _ => some id
  | .ptr id _ _ _ => some id
  | _ => none

def ItOK (H : Heap) (it : It) : Prop := szAll it.sz it.el = true ∧ match it.v with
  | .nil => it.el = []
  | .e0 => it.el = []
  | .ref id ver off len => len = it.el.length ∧ ∃ b, H.blk id ver = some b ∧ b.sz = it.sz ∧ b.fix = false ∧ off + len ≤ b.el.length ∧ subL b.el off len = it.el
  | .ptr id ver idx off => idx = 0 ∧ off = 0 ∧ it.el.length = 1 ∧ H.blk id ver = some ⟨ver, it.sz, false, it.el⟩
  | _ => False

structure Own (H : Heap) (L : List It) : Prop where
  ok : ∀ (i : Nat) (it : It), L[i]? = some it → ItOK H it
  dis : ∀ (i j : Nat) (a b : It) (id : Nat), L[i]? = some a → L[j]? = some b → idOf a.v = some id → idOf b.v = some id → i = j

theorem ItOK.lt {H : Heap} {it : It} (h : ItOK H it) {id : Nat} (hi : idOf it.v = some id) : id < H.bs.length := by
  obtain ⟨_, h⟩ := h
  cases hv : it.v with
  | ref i ver off len =>
    rw [hv] at h hi
    simp only [idOf, Option.some.injEq] at hi; subst hi
    obtain ⟨_, b, hb, _⟩ := h
    exact Heap.get_lt (Heap.blk_get hb).1
  | ptr i ver ix off =>
    rw [hv] at h hi
    simp only [idOf, Option.some.injEq] at hi; subst hi
    obtain ⟨_, _, _, hb⟩ := h
    exact Heap.get_lt (Heap.blk_get hb).1
  | _ => rw [hv] at hi; simp [idOf] at hi

/-- What lies elsewhere stays. -/
theorem ItOK.frame {H H' : Heap} {it : It} (h : ItOK H it) (hk : ∀ id ver, idOf it.v = some id → H'.blk id ver = H.blk id ver) : ItOK H' it := by
  obtain ⟨h0, h⟩ := h
  refine ⟨h0, ?_⟩
  cases hv : it.v with
  | ref i ver off len =>
    rw [hv] at h hk
    obtain ⟨h1, b, hb, h2⟩ := h
    exact ⟨h1, b, by rw [hk i ver rfl]; exact hb, h2⟩
  | ptr i ver ix off =>
    rw [hv] at h hk
    obtain ⟨h1, h2, h3, hb⟩ := h
    exact ⟨h1, h2, h3, by rw [hk i ver rfl]; exact hb⟩
  | _ => rw [hv] at h; exact h

theorem Own.tl {H : Heap} {a : It} {L : List It} (h : Own H (a :: L)) : Own H L :=
  ⟨fun i it hi => h.ok (i + 1) it hi, fun i j x y id h1 h2 h3 h4 => by have := h.dis (i + 1) (j + 1) x y id h1 h2 h3 h4; omega⟩

theorem Own.nil (H : Heap) : Own H [] := ⟨by simp, by simp⟩

/-- One thing changes. -/
theorem Own.upd {H H' : Heap} {L : List It} (h : Own H L) {j : Nat} {it it' : It} (hj : L[j]? = some it) {i : Nat} (hi : idOf it.v = some i) (hk : ∀ id ver, id ≠ i → id < H.bs.length → H'.blk id ver = H.blk id ver) (hn : ItOK H' it') (hid : ∀ k, idOf it'.v = some k → k = i) : Own H' (L.set j it') := by
  have hlt : j < L.length := (List.getElem?_eq_some_iff.1 hj).1
  refine ⟨fun k a hk' => ?_, fun k l a b id h1 h2 h3 h4 => ?_⟩
  · rw [List.getElem?_set] at hk'
    split at hk'
    · simp only [Option.some.injEq] at hk'; subst hk'; exact hn
    · rename_i hne
      have ho := h.ok k a hk'
      refine ho.frame fun id ver hid' => hk id ver (fun e => ?_) (ho.lt hid')
      subst e
      exact hne (h.dis j k it a id hj hk' hi hid')
  · rw [List.getElem?_set] at h1 h2
    split at h1
    · rename_i e1; subst e1
      simp only [Option.some.injEq] at h1; subst h1
      split at h2
      · rename_i e2; exact e2
      · have := hid id h3; subst this
        exact h.dis j l it b id hj h2 hi h4
    · split at h2
      · rename_i e2; subst e2
        simp only [Option.some.injEq] at h2; subst h2
        have := hid id h4; subst this
        exact h.dis k j a it id h1 hj h3 hi
      · exact h.dis k l a b id h1 h2 h3 h4

/-- A thing is found to be elsewhere (or nowhere), the heap grown. -/
theorem Own.new {H H' : Heap} {L : List It} (h : Own H L) (hk : ∀ id ver, id < H.bs.length → H'.blk id ver = H.blk id ver) {it : It} (hn : ItOK H' it) (hid : ∀ k, idOf it.v = some k → H.bs.length ≤ k) : Own H' (it :: L) := by
  refine ⟨fun k a hk' => ?_, fun k l a b id h1 h2 h3 h4 => ?_⟩
  · cases k with
    | zero => simp at hk'; subst hk'; exact hn
    | succ k => have ho := h.ok k a (by simpa using hk'); exact ho.frame fun id ver hi => hk id ver (ho.lt hi)
  · cases k with
    | zero =>
      simp at h1; subst h1
      cases l with
      | zero => rfl
      | succ l =>
        have := (h.ok l b (by simpa using h2)).lt h4
        have := hid id h3
        omega
    | succ k =>
      cases l with
      | zero =>
        simp at h2; subst h2
        have := (h.ok k a (by simpa using h1)).lt h3
        have := hid id h4
        omega
      | succ l => have := h.dis k l a b id (by simpa using h1) (by simpa using h2) h3 h4; omega

/-- A thing that lay nowhere comes to lie somewhere new. -/
theorem Own.updNew {H H' : Heap} {L : List It} (h : Own H L) (hk : ∀ id ver, id < H.bs.length → H'.blk id ver = H.blk id ver) {j : Nat} {it' : It} (hn : ItOK H' it') (hid : ∀ k, idOf it'.v = some k → H.bs.length ≤ k) : Own H' (L.set j it') := by
  refine ⟨fun k a hk' => ?_, fun k l a b id h1 h2 h3 h4 => ?_⟩
  · rw [List.getElem?_set] at hk'
    split at hk'
    · split at hk'
      · simp only [Option.some.injEq] at hk'; subst hk'; exact hn
      · simp at hk'
    · have ho := h.ok k a hk'; exact ho.frame fun id ver hi => hk id ver (ho.lt hi)
  · rw [List.getElem?_set] at h1 h2
    split at h1
    · rename_i e1; subst e1
      split at h1
      · simp only [Option.some.injEq] at h1; subst h1
        split at h2
        · rename_i e2; exact e2
        · have := (h.ok l b h2).lt h4; have := hid id h3; omega
      · simp at h1
    · split at h2
      · rename_i e2; subst e2
        split at h2
        · simp only [Option.some.injEq] at h2; subst h2
          have := (h.ok k a h1).lt h3; have := hid id h4; omega
        · simp at h2
      · exact h.dis k l a b id h1 h2 h3 h4

theorem blk_new_old {H : Heap} {sz : Nat} {fx : Bool} {el : List AV} {id ver : Nat} (h : id < H.bs.length) : (H.new sz fx el).blk id ver = H.blk id ver := by
  simp only [Heap.blk, Heap.new, List.getElem?_append_left h]
theorem blk_new {H : Heap} {sz : Nat} {fx : Bool} {el : List AV} : (H.new sz fx el).blk H.bs.length H.st = some ⟨H.st, sz, fx, el⟩ := by
  simp [Heap.blk, Heap.new]
theorem blk_upd_ne {H : Heap} {i id ver : Nat} {b : Blk} (h : id ≠ i) : (H.upd i b).blk id ver = H.blk id ver := by
  have h' : ¬ i = id := fun e => h e.symm
  simp only [Heap.blk, Heap.upd, List.getElem?_set, if_neg h']
theorem blk_upd {H : Heap} {id : Nat} {b : Blk} (h : id < H.bs.length) : (H.upd id b).blk id b.ver = some b := by
  simp [Heap.blk, Heap.upd, h]

section
variable {C : Ctx} {th : Bool} {s : Frm} {H : Heap} {K : AV → Heap → Prop} {L : List It}

theorem Own.newSl (hS : Own H L) {sz n : Nat} {el all : List AV} (he : all.take n = el) (hn : n = el.length) (hsz : szAll sz el = true) : Own (H.new sz false all) (⟨.ref H.bs.length H.st 0 n, sz, el⟩ :: L) := by
  refine hS.new (fun id ver h => blk_new_old h) ⟨hsz, hn, _, blk_new, rfl, rfl, ?_, by simpa [subL] using he⟩ (fun k hk => by simp [idOf] at hk; omega)
  have := congrArg List.length he
  simp at this
  simp only; omega

theorem Own.newVar (hS : Own H L) {sz : Nat} {a : AV} (hsz : a.cells.length = sz) : Own (H.new sz false [a]) (⟨.ptr H.bs.length H.st 0 0, sz, [a]⟩ :: L) :=
  hS.new (fun id ver h => blk_new_old h) ⟨by simp [szAll, hsz], rfl, rfl, rfl, blk_new⟩ (fun k hk => by simp [idOf] at hk; omega)

/-- A variable's block. -/
theorem Own.var (hS : Own H L) (j : Nat) {id ver sz : Nat} {a : AV} (hj : L[j]? = some ⟨.ptr id ver 0 0, sz, [a]⟩) : H.blk id ver = some ⟨ver, sz, false, [a]⟩ := (hS.ok j _ hj).2.2.2.2

theorem w_box {t : TypeId} {x : Operand} {ti : TI} {a : AV} (hS : Own H L) (ht : C.E t = some ti) (hx : ev s x = a) (h1 : a.cells.length = ti.sz) (h2 : storA a = true)
    (h : ∀ id ver H', Own H' (⟨.ptr id ver 0 0, ti.sz, [a]⟩ :: L) → K (.ptr id ver 0 0) H') {q : Bool} : wpO (ACall C) C q th (.box t x) s H K := by
  rw [wpO_pure _ rfl]
  simp only [evalOp, ht, hx, h1, h2, and_self, if_true, resO]
  exact h _ _ _ (hS.newVar h1)

theorem mkT_len {ti : TI} {z : AV} (h : zeroA ti = some z) : z.cells.length = ti.sz := by
  unfold zeroA at h
  split at h
  · rename_i hc
    rcases mkT_some h with ⟨_, rfl⟩ | ⟨_, hz⟩
    · exact hc.2
    · have : stor1 z = true := by have := hc.1; rw [hz] at this; simpa using this
      have hl := hc.2; rw [hz] at hl
      cases z <;> first | exact hl | simp [stor1] at this
  · simp at h

theorem zeroE_len {ti : TI} {z : AV} (h : zeroE ti = some z) : z.cells.length = ti.sz := by
  unfold zeroE at h
  split at h
  · rename_i z0 hz0
    simp only [Option.some.injEq] at h
    subst h
    split
    · rw [wkA_cells, List.length_map]; exact mkT_len hz0
    · exact mkT_len hz0
  · simp at h
theorem w_alloc {t : TypeId} {ti : TI} {z : AV} (hS : Own H L) (ht : C.E t = some ti) (hz : zeroA ti = some z)
    (h : ∀ id ver H', Own H' (⟨.ptr id ver 0 0, ti.sz, [z]⟩ :: L) → K (.ptr id ver 0 0) H') {q : Bool} : wpO (ACall C) C q th (.alloc t) s H K := by
  rw [wpO_pure _ rfl]
  simp only [evalOp, ht, hz, resO]
  exact h _ _ _ (hS.newVar (mkT_len hz))

/-- A variable is written. -/
theorem w_stv {t : TypeId} {x v : Operand} {ti : TI} {id ver sz o : Nat} {y y' a : AV} (j : Nat) (hS : Own H L) (hj : L[j]? = some ⟨.ptr id ver 0 0, sz, [y]⟩) (ht : C.E t = some ti) (hx : ev s x = .ptr id ver 0 o) (hv : ev s v = a)
    (h1 : a.cells.length = ti.sz) (h2 : storA a = true) (hw : wrAt y o a = some y') (h3 : y'.cells.length = sz) (h : ∀ H', Own H' (L.set j ⟨.ptr id ver 0 0, sz, [y']⟩) → K (.tup []) H') : wpO (ACall C) C false th (.store t x v) s H K := by
  rw [wpO_wr _ (by simp)]
  have hb := hS.var j hj
  simp only [evalOp, ht, hx, hv, hb, List.getElem?_cons_zero, h1, h2, and_self, if_true, hw, List.set_cons_zero, resO]
  refine h _ (hS.upd hj rfl (fun id' ver' hne _ => blk_upd_ne hne) ⟨by simp [szAll, h3], rfl, rfl, rfl, ?_⟩ (fun k hk => by simpa [idOf] using hk.symm))
  exact blk_upd ((hS.ok j _ hj).lt rfl)
end

/-! Slices that are read. -/
def idx {α : Type} (l : List α) (i : Int) : Option α := if 0 ≤ i then l[i.toNat]? else none
theorem idx_some {α : Type} {l : List α} {i : Int} {x : α} (h : idx l i = some x) : 0 ≤ i ∧ i < l.length ∧ l[i.toNat]? = some x := by
  unfold idx at h
  split at h
  · rename_i h0
    have := (List.getElem?_eq_some_iff.1 h).1
    exact ⟨h0, by omega, h⟩
  · simp at h

def elT (E : TEnv) (t : TypeId) : Option TI := match E t with
  | some ti => match ti.und with | .sl e => E e | _ => none
  | none => none

section
variable {C : Ctx} {q th : Bool} {s : Frm} {H : Heap} {K : AV → Heap → Prop} {L : List It}

def sidxK (l : List UInt8) (n : Int) (H : Heap) (K : AV → Heap → Prop) : Prop := match idx l n with | some b => K (.int .u8 b.toNat) H | none => False
def indK (E : TEnv) (ti : Option TI) (x i : AV) (H : Heap) (K : AV → Heap → Prop) : Prop := match ti, i with
  | some ti, .int _ n => match ti.und, x with
    | .str, .str l => sidxK l n H K
    | .ar m e, .agg cs => match E e with
      | some te => if 0 ≤ n ∧ n < m then resV (rdAt te (.agg cs) (n.toNat * te.sz)) H K else False
      | none => False
    | _, _ => False
  | _, _ => False
theorem o_index (t : TypeId) (x i : Operand) : wpO (ACall C) C q th (.index t x i) s H K = indK C.E (C.E t) (ev s x) (ev s i) H K := by
  rw [wpO_pure _ rfl]
  simp only [evalOp, indK]
  generalize ev s i = n
  generalize ev s x = a
  cases C.E t with
  | none => rfl
  | some ti =>
    cases n
    case int k n =>
      simp only
      cases ti.und <;> cases a <;> try rfl
      · rename_i m e cs
        simp only
        cases C.E e with
        | none => rfl
        | some te =>
          simp only
          split
          · generalize rdAt te (.agg cs) (n.toNat * te.sz) = z; cases z <;> rfl
          · rfl
      · rename_i l
        simp only [sidxK, idx]
        split
        · cases l[n.toNat]? <;> rfl
        · rfl
    all_goals rfl
def isStrU : UD → Bool
  | .str => true
  | _ => false
theorem isStrU_s : isStrU .str = true := rfl
def isSlU : UD → Bool
  | .sl _ => true
  | _ => false
theorem isSlU_s (e : TypeId) : isSlU (.sl e) = true := rfl
theorem indK_s (E : TEnv) (ti : TI) (hu : isStrU ti.und = true) (l : List UInt8) (k : IntKind) (n : Int) : indK E (some ti) (.str l) (.int k n) H K = sidxK l n H K := by
  cases h : ti.und <;> rw [h] at hu <;> simp [isStrU] at hu
  simp only [indK, h]
def iaK (E : TEnv) (t : TypeId) (x i : AV) (H : Heap) (K : AV → Heap → Prop) : Prop := resO (match E t, i with
    | some ti, .int _ n => match ti.und with
      | .sl e => match E e with
        | some te => match x with
          | .fz xs => if 0 ≤ n then match xs[n.toNat]? with
              | some y => if y.cells.length = te.sz then some (.fe y 0, H) else none
              | none => none
            else none
          | .ref id ver off len => match H.blk id ver with
            | some b => if b.sz = te.sz ∧ 0 ≤ n ∧ n < len ∧ off + len ≤ b.el.length then some (.ptr id ver (off + n.toNat) 0, H) else none
            | none => none
          | _ => none
        | none => none
      | .ar m e => match E e with
        | some te => if 0 ≤ n ∧ n < m then match x with
            | .ptr id ver idx off => match H.blk id ver with
              | some _ => some (.ptr id ver idx (off + n.toNat * te.sz), H)
              | none => none
            | .fe y off => some (.fe y (off + n.toNat * te.sz), H)
            | _ => none
          else none
        | none => none
      | _ => none
    | _, _ => none) K
theorem o_ia (t : TypeId) (x i : Operand) : wpO (ACall C) C q th (.indexAddr t x i) s H K = iaK C.E t (ev s x) (ev s i) H K := by
  rw [wpO_pure _ rfl]; rfl
/-- An element of a slice that nobody writes. -/
theorem w_fz {α β : Type} {E : TEnv} {t : TypeId} {ti te : TI} {e : TypeId} (ht : E t = some ti) (hu : ti.und = .sl e) (he : E e = some te) {l : List α} {c : α → AV} (hc : ∀ x, (c x).cells.length = te.sz) {k : IntKind} {n : Int} {f : α → Option β} {r : β} (h : (idx l n).bind f = some r)
    (hk : ∀ x, idx l n = some x → f x = some r → K (.fe (c x) 0) H) : iaK E t (.fz (l.map c)) (.int k n) H K := by
  cases hi : idx l n with
  | none => rw [hi] at h; simp at h
  | some x =>
    rw [hi] at h
    obtain ⟨h0, _, h1⟩ := idx_some hi
    simp only [iaK, ht, hu, he, h0, if_true, List.getElem?_map, h1, Option.map_some, hc, resO]
    exact hk x hi h
/-- An element of a slice that is owned. -/
theorem w_ow {α β : Type} {E : TEnv} {t : TypeId} {ti te : TI} {e : TypeId} (j : Nat) (hS : Own H L) {v : AV} {l : List α} {c : α → AV} {sz : Nat} (hj : L[j]? = some ⟨v, sz, l.map c⟩) (ht : E t = some ti) (hu : ti.und = .sl e) (he : E e = some te) (hsz : sz = te.sz) {k : IntKind} {n : Int} {f : α → Option β} {r : β}
    (h : (idx l n).bind f = some r) (hk : ∀ x id ver off, idx l n = some x → f x = some r → v = .ref id ver off l.length → K (.ptr id ver (off + n.toNat) 0) H) (hp : ∀ id ver, v ≠ .ptr id ver 0 0) : iaK E t v (.int k n) H K := by
  cases hi : idx l n with
  | none => rw [hi] at h; simp at h
  | some x =>
    rw [hi] at h
    obtain ⟨h0, h2, h1⟩ := idx_some hi
    have hok := (hS.ok j _ hj).2
    simp only at hok
    have hne : l.map c ≠ [] := by intro e; rw [List.map_eq_nil_iff] at e; subst e; simp at h1
    split at hok
    · exact absurd hok hne
    · exact absurd hok hne
    · rename_i id ver off len
      obtain ⟨h3, b, hb, h4, _, h5, h6⟩ := hok
      simp only [List.length_map] at h3
      subst h3
      simp only [iaK, ht, hu, he, hb]
      rw [if_pos ⟨by rw [h4, hsz], h0, h2, h5⟩]
      exact hk x id ver off hi h rfl
    · rename_i id ver ix off
      obtain ⟨rfl, rfl, _⟩ := hok
      exact absurd rfl (hp id ver)
    · exact hok.elim
/-- Where it lies. -/
theorem Own.elem {α : Type} (hS : Own H L) (j : Nat) {id ver off n sz : Nat} {v : AV} {l : List α} {c : α → AV} (hj : L[j]? = some ⟨v, sz, l.map c⟩) (hv : v = .ref id ver off n) {i : Int} {x : α} (hx : idx l i = some x) : ∃ b, H.blk id ver = some b ∧ b.el[off + i.toNat]? = some (c x) := by
  obtain ⟨h0, h2, h1⟩ := idx_some hx
  subst hv
  obtain ⟨_, h3, b, hb, h4, _, h5, h6⟩ := hS.ok j _ hj
  refine ⟨b, hb, ?_⟩
  simp only at h3 h6
  have := congrArg (·[i.toNat]?) h6
  simp only [List.getElem?_map, h1, Option.map_some, subL] at this
  rw [← this, List.getElem?_take, List.getElem?_drop, if_pos (by simp at h3; omega)]

/-- An element is written. -/
theorem w_ste {α : Type} {t : TypeId} {x w : Operand} {ti : TI} {id ver off n sz o : Nat} {v a : AV} {l : List α} {c : α → AV} {i : Int} {y y' : α} (j : Nat) (hS : Own H L) (hj : L[j]? = some ⟨v, sz, l.map c⟩) (hv : v = .ref id ver off n) (hi : idx l i = some y) (ht : C.E t = some ti) (hx : ev s x = .ptr id ver (off + i.toNat) o) (hw : ev s w = a)
    (h1 : a.cells.length = ti.sz) (h2 : storA a = true) (hr : wrAt (c y) o a = some (c y')) (h3 : (c y').cells.length = sz) (h : ∀ H', Own H' (L.set j ⟨v, sz, (l.set i.toNat y').map c⟩) → K (.tup []) H') : wpO (ACall C) C false th (.store t x w) s H K := by
  rw [wpO_wr _ (by simp)]
  obtain ⟨b, hb, he⟩ := hS.elem j hj hv hi
  simp only [evalOp, ht, hx, hw, hb, he, h1, h2, and_self, if_true, hr, resO]
  subst hv
  obtain ⟨k0, k1, b', hb', k2, k3, k4, k5⟩ := hS.ok j _ hj
  rw [hb] at hb'
  simp only [Option.some.injEq] at hb'; subst hb'
  simp only at k1 k5
  obtain ⟨i0, i1, i2⟩ := idx_some hi
  have hver := (Heap.blk_get hb).2
  refine h _ (hS.upd hj rfl (fun id' ver' hne _ => blk_upd_ne hne) ⟨?_, by simpa using k1, { b with el := b.el.set (off + i.toNat) (c y') }, ?_, k2, k3, by simpa using k4, ?_⟩ (fun k hk => by simpa [idOf] using hk.symm))
  · simp only [szAll, List.all_eq_true, List.mem_map] at k0 ⊢
    rintro z ⟨z', hz, rfl⟩
    rcases List.mem_or_eq_of_mem_set hz with h' | rfl
    · exact k0 _ ⟨z', h', rfl⟩
    · simpa using h3
  · have := blk_upd (b := { b with el := b.el.set (off + i.toNat) (c y') }) ((hS.ok j _ hj).lt rfl)
    simpa only [hver] using this
  · simp only [subL, List.map_set] at k5 ⊢
    rw [← k5, List.drop_set, if_neg (by omega), List.take_set]
    congr 1
    omega
end
end Go.VS

/-
  VS, part 43: slices that are made and grow; calls; loops.
-/
namespace Go.VS

/-- A slice's value. -/
structure isSl (v : AV) : Prop where
  ok : v = .nil ∨ v = .e0 ∨ ∃ id ver off len, v = .ref id ver off len
theorem isSl_ref (id ver off len : Nat) : isSl (.ref id ver off len) := ⟨.inr (.inr ⟨id, ver, off, len, rfl⟩)⟩
theorem isSl_nil : isSl .nil := ⟨.inl rfl⟩
theorem isSl_e0 : isSl .e0 := ⟨.inr (.inl rfl)⟩
theorem isSl.ne {v : AV} (h : isSl v) (id ver : Nat) : v ≠ .ptr id ver 0 0 := by
  rcases h.ok with rfl | rfl | ⟨_, _, _, _, rfl⟩ <;> simp
theorem isSl.cells {v : AV} (h : isSl v) : v.cells = [v] := by
  rcases h.ok with rfl | rfl | ⟨_, _, _, _, rfl⟩ <;> rfl
theorem isSl.stor {v : AV} (h : isSl v) : stor1 v = true := by
  rcases h.ok with rfl | rfl | ⟨_, _, _, _, rfl⟩ <;> rfl
theorem isSl.stora {v : AV} (h : isSl v) : storA v = true := by
  rcases h.ok with rfl | rfl | ⟨_, _, _, _, rfl⟩ <;> rfl
theorem isSl.rd {v : AV} (h : isSl v) (z : List AV) (b : Nat) (w : UD) (e : Bool) : rdAt ⟨1, false, z, b, w, e⟩ v 0 = some v := by
  rcases h.ok with rfl | rfl | ⟨_, _, _, _, rfl⟩ <;> rfl
theorem isSl.same {v : AV} (h : isSl v) : sameRef v v = true := by
  rcases h.ok with rfl | rfl | ⟨_, _, _, _, rfl⟩ <;> simp [sameRef]
theorem isSl.wr {v : AV} (h : isSl v) (cs : List AV) (o : Nat) (ho : o < cs.length) : wrAt (.agg cs) o v = some (.agg (cs.set o v)) := by
  simp only [wrAt, h.cells, List.length_cons, List.length_nil]
  rw [if_pos (by omega)]
  simp only [splice, List.length_cons, List.length_nil, List.append_assoc, List.cons_append, List.nil_append, Option.some.injEq, AV.agg.injEq]
  rw [List.set_eq_take_append_cons_drop, if_pos ho]

section
variable {C : Ctx} {q th : Bool} {s : Frm} {H : Heap} {K : AV → Heap → Prop} {L : List It}

theorem Own.len (hS : Own H L) (j : Nat) {v : AV} {sz : Nat} {el : List AV} (hj : L[j]? = some ⟨v, sz, el⟩) (hp : isSl v) : lenOf H v = some el.length := by
  have hok := (hS.ok j _ hj).2
  simp only at hok
  split at hok
  · subst hok; rfl
  · subst hok; rfl
  · rename_i id ver off len
    obtain ⟨h3, b, hb, _⟩ := hok
    simp only [lenOf, h3]
  · rename_i id ver ix off
    obtain ⟨rfl, rfl, _⟩ := hok
    exact absurd rfl (hp.ne id ver)
  · exact hok.elim

theorem Own.elems (hS : Own H L) (j : Nat) {v : AV} {sz : Nat} {el : List AV} (hj : L[j]? = some ⟨v, sz, el⟩) (hp : isSl v) : elemsOf H v = some el := by
  have hok := (hS.ok j _ hj).2
  simp only at hok
  split at hok
  · subst hok; rfl
  · subst hok; rfl
  · rename_i id ver off len
    obtain ⟨h3, b, hb, _, _, h5, h6⟩ := hok
    simp only [elemsOf, hb, h5, if_true, h6]
  · rename_i id ver ix off
    obtain ⟨rfl, rfl, _⟩ := hok
    exact absurd rfl (hp.ne id ver)
  · exact hok.elim

theorem Own.notStr (hS : Own H L) (j : Nat) {v : AV} {sz : Nat} {el : List AV} (hj : L[j]? = some ⟨v, sz, el⟩) (l : List UInt8) : v ≠ .str l := by
  rintro rfl
  exact (hS.ok j _ hj).2

theorem w_len (j : Nat) (hS : Own H L) {v : AV} {sz : Nat} {el : List AV} (hj : L[j]? = some ⟨v, sz, el⟩) (hp : isSl v) {ti : TI} {e : TypeId} (hu : ti.und = .sl e) (h : K (.int .i64 el.length) H) : lenK (some ti) v (lenOf H v) H K := by
  rw [hS.len j hj hp]
  have hn := hS.notStr j hj
  simp only [lenK, hu]
  cases v with
  | str l => exact absurd rfl (hn l)
  | _ => exact h
theorem len_fz (xs : List AV) : lenOf H (.fz xs) = some xs.length := rfl
theorem len_str (l : List UInt8) : lenOf H (.str l) = some l.length := rfl
theorem len_nil : lenOf H .nil = some 0 := rfl
theorem len_e0 : lenOf H .e0 = some 0 := rfl
theorem lenK_fz (ti : TI) {e : TypeId} (hu : ti.und = .sl e) (xs : List AV) (n : Nat) : lenK (some ti) (.fz xs) (some n) H K = K (.int .i64 n) H := by simp [lenK, hu]
theorem lenK_nil (ti : TI) {e : TypeId} (hu : ti.und = .sl e) (n : Nat) : lenK (some ti) .nil (some n) H K = K (.int .i64 n) H := by simp [lenK, hu]
theorem lenK_e0 (ti : TI) {e : TypeId} (hu : ti.und = .sl e) (n : Nat) : lenK (some ti) .e0 (some n) H K = K (.int .i64 n) H := by simp [lenK, hu]
theorem lenK_str (ti : TI) (hu : ti.und = .str) (l : List UInt8) (n : Nat) : lenK (some ti) (.str l) (some n) H K = K (.int .i64 n) H := by simp [lenK, hu]

/-- A slice is made. -/
theorem w_mk {α β : Type} {t : TypeId} {x y : Operand} {te : TI} {z : AV} {n : Int} {c : α → AV} {d : α} {f : List α → Option β} {r : β} (hS : Own H L) (ht : elTI C.E t = some te) (hx : ev s x = .int .i64 n) (hy : ev s y = .int .i64 n) (hz : zeroE te = some z) (hd : c d = z) (h0 : te.sz ≠ 0)
    (hh : (if 0 ≤ n ∧ roomy n.toNat te.bytes then some (List.replicate n.toNat d) else none : Option (List α)).bind f = some r)
    (h : ∀ v H', isSl v → 0 ≤ n → roomy n.toNat te.bytes = true → f (List.replicate n.toNat d) = some r → Own H' (⟨v, te.sz, (List.replicate n.toNat d).map c⟩ :: L) → K v H') : wpO (ACall C) C q th (.makeSlice t x y) s H K := by
  rw [wpO_pure _ rfl]
  split at hh
  · rename_i hc
    simp only [evalOp, ht, hx, hy, hz]
    rw [if_pos ⟨hc.1, Int.le_refl _, hc.2, h0⟩]
    refine h _ _ (isSl_ref ..) hc.1 hc.2 hh (hS.newSl (by simp [hd]) (by simp) ?_)
    simp only [szAll, List.map_replicate, List.all_replicate, hd, zeroE_len hz]
    simp
  · simp at hh
theorem w_lit0 {t : TypeId} {ps : Array (Nat × Operand)} {te : TI} (ht : elTI C.E t = some te) (hp : ps.size = 0) (h : K .e0 H) : wpO (ACall C) C q th (.buildSlice t 0 ps) s H K := by
  rw [wpO_pure _ rfl]
  simp only [evalOp, ht, hp, if_true]
  exact h
/-- A slice is written down. -/
theorem w_lit {t : TypeId} {n : Nat} {ps : Array (Nat × Operand)} {te : TI} {z : AV} {el : List AV} (hS : Own H L) (ht : elTI C.E t = some te) (hz : zeroA te = some z) (hn : (n == 0) = false) (hb : (decide (n * te.sz ≤ 1000000) && te.sz != 0) = true)
    (he : fillE te.sz (List.replicate n z) (ps.toList.map fun p => (p.1, ev s p.2)) = some el) (hl : el.length = n) (hsz : szAll te.sz el = true) (h : ∀ v H', isSl v → Own H' (⟨v, te.sz, el⟩ :: L) → K v H') : wpO (ACall C) C q th (.buildSlice t n ps) s H K := by
  rw [wpO_pure _ rfl]
  simp at hn hb
  simp only [evalOp, ht, if_neg hn, hz]
  rw [if_pos hb]
  simp only [he]
  exact h _ _ (isSl_ref ..) (hS.newSl (by rw [← hl]; simp) hl.symm hsz)

theorem szAll_append {sz : Nat} {a b : List AV} (ha : szAll sz a = true) (hb : szAll sz b = true) : szAll sz (a ++ b) = true := by
  unfold szAll at *; rw [List.all_append, ha, hb]; rfl

/-- What append gives. -/
theorem app_own (hS : Own H L) (j : Nat) {te : TI} {v x : AV} {el xs : List AV} (hj : L[j]? = some ⟨v, te.sz, el⟩) (hp : isSl v) (hx : elemsOf H x = some xs) (hsz : szAll te.sz xs = true) (h0 : te.sz ≠ 0) (hr : roomy (el.length + xs.length) te.bytes = true) :
    ∃ v' H', appendA te v x H = some (v', H') ∧ isSl v' ∧ Own H' (L.set j ⟨v', te.sz, el ++ xs⟩) := by
  have hok := hS.ok j _ hj
  obtain ⟨k0, hok⟩ := hok
  have hset : ∀ it : It, L[j]? = some it → L.set j it = L := fun it h => List.ext_getElem? fun k => by
    rw [List.getElem?_set]
    split
    · rename_i e; subst e
      have := (List.getElem?_eq_some_iff.1 h).1
      simp only [this, if_true]; exact h.symm
    · rfl
  simp only [appendA, hx, hsz, Bool.not_true, if_neg h0]
  simp only at hok k0
  split at hok
  · subst hok
    by_cases hn : xs.length = 0
    · have : xs = [] := List.eq_nil_of_length_eq_zero hn
      subst this
      refine ⟨.nil, H, by simp, isSl_nil, ?_⟩
      rw [List.append_nil, hset _ hj]
      exact hS
    · have hr' : roomy xs.length te.bytes = true := by simpa using hr
      refine ⟨.ref H.bs.length H.st 0 xs.length, H.new te.sz false xs, by simp [hn, hr'], isSl_ref .., ?_⟩
      exact hS.updNew (fun id ver h => blk_new_old h) ⟨by simpa using hsz, by simp, _, blk_new, rfl, rfl, by simp, by simp [subL]⟩ (fun k hk => by simp [idOf] at hk; omega)
  · subst hok
    by_cases hn : xs.length = 0
    · have : xs = [] := List.eq_nil_of_length_eq_zero hn
      subst this
      refine ⟨.e0, H, by simp, isSl_e0, ?_⟩
      rw [List.append_nil, hset _ hj]
      exact hS
    · have hr' : roomy xs.length te.bytes = true := by simpa using hr
      refine ⟨.ref H.bs.length H.st 0 xs.length, H.new te.sz false xs, by simp [hn, hr'], isSl_ref .., ?_⟩
      exact hS.updNew (fun id ver h => blk_new_old h) ⟨by simpa using hsz, by simp, _, blk_new, rfl, rfl, by simp, by simp [subL]⟩ (fun k hk => by simp [idOf] at hk; omega)
  · rename_i id ver off len
    obtain ⟨k1, b, hb, k2, k3, k4, k5⟩ := hok
    have hlt := (hS.ok j _ hj).lt rfl
    have hver := (Heap.blk_get hb).2
    subst k1
    by_cases hin : off + el.length + xs.length ≤ b.el.length
    · refine ⟨.ref id ver off (el.length + xs.length), H.upd id { b with el := splice b.el (off + el.length) xs }, by simp [hb, k2, hin], isSl_ref .., ?_⟩
      refine hS.upd hj rfl (fun id' ver' hne _ => blk_upd_ne hne) ⟨szAll_append k0 hsz, by simp, { b with el := splice b.el (off + el.length) xs }, ?_, k2, k3, ?_, ?_⟩ (fun k hk => by simpa [idOf] using hk.symm)
      · have := blk_upd (b := { b with el := splice b.el (off + el.length) xs }) hlt
        simpa only [hver] using this
      · simp only [splice_len _ _ _ hin]; omega
      · simp only [subL] at k5 ⊢
        have e1 : (splice b.el (off + el.length) xs).drop off = el ++ (xs ++ b.el.drop (off + el.length + xs.length)) := by
          unfold splice
          rw [List.append_assoc, List.drop_append_of_le_length (by simp; omega)]
          congr 1
          rw [List.drop_take]
          have : off + el.length - off = el.length := by omega
          rw [this, k5]
        rw [e1, ← List.append_assoc, List.take_append_of_le_length (by simp), List.take_of_length_le (by simp)]
    · refine ⟨.ref id H.st 0 (el.length + xs.length), ⟨H.st + 1, H.bs.set id (some ⟨H.st, b.sz, false, subL b.el off el.length ++ xs⟩)⟩, by simp [hb, k2, hin, k3, k4, hr], isSl_ref .., ?_⟩
      refine hS.upd hj rfl (fun id' ver' hne _ => ?_) ⟨szAll_append k0 hsz, by simp, ⟨H.st, te.sz, false, el ++ xs⟩, ?_, rfl, rfl, by simp, by simp only [subL, List.drop_zero]; exact List.take_of_length_le (by simp)⟩ (fun k hk => by simpa [idOf] using hk.symm)
      · have h' : ¬ id = id' := fun e => hne e.symm
        simp only [Heap.blk, List.getElem?_set, if_neg h']
      · simp only [Heap.blk, List.getElem?_set, hlt, if_true, k2, subL] at k5 ⊢; rw [k5]
  · rename_i id ver ix off
    obtain ⟨rfl, rfl, _⟩ := hok
    exact absurd rfl (hp.ne id ver)
  · exact hok.elim

/-- Lists that may grow so far. -/
def app {α : Type} (by_ : Nat) (l m : List α) : Option (List α) := if roomy (l.length + m.length) by_ then some (l ++ m) else none

theorem o_app (a b : Operand) (t u : TypeId) : wpO (ACall C) C false th (.call { callee := .builtin .append, args := #[a, b], argTypes := #[t, u] }) s H K = resO (evalBuiltin C.E .append #[t, u] [ev s a, ev s b] H) K := by
  unfold wpO wpOp
  simp only [Bool.false_eq_true, false_implies, true_and]; rfl

theorem w_app {α β : Type} {E : TEnv} {t u : TypeId} {te tu : TI} {e : TypeId} {v x : AV} {l m : List α} {c : α → AV} {f : List α → Option β} {r : β} (j : Nat) (hS : Own H L) (hj : L[j]? = some ⟨v, te.sz, l.map c⟩) (hp : isSl v) (ht : elTI E t = some te) (hu : E u = some tu) (hi : tu.und = .sl e)
    (hx : elemsOf H x = some (m.map c)) (hsz : szAll te.sz (m.map c) = true) (h0 : (te.sz == 0) = false) (hh : (app te.bytes l m).bind f = some r) (h : ∀ v' H', isSl v' → app te.bytes l m = some (l ++ m) → f (l ++ m) = some r → Own H' (L.set j ⟨v', te.sz, (l ++ m).map c⟩) → K v' H') :
    resO (evalBuiltin E .append #[t, u] [v, x] H) K := by
  cases hr : app te.bytes l m with
  | none => rw [hr] at hh; simp at hh
  | some lm =>
    have hr' := hr
    unfold app at hr
    split at hr
    · rename_i hroom
      simp only [Option.some.injEq] at hr; subst hr
      rw [hr'] at hh
      obtain ⟨v', H', h1, h2, h3⟩ := app_own hS j hj hp hx hsz (by simpa using h0) (by simpa using hroom)
      have e1 : (#[t, u] : Array TypeId)[0]? = some t := rfl
      have e2 : ((#[t, u] : Array TypeId)[1]?).bind E = E u := rfl
      simp only [evalBuiltin, e1, e2, ht, hu, hi, h1, resO]
      exact h v' H' h2 hr' hh (by rw [List.map_append]; exact h3)
    · simp at hr

/-! Calls. -/
def callK (C : Ctx) (q th : Bool) (f : AV) (args : List AV) (H : Heap) (K : AV → Heap → Prop) : Prop :=
  match f with
  | .fn g caps => if q then wpCallQ (ACall C) C g (args ++ caps) th H K else ACall C g (args ++ caps) H K ∨ wpCallQ (ACall C) C g (args ++ caps) th H K
  | _ => False
theorem o_call (f : Operand) (args : Array Operand) (tys : Array TypeId) : wpO (ACall C) C q th (.call { callee := .value f, args, argTypes := tys }) s H K = callK C q th (ev s f) (args.toList.map (ev s)) H K := rfl
theorem w_call {α β : Type} {g : FuncId} {caps args : List AV} {o : Option α} {f : α → Option β} {r : β} (h : o.bind f = some r) (hk : ∀ x, o = some x → f x = some r → ACall C g (args ++ caps) H K) : callK C false th (.fn g caps) args H K := by
  cases ho : o with
  | none => rw [ho] at h; simp at h
  | some x => rw [ho] at h; exact .inl (hk x ho h)
end

/-! Loops. -/
inductive LR (σ ρ : Type) where
  | next (x : σ)
  | done (r : ρ)

def iter {σ ρ : Type} (f : σ → Option (LR σ ρ)) : Nat → σ → Option ρ
  | 0, _ => none
  | n + 1, x => (f x).bind fun y => match y with | .next x' => iter f n x' | .done r => some r

open Classical in
/-- What a loop comes to. -/
noncomputable def whl {σ ρ : Type} (f : σ → Option (LR σ ρ)) (x : σ) : Option ρ := if h : ∃ n, (iter f n x).isSome then iter f h.choose x else none

theorem iter_mono {σ ρ : Type} {f : σ → Option (LR σ ρ)} : ∀ {n m : Nat} {x : σ} {r : ρ}, iter f n x = some r → n ≤ m → iter f m x = some r
  | 0, _, _, _, h, _ => by simp [iter] at h
  | n + 1, 0, _, _, _, h => by omega
  | n + 1, m + 1, x, r, h, hle => by
    simp only [iter] at h ⊢
    cases hf : f x with
    | none => rw [hf] at h; simp at h
    | some y =>
      rw [hf] at h
      cases y with
      | next x' => exact iter_mono (m := m) h (by omega)
      | done r' => exact h

theorem whl_some {σ ρ : Type} {f : σ → Option (LR σ ρ)} {x : σ} {r : ρ} : whl f x = some r ↔ ∃ n, iter f n x = some r := by
  unfold whl
  constructor
  · intro h
    split at h
    · exact ⟨_, h⟩
    · simp at h
  · rintro ⟨n, h⟩
    have hex : ∃ n, (iter f n x).isSome := ⟨n, by simp [h]⟩
    rw [dif_pos hex]
    cases hc : iter f hex.choose x with
    | none => have := hex.choose_spec; rw [hc] at this; simp at this
    | some r' =>
      have h1 := iter_mono hc (Nat.le_max_left hex.choose n)
      have h2 := iter_mono h (Nat.le_max_right hex.choose n)
      rw [h1] at h2; exact h2

theorem whl_eq {σ ρ : Type} (f : σ → Option (LR σ ρ)) (x : σ) : whl f x = (f x).bind fun y => match y with | .next x' => whl f x' | .done r => some r := by
  refine Option.ext fun r => ?_
  rw [whl_some]
  constructor
  · rintro ⟨n, h⟩
    cases n with
    | zero => simp [iter] at h
    | succ n =>
      simp only [iter] at h
      cases hf : f x with
      | none => rw [hf] at h; simp at h
      | some y =>
        rw [hf] at h
        cases y with
        | next x' => exact whl_some.2 ⟨n, h⟩
        | done r' => exact h
  · intro h
    cases hf : f x with
    | none => rw [hf] at h; simp at h
    | some y =>
      rw [hf] at h
      cases y with
      | next x' => obtain ⟨n, hn⟩ := whl_some.1 h; exact ⟨n + 1, by simp only [iter, hf]; exact hn⟩
      | done r' => exact ⟨1, by simp only [iter, hf]; exact h⟩

/-- What holds at a round's end. -/
def lpK {σ ρ : Type} (keep : List Nat) (Inv : σ → Frm → Heap → Prop) (y : LR σ ρ) (K : Ex → Frm → Heap → Prop) : Ex → Frm → Heap → Prop
  | .normal, s, H => ∃ x', y = .next x' ∧ Inv x' (killF keep s) H
  | .exit i, s, H => K (.exit i) s H
  | .ret, s, H => K .ret s H

section
variable {C : Ctx} {K K1 : Ex → Frm → Heap → Prop} {s : Frm} {H : Heap}
theorem w_loop {σ ρ : Type} (gC : Good C) {f : σ → Option (LR σ ρ)} {x : σ} {r : ρ} {keep : List Nat} {a : AC} (hw : whl f x = some r) (Inv : σ → Frm → Heap → Prop) (h0 : Inv x (killF keep s) H)
    (hb : ∀ x y s H, f x = some y → (∀ r', y = .done r' → r' = r) → Inv x s H → ∀ K1, K1 = lpK keep Inv y K → wpC (ACall C) C a s H K1) : wpC (ACall C) C (.loop ⟨keep, false⟩ a) s H K := by
  obtain ⟨n, hn⟩ := whl_some.1 hw
  have key : ∀ (n : Nat) (x : σ) (s : Frm) (H : Heap), iter f n x = some r → Inv x s H → ∀ m, LoopP (wpC (ACall C) C a) (nextL ⟨keep, false⟩ m) K s H := by
    intro n
    induction n with
    | zero => intro x s H h; simp [iter] at h
    | succ n ih =>
      intro x s H h hi m
      simp only [iter] at h
      cases hf : f x with
      | none => rw [hf] at h; simp at h
      | some y =>
        rw [hf] at h
        simp only [Option.bind_some] at h
        refine LoopP.round (ACall.up gC.up) (wpC_mono (ACall.up gC.up) _ _ _ _ _ (fun e s' H' he => ?_) (hb x y s H hf (fun r' e => by subst e; simpa using h) hi _ rfl))
        cases e with
        | normal =>
          obtain ⟨x', rfl, hi'⟩ := he
          exact ih x' _ _ h hi' m
        | exit i => exact he
        | ret => exact he
  exact key n x _ _ hn h0 _
theorem lp_n {σ ρ : Type} {keep : List Nat} {Inv : σ → Frm → Heap → Prop} {y : LR σ ρ} {x' : σ} (hK : K1 = lpK keep Inv y K) (hy : some (LR.next x') = some y) (hi : Inv x' (killF keep s) H) : K1 .normal s H := by
  rw [hK]; exact ⟨x', (Option.some.inj hy).symm, hi⟩
theorem lp_x {σ ρ : Type} {keep : List Nat} {Inv : σ → Frm → Heap → Prop} {y : LR σ ρ} {i : Nat} (hK : K1 = lpK keep Inv y K) (h : K (.exit i) s H) : K1 (.exit i) s H := by rw [hK]; exact h
theorem lp_r {σ ρ : Type} {keep : List Nat} {Inv : σ → Frm → Heap → Prop} {y : LR σ ρ} (hK : K1 = lpK keep Inv y K) (h : K .ret s H) : K1 .ret s H := by rw [hK]; exact h

/-- A piece of code with several ends: each comes to 'Q'. -/
def cutK (Q : Frm → Heap → Prop) (K : Ex → Frm → Heap → Prop) : Ex → Frm → Heap → Prop
  | .normal, s, H => Q s H
  | .exit i, s, H => K (.exit i) s H
  | .ret, s, H => K .ret s H
theorem w_join (gC : Good C) {a : AC} (Q : Frm → Heap → Prop) (h : ∀ K1, K1 = cutK Q K → wpC (ACall C) C a s H K1) (hq : ∀ s H, Q s H → K .normal s H) : wpC (ACall C) C a s H K := by
  refine w_cut (h _ rfl) (fun e s H he => ?_) gC
  cases e with
  | normal => exact hq s H he
  | exit i => exact he
  | ret => exact he
theorem cut_n {Q : Frm → Heap → Prop} (hK : K1 = cutK Q K) (h : Q s H) : K1 .normal s H := by rw [hK]; exact h
theorem cut_r {Q : Frm → Heap → Prop} (hK : K1 = cutK Q K) (h : K .ret s H) : K1 .ret s H := by rw [hK]; exact h
end
end Go.VS

/-
  VS, part 44: more of the operations, and calls on what is lent.
-/
namespace Go.VS

section
variable {C : Ctx} {q th : Bool} {s : Frm} {H : Heap} {K : AV → Heap → Prop} {L : List It}

theorem killB_n : killB none s = s := rfl
def andL (k : IntKind) (a b : Int) : Int := k.wrap (BitVec.ofInt k.bits a &&& BitVec.ofInt k.bits b).toNat
def orL (k : IntKind) (a b : Int) : Int := k.wrap (BitVec.ofInt k.bits a ||| BitVec.ofInt k.bits b).toNat
def xorL (k : IntKind) (a b : Int) : Int := k.wrap (BitVec.ofInt k.bits a ^^^ BitVec.ofInt k.bits b).toNat
def shlL (k : IntKind) (a b : Int) : Int := k.wrap (a * 2 ^ (min b.toNat k.bits))
def shrL (k : IntKind) (a b : Int) : Int := a.fdiv (2 ^ (min b.toNat k.bits))
theorem b_andL (E : TEnv) (t : TypeId) (k : IntKind) (a b : Int) : binA E .and t (.int k a) (.int k b) = some (.int k (andL k a b)) := b_and ..
theorem b_orL (E : TEnv) (t : TypeId) (k : IntKind) (a b : Int) : binA E .or t (.int k a) (.int k b) = some (.int k (orL k a b)) := b_or ..
theorem b_xorL (E : TEnv) (t : TypeId) (k : IntKind) (a b : Int) : binA E .xor t (.int k a) (.int k b) = some (.int k (xorL k a b)) := b_xor ..
theorem sr_lit (k : IntKind) (a b : Int) (h : decide (b < 0) = false) : sr k a b = some (shrL k a b) := by simp at h; simp [sr, shrL, Int.not_lt.2 h]

/-! Conversions. -/
def convK (E : TEnv) (src dst : TypeId) (x : AV) (H : Heap) (K : AV → Heap → Prop) : Prop := resO (match E src, E dst, x with
    | some _, some td, .int _ n => match td.und with
      | .it k => some (.int k (k.wrap n), H)
      | _ => none
    | some _, some td, .str l => match td.und with
      | .str => some (.str l, H)
      | .sl e => match E e with
        | some te => match te.und with
          | .it .u8 => if te.sz = 1 ∧ te.bytes = 1 ∧ l.length ≤ 2 ^ 45 then some (.ref H.bs.length H.st 0 l.length, H.new 1 false (l.map fun b => .int .u8 b.toNat)) else none
          | _ => none
        | none => none
      | _ => none
    | some ts, some td, x => match ts.und, td.und with
      | .sl e, .str => match E e with
        | some te => match te.und with
          | .it .u8 => match elemsOf H x with
            | some xs => if te.sz = 1 then (match (bytesOf xs).map AV.str with | some v => some (v, H) | none => none) else none
            | none => none
          | _ => none
        | none => none
      | _, _ => none
    | _, _, _ => none) K
theorem o_conv (a b : TypeId) (x : Operand) : wpO (ACall C) C q th (.convert a b x) s H K = convK C.E a b (ev s x) H K := by
  rw [wpO_pure _ rfl]; rfl
def convI (ta tb : Option TI) (n : Int) (H : Heap) (K : AV → Heap → Prop) : Prop := match ta, tb with
  | some _, some td => match td.und with | .it k => K (.int k (k.wrap n)) H | _ => False
  | _, _ => False
theorem conv_i (E : TEnv) (a b : TypeId) (j : IntKind) (n : Int) : convK E a b (.int j n) H K = convI (E a) (E b) n H K := by
  simp only [convK, convI]
  cases E a with
  | none => rfl
  | some ta =>
    cases E b with
    | none => rfl
    | some tb => simp only; cases tb.und <;> rfl
def u8s (l : List UInt8) : List Int := l.map fun b => (b.toNat : Int)
def toStr (l : List Int) : List UInt8 := l.map fun n => UInt8.ofNat n.toNat
def s2b (l : List UInt8) : Option (List Int) := if l.length ≤ 2 ^ 45 then some (u8s l) else none
/-! Slicing. -/
def slc {α : Type} (l : List α) (lo hi : Int) : Option (List α) := if 0 ≤ lo ∧ lo ≤ hi ∧ hi ≤ l.length then some ((l.drop lo.toNat).take (hi.toNat - lo.toNat)) else none
def sl3 (E : TEnv) (t : TypeId) (x : AV) (lo hi mx : Option (Option Int)) (H : Heap) (K : AV → Heap → Prop) : Prop := match lo, hi, mx with
  | some lo, some hi, some mx => resV (sliceA E t x lo hi mx H) H K
  | _, _, _ => False
theorem o_slice (t : TypeId) (x : Operand) (lo hi mx : Option Operand) : wpO (ACall C) C q th (.slice t x lo hi mx) s H K = sl3 C.E t (ev s x) (intOp (lo.map (ev s))) (intOp (hi.map (ev s))) (intOp (mx.map (ev s))) H K := by
  rw [wpO_pure _ rfl]
  simp only [evalOp, sl3]
  generalize intOp (lo.map (ev s)) = a
  generalize intOp (hi.map (ev s)) = b
  generalize intOp (mx.map (ev s)) = c
  cases a <;> cases b <;> cases c <;> first | rfl | (simp only; rename_i lo hi mx; generalize sliceA C.E t (ev s x) lo hi mx H = z; cases z <;> rfl)
theorem intOp_n : intOp none = some none := rfl
theorem intOp_s (k : IntKind) (n : Int) : intOp (some (.int k n)) = some (some n) := rfl
theorem szAll_map {α : Type} {c : α → AV} {sz : Nat} (hc : ∀ x, (c x).cells.length = sz) (l : List α) : szAll sz (l.map c) = true := by
  simp [szAll, hc]
/-- A part of a slice that is owned takes its place. -/
theorem w_slO {α β : Type} {E : TEnv} {t e : TypeId} {ti te : TI} {v : AV} {l : List α} {c : α → AV} {lo hi : Option Int} {f : List α → Option β} {r : β} (j : Nat) (hS : Own H L) (hj : L[j]? = some ⟨v, te.sz, l.map c⟩) (hp : isSl v) (ht : E t = some ti) (hu : ti.und = .sl e) (he : E e = some te) (hh : (slc l (lo.getD 0) (hi.getD l.length)).bind f = some r)
    (h : ∀ v' m, isSl v' → slc l (lo.getD 0) (hi.getD l.length) = some m → f m = some r → Own H (L.set j ⟨v', te.sz, m.map c⟩) → K v' H) : sl3 E t v (some lo) (some hi) (some none) H K := by
  cases hm : slc l (lo.getD 0) (hi.getD l.length) with
  | none => rw [hm] at hh; simp at hh
  | some m =>
    rw [hm] at hh
    have hk := fun v' hv' => h v' m hv' hm hh
    unfold slc at hm
    split at hm
    · rename_i hc
      obtain ⟨hc1, hc2, hc3⟩ := hc
      simp only [Option.some.injEq] at hm
      have hok := hS.ok j _ hj
      obtain ⟨k0, hok⟩ := hok
      have hset : L.set j ⟨v, te.sz, l.map c⟩ = L := List.ext_getElem? fun k => by
        rw [List.getElem?_set]
        split
        · rename_i e; subst e
          have := (List.getElem?_eq_some_iff.1 hj).1
          simp only [this, if_true]; exact hj.symm
        · rfl
      have hmsz : szAll te.sz (m.map c) = true := by
        simp only [szAll, List.all_eq_true, List.mem_map] at k0 ⊢
        rintro z ⟨y, hy, rfl⟩
        rw [← hm] at hy
        exact k0 _ ⟨y, List.mem_of_mem_drop (List.mem_of_mem_take hy), rfl⟩
      have empty : l.map c = [] → m = [] ∧ l = [] ∧ lo.getD 0 = 0 ∧ hi.getD l.length = 0 := by
        intro e
        rw [List.map_eq_nil_iff] at e
        subst e
        have e0 : (([] : List α).length : Int) = 0 := rfl
        rw [e0] at hc3 hc2 ⊢
        exact ⟨by rw [← hm]; simp, rfl, by omega, by omega⟩
      simp only at hok k0
      split at hok
      · obtain ⟨rfl, rfl, e1, e2⟩ := empty hok
        have e2' : hi.getD 0 = 0 := by cases hi with | none => rfl | some x => simpa using e2
        simp only [sl3, sliceA, ht, hu, he]
        rw [if_pos ⟨e1, e2', rfl, by simp⟩]
        exact hk .nil isSl_nil (by rw [hset]; exact hS)
      · obtain ⟨rfl, rfl, e1, e2⟩ := empty hok
        have e2' : hi.getD 0 = 0 := by cases hi with | none => rfl | some x => simpa using e2
        simp only [sl3, sliceA, ht, hu, he]
        rw [if_pos ⟨e1, e2', rfl, by simp⟩]
        exact hk .e0 isSl_e0 (by rw [hset]; exact hS)
      · rename_i id ver off len
        obtain ⟨k1, b, hb, k2, k3, k4, k5⟩ := hok
        simp only [List.length_map] at k1
        subst k1
        simp only [sl3, sliceA, ht, hu, hb, he, k2, ne_eq, not_true_eq_false, if_false]
        rw [if_pos ⟨hc1, hc2, by omega⟩]
        have hml : (hi.getD (l.length : Int)).toNat - (lo.getD 0).toNat = m.length := by
          rw [← hm, List.length_take, List.length_drop]; omega
        refine hk _ (isSl_ref ..) (hS.upd hj rfl (fun _ _ _ _ => rfl) ⟨hmsz, ?_, b, hb, k2, k3, ?_, ?_⟩ (fun k hk => by simpa [idOf] using hk.symm))
        · simp only [List.length_map]; exact hml
        · omega
        · simp only [subL] at k5 ⊢
          rw [← hm, List.map_take, List.map_drop, ← k5, List.drop_take, List.drop_drop, List.take_take]
          congr 1
          omega
      · rename_i id ver ix off
        obtain ⟨rfl, rfl, _⟩ := hok
        exact absurd rfl (hp.ne id ver)
      · exact hok.elim
    · simp at hm

/-! Making. -/
def mkL {α : Type} (by_ : Nat) (n : Int) (d : α) : Option (List α) := if 0 ≤ n ∧ roomy n.toNat by_ then some (List.replicate n.toNat d) else none
theorem w_make {α β : Type} {t : TypeId} {x y : Operand} {te : TI} {z : AV} {n : Int} {c : α → AV} {d : α} {f : List α → Option β} {r : β} (hS : Own H L) (ht : elTI C.E t = some te) (hx : ev s x = .int .i64 n) (hy : ev s y = .int .i64 n) (hz : zeroE te = some z) (hd : c d = z) (h0 : (te.sz == 0) = false)
    (hh : (mkL te.bytes n d).bind f = some r) (h : ∀ v H' l, isSl v → mkL te.bytes n d = some l → f l = some r → Own H' (⟨v, te.sz, l.map c⟩ :: L) → K v H') : wpO (ACall C) C q th (.makeSlice t x y) s H K := by
  refine w_mk hS ht hx hy hz hd (by simpa using h0) hh fun v H' hv h1 h2 h3 h4 => h v H' _ hv (by unfold mkL; rw [if_pos ⟨h1, h2⟩]) h3 h4
theorem w_appV {α β : Type} {E : TEnv} {t u : TypeId} {te tu : TI} {e : TypeId} {v x : AV} {l m : List α} {c : α → AV} {f : List α → Option β} {r : β} (j : Nat) (hS : Own H L) (hj : L[j]? = some ⟨v, te.sz, l.map c⟩) (hp : isSl v) (ht : elTI E t = some te) (hu : E u = some tu) (hi : tu.und = .sl e)
    (hx : elemsOf H x = some (m.map c)) (hsz : ∀ x, (c x).cells.length = te.sz) (h0 : (te.sz == 0) = false) (hh : (app te.bytes l m).bind f = some r) (h : ∀ v' H' lm, isSl v' → app te.bytes l m = some lm → f lm = some r → Own H' (L.set j ⟨v', te.sz, lm.map c⟩) → K v' H') :
    resO (evalBuiltin E .append #[t, u] [v, x] H) K :=
  w_app j hS hj hp ht hu hi hx (szAll_map hsz m) h0 hh fun v' H' h1 h2 h3 h4 => h v' H' _ h1 h2 h3 h4

/-! The order of what is owned; what is nowhere. -/
theorem Own.perm {L' : List It} (h : Own H L) (hp : L.Perm L') : Own H L' := by
  have nd : ∀ {L : List It}, Own H L ↔ (∀ it ∈ L, ItOK H it) ∧ (L.filterMap (fun it => idOf it.v)).Nodup := by
    intro L
    constructor
    · intro h
      refine ⟨fun it hi => ?_, ?_⟩
      · obtain ⟨i, hi'⟩ := List.mem_iff_getElem?.1 hi
        exact h.ok i it hi'
      · induction L with
        | nil => simp
        | cons a L ih =>
          have ih := ih h.tl
          rw [List.filterMap_cons]
          cases ha : idOf a.v with
          | none => exact ih
          | some id =>
            refine List.nodup_cons.2 ⟨fun hm => ?_, ih⟩
            obtain ⟨b, hb, hid⟩ := List.mem_filterMap.1 hm
            obtain ⟨j, hj⟩ := List.mem_iff_getElem?.1 hb
            have := h.dis 0 (j + 1) a b id rfl hj ha hid
            omega
    · rintro ⟨h1, h2⟩
      refine ⟨fun i it hi => h1 it (List.mem_of_getElem? hi), ?_⟩
      clear h1
      induction L with
      | nil => intro i j a b id h; simp at h
      | cons a L ih =>
        have h2' : (L.filterMap (fun it => idOf it.v)).Nodup := by
          rw [List.filterMap_cons] at h2
          split at h2
          · exact h2
          · exact (List.nodup_cons.1 h2).2
        have no : ∀ (j : Nat) (b : It) (id : Nat), L[j]? = some b → idOf a.v = some id → idOf b.v ≠ some id := by
          intro j b id hj ha hb
          rw [List.filterMap_cons, ha] at h2
          exact (List.nodup_cons.1 h2).1 (List.mem_filterMap.2 ⟨b, List.mem_of_getElem? hj, hb⟩)
        intro i j x y id hi hj hx hy
        cases i with
        | zero =>
          simp at hi; subst hi
          cases j with
          | zero => rfl
          | succ j => exact absurd hy (no j y id (by simpa using hj) hx)
        | succ i =>
          cases j with
          | zero => simp at hj; subst hj; exact absurd hx (no i x id (by simpa using hi) hy)
          | succ j => have := ih h2' i j x y id (by simpa using hi) (by simpa using hj) hx hy; omega
  rw [nd] at h ⊢
  exact ⟨fun it hi => h.1 it (hp.mem_iff.2 hi), (hp.filterMap _).nodup_iff.1 h.2⟩
theorem Own.front (h : Own H L) (j : Nat) {it : It} (hj : L[j]? = some it) : Own H (it :: L.eraseIdx j) := by
  refine h.perm ?_
  have hlt := (List.getElem?_eq_some_iff.1 hj).1
  have he := (List.getElem?_eq_some_iff.1 hj).2
  have : L = L.take j ++ it :: L.drop (j + 1) := by
    rw [← he, List.getElem_cons_drop, List.take_append_drop]
  rw [List.eraseIdx_eq_take_drop_succ]
  conv => lhs; rw [this]
  exact List.perm_middle
theorem Own.nil_ (h : Own H L) (sz : Nat) : Own H (⟨.nil, sz, []⟩ :: L) :=
  h.new (fun _ _ _ => rfl) ⟨rfl, rfl⟩ (fun k hk => by simp [idOf] at hk)
theorem Own.e0_ (h : Own H L) (sz : Nat) : Own H (⟨.e0, sz, []⟩ :: L) :=
  h.new (fun _ _ _ => rfl) ⟨rfl, rfl⟩ (fun k hk => by simp [idOf] at hk)
theorem Own.drop (h : Own H L) (j : Nat) : Own H (L.eraseIdx j) := by
  cases hj : L[j]? with
  | none =>
    rw [List.eraseIdx_of_length_le (List.getElem?_eq_none_iff.1 hj)]; exact h
  | some it => exact (h.front j hj).tl
/-- A variable that is only read. -/
theorem Own.varm (hS : Own H L) {id ver sz : Nat} {a : AV} (hm : ⟨.ptr id ver 0 0, sz, [a]⟩ ∈ L) : H.blk id ver = some ⟨ver, sz, false, [a]⟩ := by
  obtain ⟨j, hj⟩ := List.mem_iff_getElem?.1 hm
  exact hS.var j hj

/-! Calls that are shown on deep values. -/
theorem w_callQ {α β : Type} {g : FuncId} {caps args ys : List AV} {lent : Bool} {o : Option α} {f : α → Option β} {r : β} {rsh : List (List Sh)} (h : o.bind f = some r) (hr : (C.pol g).rsh = rsh) (hp : prepVal [] (args ++ caps) H = some (ys, lent))
    (hk : ∀ x, o = some x → f x = some r → ∃ y, ACall C g ys ⟨0, []⟩ (fun v L => ∃ rs zs L2, v = oneOrTup rs ∧ takeVals rsh rs L = some (zs, L2) ∧ y = oneOrTup zs) ∧ (lent = false ∨ noFz y = true) ∧ if th || lent then K (thawV y H).1 (thawV y H).2 else K (frzV y) H) : callK C q th (.fn g caps) args H K := by
  cases ho : o with
  | none => rw [ho] at h; simp at h
  | some x =>
    rw [ho] at h
    have hq : wpCallQ (ACall C) C g (args ++ caps) th H K := by
      unfold wpCallQ
      rw [hp, hr]
      exact hk x ho h
    cases q with
    | true => exact hq
    | false => exact .inr hq
end
end Go.VS
