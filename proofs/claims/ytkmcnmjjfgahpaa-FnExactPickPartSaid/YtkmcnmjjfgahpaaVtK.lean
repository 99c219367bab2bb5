/-
  VS, part 37: a region whose order is open.
-/
import Derived.Test.YtkmcnmjjfgahpaaVtJ
import Derived.StillTail
namespace Go.VS

structure DOK (ops : Array Oper) (louds : List Nat) : Prop where
  back : ∀ (i : Nat) (o : Oper), ops[i]? = some o → ∀ e ∈ o.after, Region.binds .any e = true → e.on < i
  uniq : ∀ (i j : Nat) (o p : Oper) (d : Tmp), i ≠ j → ops[i]? = some o → ops[j]? = some p → p.dst = some d → o.dst ≠ some d
  ord : ∀ (i j : Nat) (o p : Oper) (d : Tmp), i ≠ j → ops[i]? = some o → ops[j]? = some p → p.dst = some d → d ∈ Oper.looksAt ops o → ((bef ops.toList).getD (max i j) 0).testBit (min i j) = true
  after : ∀ (i j : Nat) (o p : Oper), ops[i]? = some o → ops[j]? = some p → i ∈ louds → i < j → ((bef ops.toList).getD j 0).testBit i = true
  late : ∀ (i j : Nat) (o p : Oper), ops[i]? = some o → ops[j]? = some p → i ∈ louds → j < i → ((bef ops.toList).getD i 0).testBit j = false → j ∉ louds ∧ p.guard = none ∧ lateOp p.op = true ∧ (∃ d, p.dst = some d) ∧
    ∀ (k : Nat) (r : Oper) (d : Tmp), ops[k]? = some r → r.dst = some d → j ≤ k → d ∉ Oper.looksAt ops p

theorem dok_of {ops : Array Oper} {louds : List Nat} (h : drawOK ops louds = true) : DOK ops louds := by
  have lt : ∀ {i : Nat} {o : Oper}, ops[i]? = some o → i < ops.toList.length := fun h => by have := (Array.getElem?_eq_some_iff.1 h).1; simpa using this
  have tl : ∀ {i : Nat} {o : Oper}, ops[i]? = some o → ops.toList[i]? = some o := fun h => by simpa using h
  have one : ∀ (i : Nat) (o : Oper), ops[i]? = some o → (∀ e ∈ o.after, Region.binds .any e = true → e.on < i) ∧ ∀ (j : Nat) (p : Oper), ops[j]? = some p → i ≠ j →
      (∀ d, p.dst = some d → o.dst ≠ some d ∧ (d ∈ Oper.looksAt ops o → ((bef ops.toList).getD (max i j) 0).testBit (min i j) = true)) ∧
      (i ∈ louds → i < j → ((bef ops.toList).getD j 0).testBit i = true) ∧
      (i ∈ louds → j < i → ((bef ops.toList).getD i 0).testBit j = false → j ∉ louds ∧ p.guard = none ∧ lateOp p.op = true ∧ (∃ d, p.dst = some d) ∧ ∀ (k : Nat) (r : Oper) (d : Tmp), ops[k]? = some r → r.dst = some d → j ≤ k → d ∉ Oper.looksAt ops p) := by
    intro i o ho
    simp only [drawOK, List.all_eq_true, List.mem_range] at h
    have hi := h i (lt ho)
    rw [tl ho] at hi
    simp only [Bool.and_eq_true, Array.all_eq_true_iff_forall_mem, List.all_eq_true, List.mem_range, Bool.or_eq_true, Bool.not_eq_true', decide_eq_true_eq] at hi
    obtain ⟨ha, hb⟩ := hi
    refine ⟨fun e he hbe => (ha e he).resolve_left (by simp [hbe]), fun j p hp hij => ?_⟩
    have hj := hb j (lt hp)
    rw [tl hp] at hj
    simp only [Bool.or_eq_true, beq_iff_eq, Bool.and_eq_true, Bool.not_eq_true'] at hj
    rcases hj with hj | ⟨⟨hj1, hj2⟩, hj3⟩
    · exact absurd hj hij
    refine ⟨fun d hd => ?_, fun hl hlt => ?_, fun hl hlt hbe => ?_⟩
    · rw [hd] at hj1
      simp only [Bool.and_eq_true, bne_iff_ne, ne_eq, Bool.or_eq_true, Bool.not_eq_true'] at hj1
      exact ⟨hj1.1, fun hm => hj1.2.resolve_left (by simp [hm])⟩
    · exact hj2.resolve_left (by simp [hl, hlt])
    · rcases hj3 with (hj3 | hj3) | ⟨⟨⟨⟨q1, q2⟩, q3⟩, q4⟩, q5⟩
      · simp [hl, hlt] at hj3
      · rw [hbe] at hj3; simp at hj3
      · refine ⟨by simpa using q1, by simpa using q2, q3, Option.isSome_iff_exists.1 q4, fun k r d hk hr hjk hm => ?_⟩
        simp only [List.all_eq_true, List.mem_range] at q5
        have := q5 k (lt hk)
        rw [tl hk] at this
        simp only [hr] at this
        simp [hjk, hm] at this
  exact ⟨fun i o ho => (one i o ho).1, fun i j o p d hij ho hp hd => (((one i o ho).2 j p hp hij).1 d hd).1, fun i j o p d hij ho hp hd => (((one i o ho).2 j p hp hij).1 d hd).2,
    fun i j o p ho hp hl hlt => ((one i o ho).2 j p hp (by omega)).2.1 hl hlt, fun i j o p ho hp hl hlt => ((one i o ho).2 j p hp (by omega)).2.2 hl hlt⟩

theorem next_loud (louds : List Nat) (n : Nat) : ∀ (m b : Nat), m = n - b → b ≤ n → ∃ c, b ≤ c ∧ c ≤ n ∧ (c = n ∨ c ∈ louds) ∧ ∀ i, b ≤ i → i < c → i ∉ louds
  | 0, b, hm, hb => ⟨b, Nat.le_refl _, hb, .inl (by omega), fun i h1 h2 => by omega⟩
  | m + 1, b, hm, hb => by
    by_cases h : b ∈ louds
    · exact ⟨b, Nat.le_refl _, hb, .inr h, fun i h1 h2 => by omega⟩
    · obtain ⟨c, h1, h2, h3, h4⟩ := next_loud louds n m (b + 1) (by omega) (by omega)
      refine ⟨c, by omega, h2, h3, fun i k1 k2 => ?_⟩
      by_cases hi : i = b
      · subst hi; exact h
      · exact h4 i (by omega) k2

section draw
variable {P : Program} {C : Ctx} {X : CallRel} {ops : Array Oper} {louds : List Nat} {th : List Nat} {K : Frm → Heap → Prop} {s : Nat → Frm} {H : Nat → Heap} {v : Nat → AV} {act : Nat → Bool}

abbrev TrD (X : CallRel) (C : Ctx) (ops : Array Oper) (louds : List Nat) (th : List Nat) (K : Frm → Heap → Prop) (s : Nat → Frm) (H : Nat → Heap) (v : Nat → AV) (act : Nat → Bool) : Prop :=
  Tr X C ops (fun i => !louds.contains i) (lateOf ops louds) th K ops.toList 0 s H v act

theorem qgs (t : TrD X C ops louds th K s H v act) : ∀ (m i : Nat), i + m ≤ ops.size → (∀ k, i ≤ k → k < i + m → k ∉ louds) → QG (H i) (H (i + m))
  | 0, i, _, _ => .refl _
  | m + 1, i, hn, hl => by
    have h1 := qgs t m i (by omega) (fun k h1 h2 => hl k h1 (by omega))
    have ho := Array.getElem?_eq_getElem (xs := ops) (show i + m < ops.size by omega)
    obtain ⟨_, _, h3, h4, _⟩ := t.step (i + m) _ (by rw [Array.getElem?_toList]; exact ho)
    refine h1.trans ?_
    cases ha : act (i + m) with
    | true =>
      have := h3 ha
      have hnl : (!louds.contains (0 + (i + m))) = true := by simp only [Nat.zero_add]; simpa using hl (i + m) (by omega) (by omega)
      rw [hnl] at this
      exact wpOp_qg this
    | false => have := (h4 ha).2; rw [show i + (m + 1) = i + m + 1 by omega, this]; exact .refl _

theorem sget (dk : DOK ops louds) (t : TrD X C ops louds th K s H v act) : ∀ (i : Nat), i ≤ ops.size → (s i).length = (s 0).length ∧ ∀ x, x < (s 0).length →
    (∀ k o, k < i → ops[k]? = some o → o.dst = some x → (s i).getD x .undef = v k) ∧ ((∀ k o, k < i → ops[k]? = some o → o.dst ≠ some x) → (s i).getD x .undef = (s 0).getD x .undef)
  | 0, _ => ⟨rfl, fun x hx => ⟨fun k o h => by omega, fun _ => rfl⟩⟩
  | i + 1, hi => by
    obtain ⟨h1, h2⟩ := sget dk t i (by omega)
    have ho := Array.getElem?_eq_getElem (xs := ops) (show i < ops.size by omega)
    obtain ⟨hs, _⟩ := t.step i _ (by rw [Array.getElem?_toList]; exact ho)
    have hlen : (s (i + 1)).length = (s 0).length := by
      rw [hs]
      unfold setA
      split
      · simpa using h1
      · exact h1
    refine ⟨hlen, fun x hx => ⟨fun k o hk hok hd => ?_, fun hno => ?_⟩⟩
    · rw [hs]
      by_cases hki : k = i
      · subst hki
        rw [ho] at hok
        simp only [Option.some.injEq] at hok; subst hok
        rw [hd]
        simp only [setA]
        rw [← h1] at hx
        simp [List.getD, hx]
      · have hne := dk.uniq i k _ o x (fun h => hki h.symm) ho hok hd
        have := (h2 x hx).1 k o (by omega) hok hd
        rw [← this]
        unfold setA
        split
        · rename_i d hd'
          have : d ≠ x := fun h => hne (by rw [hd', h])
          simp [List.getD, List.getElem?_set_ne this]
        · rfl
    · rw [hs]
      have hne := hno i _ (Nat.lt_succ_self _) ho
      rw [← (h2 x hx).2 (fun k o hk hok => hno k o (by omega) hok)]
      unfold setA
      split
      · rename_i d hd'
        have : d ≠ x := fun h => hne (by rw [hd', h])
        simp [List.getD, List.getElem?_set_ne this]
      · rfl

/-- How things stand while a region runs. -/
structure Inv (ops : Array Oper) (louds : List Nat) (s : Nat → Frm) (H : Nat → Heap) (v : Nat → AV) (w0 : World) (φ0 : Phi) (A0 : Avoid) (listed : Array Bool) (a : Act) (w : World) (b c : Nat) (φ : Phi) (A : Avoid) : Prop where
  size : listed.size = ops.size
  shut : Shut ops (fun i => listed.getD i false = true)
  bc : b ≤ c
  cn : c ≤ ops.size
  cl : c = ops.size ∨ c ∈ louds
  nol : ∀ i, b ≤ i → i < c → i ∉ louds
  loud : ∀ i, i ∈ louds → i < ops.size → (listed.getD i false = true ↔ i < b)
  base : b = 0 ∨ (b - 1 ∈ louds ∧ 0 < b)
  out : Out w0 (H 0) φ0 A0 w (H c) φ A
  none : ∀ i, b ≤ i → i < c → listed.getD i false = false → ∀ id, (H i).bs.length ≤ id → id < (H (i + 1)).bs.length → φ id = none
  dfr : a.defers = []
  len : (s 0).length = a.tmps.size
  wr : ∀ (k : Nat) (o : Oper) (d : Tmp) (u : Value), ops[k]? = some o → o.dst = some d → listed.getD k false = true → a.tmps[d]? = some u → R w (H c) φ A (v k) u
  un : ∀ (x : Tmp) (u : Value), (∀ (k : Nat) (o : Oper), ops[k]? = some o → o.dst = some x → listed.getD k false = false) → a.tmps[x]? = some u → R w (H c) φ A ((s 0).getD x .undef) u

theorem getD_set_iff {listed : Array Bool} {i : Nat} (hi : i < listed.size) (k : Nat) : (listed.setIfInBounds i true).getD k false = true ↔ (k = i ∨ listed.getD k false = true) := by
  by_cases hk : k = i
  · subst hk; simp [hi]
  · rw [getD_set_ne false (fun h => hk h.symm)]; simp [hk]

variable {w0 : World} {φ0 : Phi} {A0 : Avoid} {listed : Array Bool} {a : Act} {w : World} {b c : Nat} {φ : Phi} {A : Avoid}

/-- What an operation looks at is what it sees in the text's order. -/
theorem Inv.look (inv : Inv ops louds s H v w0 φ0 A0 listed a w b c φ A) (dk : DOK ops louds) (t : TrD X C ops louds th K s H v act) {i : Nat} {o : Oper} (ho : ops[i]? = some o) (hu : listed.getD i false = false) (ha : ∀ e ∈ o.after, Region.binds .any e = true → listed.getD e.on false = true)
    {m : Nat} (hm : m ≤ ops.size) (him : i ≤ m) (hlate : m = i ∨ ∀ (k : Nat) (r : Oper) (d : Tmp), ops[k]? = some r → r.dst = some d → i ≤ k → d ∉ Oper.looksAt ops o) {x : Tmp} (hx : x ∈ Oper.looksAt ops o) : R w (H c) φ A (ev (s m) (.tmp x)) (a.eval (.tmp x)) := by
  obtain ⟨hl, hg⟩ := sget dk t m hm
  simp only [ev, Act.eval]
  by_cases hlt : x < (s 0).length
  · have hlt' : x < a.tmps.size := by rw [← inv.len]; exact hlt
    have hu' := Array.getElem?_eq_getElem hlt'
    rw [Array.getD_eq_getD_getElem?, hu', Option.getD_some]
    by_cases hw : ∃ (k : Nat) (r : Oper), ops[k]? = some r ∧ r.dst = some x
    · obtain ⟨k, r, hk, hr⟩ := hw
      rcases Nat.lt_trichotomy k i with hki | hki | hki
      · have hb := dk.ord i k o r x (by omega) ho hk hr hx
        rw [show max i k = i by omega, show min i k = k by omega] at hb
        have hLk := bef_listed inv.shut dk.back i o ho ha k hb
        rw [(hg x hlt).1 k r (by omega) hk hr]
        exact inv.wr k r x _ hk hr hLk hu'
      · subst hki
        rw [ho] at hk
        simp only [Option.some.injEq] at hk; subst hk
        rcases hlate with rfl | hlate
        · rw [(hg x hlt).2 (fun k' o' hk' hok' => dk.uniq k' m o' o x (by omega) hok' ho hr)]
          refine inv.un x _ (fun k' o' hok' hd' => ?_) hu'
          by_cases hkm : k' = m
          · subst hkm; exact hu
          · exact absurd hd' (dk.uniq k' m o' o x hkm hok' ho hr)
        · exact absurd hx (hlate k o x ho hr (Nat.le_refl _))
      · rcases hlate with rfl | hlate
        · have hb := dk.ord m k o r x (by omega) ho hk hr hx
          rw [show max m k = k by omega, show min m k = m by omega] at hb
          have hnk : listed.getD k false = false := by
            cases hq : listed.getD k false with
            | false => rfl
            | true =>
              have := bef_listed inv.shut dk.back k r hk (inv.shut k r hk hq) m hb
              rw [hu] at this; simp at this
          rw [(hg x hlt).2 (fun k' o' hk' hok' => dk.uniq k' k o' r x (by omega) hok' hk hr)]
          refine inv.un x _ (fun k' o' hok' hd' => ?_) hu'
          by_cases hkm : k' = k
          · subst hkm; exact hnk
          · exact absurd hd' (dk.uniq k' k o' r x hkm hok' hk hr)
        · exact absurd hx (hlate k r x hk hr (by omega))
    · rw [(hg x hlt).2 (fun k' o' _ hok' hd' => hw ⟨k', o', hok', hd'⟩)]
      exact inv.un x _ (fun k' o' hok' hd' => absurd ⟨k', o', hok', hd'⟩ hw) hu'
  · have : (s m).getD x .undef = .undef := by simp [List.getD, List.getElem?_eq_none (show (s m).length ≤ x by rw [hl]; exact Nat.le_of_not_lt hlt)]
    rw [this]
    exact .fr _ _ (.undef _)

theorem Inv.opnd (inv : Inv ops louds s H v w0 φ0 A0 listed a w b c φ A) (dk : DOK ops louds) (t : TrD X C ops louds th K s H v act) {i : Nat} {o : Oper} (ho : ops[i]? = some o) (hu : listed.getD i false = false) (ha : ∀ e ∈ o.after, Region.binds .any e = true → listed.getD e.on false = true)
    {m : Nat} (hm : m ≤ ops.size) (him : i ≤ m) (hlate : m = i ∨ ∀ (k : Nat) (r : Oper) (d : Tmp), ops[k]? = some r → r.dst = some d → i ≤ k → d ∉ Oper.looksAt ops o) : ∀ y ∈ o.op.operands, R w (H c) φ A (ev (s m) y) (a.eval y) := by
  intro y hy
  cases y with
  | tmp x =>
    refine inv.look dk t ho hu ha hm him hlate ?_
    unfold Oper.looksAt
    refine List.mem_append.2 (.inl (List.mem_filterMap.2 ⟨.tmp x, by simpa using hy, rfl⟩))
  | const v => exact .fr _ _ (FR.ofValue w A v)
  | global g => exact .fr _ _ (.undef _)
  | func f => exact .fr _ _ (.fn f [] #[] rfl (by simp))

/-- A quiet operation has come. -/
theorem Inv.stepQ (inv : Inv ops louds s H v w0 φ0 A0 listed a w b c φ A) (hst0 : St w0 (H 0) φ0 A0) (dk : DOK ops louds) (t : TrD X C ops louds th K s H v act) {i : Nat} {o : Oper} (ho : ops[i]? = some o) (hl : i ∉ louds) (ha : ∀ e ∈ o.after, Region.binds .any e = true → listed.getD e.on false = true)
    {u : Value} {w' : World} {φ1 : Phi} {A1 : Avoid} (hout : Out w (H c) φ A w' (H c) φ1 A1) (hr : ∀ d, o.dst = some d → d < a.tmps.size → R w' (H c) φ1 A1 (v i) u)
    (hnew : ∀ id loc, φ1 id = some loc → φ id = some loc ∨ (b ≤ i ∧ i < c ∧ (H i).bs.length ≤ id ∧ id < (H (i + 1)).bs.length)) : Inv ops louds s H v w0 φ0 A0 (listed.setIfInBounds i true) (a.put o.dst u) w' b c φ1 A1 := by
  have hi : i < ops.size := (Array.getElem?_eq_some_iff.1 ho).1
  have hsz : i < listed.size := by rw [inv.size]; exact hi
  have hiff := getD_set_iff hsz
  have hfalse : ∀ k, (listed.setIfInBounds i true).getD k false = false → k ≠ i ∧ listed.getD k false = false := fun k hk => by
    have := (not_congr (hiff k)).1 (by rw [hk]; simp)
    refine ⟨fun h => this (.inl h), ?_⟩
    cases hq : listed.getD k false with
    | false => rfl
    | true => exact absurd (.inr hq) this
  refine ⟨by simp [inv.size], fun k r hk hLk e he hb => ?_, inv.bc, inv.cn, inv.cl, inv.nol, fun k hk hkn => ?_, inv.base, inv.out.trans hst0 hout, fun k h1 h2 h3 id h4 h5 => ?_, ?_, ?_, fun k r d u' hk hr' hLk hu' => ?_, fun x u' hno hu' => ?_⟩
  · rcases (hiff k).1 hLk with rfl | hLk
    · rw [ho] at hk
      simp only [Option.some.injEq] at hk; subst hk
      exact (hiff _).2 (.inr (ha e he hb))
    · exact (hiff _).2 (.inr (inv.shut k r hk hLk e he hb))
  · rw [hiff, ← inv.loud k hk hkn]
    constructor
    · rintro (rfl | h)
      · exact absurd hk hl
      · exact h
    · exact .inr
  · obtain ⟨hki, hLk⟩ := hfalse k h3
    have hcn := inv.cn
    cases hq : φ1 id with
    | none => rfl
    | some loc =>
      rcases hnew id loc hq with h | ⟨h6, h7, h8, h9⟩
      · rw [inv.none k h1 h2 hLk id h4 h5] at h; simp at h
      · exfalso
        rcases Nat.lt_or_ge k i with hlt | hge
        · have := (qgs t (i - (k + 1)) (k + 1) (by omega) (fun j j1 j2 => inv.nol j (by omega) (by omega))).1.2
          rw [show k + 1 + (i - (k + 1)) = i by omega] at this
          omega
        · have := (qgs t (k - (i + 1)) (i + 1) (by omega) (fun j j1 j2 => inv.nol j (by omega) (by omega))).1.2
          rw [show i + 1 + (k - (i + 1)) = k by omega] at this
          omega
  · cases hd : o.dst <;> simp [Act.put, inv.dfr]
  · cases hd : o.dst <;> simp [Act.put, inv.len]
  · by_cases hki : k = i
    · subst hki
      rw [ho] at hk
      simp only [Option.some.injEq] at hk; subst hk
      rw [hr'] at hu'
      simp only [Act.put, Array.getElem?_setIfInBounds] at hu'
      simp only [if_true] at hu'
      split at hu'
      · rename_i hlt
        simp only [Option.some.injEq] at hu'; subst hu'
        exact hr d hr' hlt
      · simp at hu'
    · have hLk := ((hiff k).1 hLk).resolve_left hki
      have hne : o.dst ≠ some d := dk.uniq i k o r d (fun h => hki h.symm) ho hk hr'
      have : a.tmps[d]? = some u' := by
        cases hd : o.dst with
        | none => rw [hd] at hu'; exact hu'
        | some d' =>
          rw [hd] at hu'
          simp only [Act.put, Array.getElem?_setIfInBounds] at hu'
          rw [if_neg (by rintro rfl; exact hne hd)] at hu'
          exact hu'
      exact (inv.wr k r d u' hk hr' hLk this).mono hout.evo
  · have hne : o.dst ≠ some x := fun hd => by have := hno i o ho hd; have h2 := (hiff i).2 (.inl rfl); rw [this] at h2; simp at h2
    have : a.tmps[x]? = some u' := by
      cases hd : o.dst with
      | none => rw [hd] at hu'; exact hu'
      | some d' =>
        rw [hd] at hu'
        simp only [Act.put, Array.getElem?_setIfInBounds] at hu'
        rw [if_neg (by rintro rfl; exact hne hd)] at hu'
        exact hu'
    exact (inv.un x u' (fun k r hk hr' => (hfalse k (hno k r hk hr')).2) this).mono hout.evo
end draw
end Go.VS
