/-
  The plain law and all that it needs.
-/
import Derived.Test.YtcgnkhdeckgaaaaVqF
import Derived.Test.YtcgnkhdeckgaaaaVaF


open Go Go.VS
namespace Go.VxW
def inB (n a b : Int) : Bool := decide (a ≤ n) && decide (n ≤ b)
theorem sIn (n a b : Int) : spec_l1In n a b = some (inB n a b) := by
  unfold spec_l1In inB; cases decide (a ≤ n) <;> rfl
theorem iIn (n a b : Int) : impl_in n a b = some (inB n a b) := by
  unfold impl_in inB; cases decide (a ≤ n) <;> rfl
theorem inB_iff {n a b : Int} : inB n a b = true ↔ a ≤ n ∧ n ≤ b := by simp [inB]
theorem szCourt {c : Court} (h1 : c.Cases.length ≤ maxLen) (h2 : c.Line.length ≤ maxLen) : ∃ k, laws_szCourt c 1048576 = some k ∧ (0 ≤ k → c.Cases.length ≤ 1048576 ∧ c.Line.length ≤ 1048576) := by
  unfold maxLen at h1 h2
  unfold laws_szCourt laws_szCaseS laws_szSlipS
  rw [w64 (x := 1048576 - (c.Cases.length : Int)) (by omega)]
  by_cases h : 1048576 - (c.Cases.length : Int) < 0
  · rw [dec_t h]; exact ⟨-1, rfl, by omega⟩
  · rw [dec_f h]
    simp only [cond_false, Option.bind_some]
    rw [dec_f h, w64 (x := 1048576 - (c.Cases.length : Int) - c.Line.length) (by omega)]
    simp only [cond_false]
    by_cases h' : 1048576 - (c.Cases.length : Int) - c.Line.length < 0
    · rw [dec_t h']; exact ⟨-1, rfl, by omega⟩
    · rw [dec_f h']
      simp only [cond_false, Option.bind_some]
      rw [dec_f h']
      exact ⟨_, rfl, by omega⟩
theorem toCaseS {l : List Case} (hl : l.length ≤ 1048576) : laws_toCaseS l = some l := by
  unfold laws_toCaseS
  rw [mkL_of (by omega) (by omega), Option.bind_some, toS_go (l := l) (h := id) (fun k hk x hx => by
    simp only [laws_toCaseS_l0, laws_toCase]
    rw [dec_t (by omega), idx_lt hk, idx_lt (by omega)]
    simp only [cond_true, Option.bind_some, Int.toNat_natCast, id]
    rw [w64 (by omega)]) (fun x => by simp [laws_toCaseS_l0]) (by simp)]
  simp
theorem toSlipS {l : List Slip} (hl : l.length ≤ 1048576) : laws_toSlipS l = some l := by
  unfold laws_toSlipS
  rw [mkL_of (by omega) (by omega), Option.bind_some, toS_go (l := l) (h := id) (fun k hk x hx => by
    simp only [laws_toSlipS_l0, laws_toSlip]
    rw [dec_t (by omega), idx_lt hk, idx_lt (by omega)]
    simp only [cond_true, Option.bind_some, Int.toNat_natCast, id]
    rw [w64 (by omega)]) (fun x => by simp [laws_toSlipS_l0]) (by simp)]
  simp
theorem toCourt {c : Court} (h1 : c.Cases.length ≤ 1048576) (h2 : c.Line.length ≤ 1048576) : laws_toCourt c = some c := by
  unfold laws_toCourt
  rw [toCaseS h1, toSlipS h2]
  rfl
theorem eqCaseS {l : List Case} (hl : l.length ≤ 1048576) : laws_eqCaseS l l = some true := by
  unfold laws_eqCaseS
  rw [eqS_go (l := l) (fun k hk => by
    simp only [laws_eqCaseS_l0, laws_eqCase]
    rw [dec_t (by omega), idx_lt hk, w64 (by omega)]
    simp) (by simp [laws_eqCaseS_l0])]
  simp
theorem eqSlipS {l : List Slip} (hl : l.length ≤ 1048576) : laws_eqSlipS l l = some true := by
  unfold laws_eqSlipS
  rw [eqS_go (l := l) (fun k hk => by
    simp only [laws_eqSlipS_l0, laws_eqSlip]
    rw [dec_t (by omega), idx_lt hk, w64 (by omega)]
    simp) (by simp [laws_eqSlipS_l0])]
  simp
theorem eqCourt {c : Court} (h1 : c.Cases.length ≤ 1048576) (h2 : c.Line.length ≤ 1048576) : laws_eqCourt c c = some true := by
  unfold laws_eqCourt
  rw [eqCaseS h1, eqSlipS h2]
  simp
def caseB (now : Int) (x : Case) : Bool := inB x.End 0 100 && (inB x.Said 0 2 && (decide (x.Final = 0 ∨ x.Final = x.Said) && !(decide (x.Said = 0) && decide (x.End < now))))
def slipB (cs : List Case) (s : Slip) : Bool :=
  inB s.Case 0 ((cs.length : Int) - 1) && (if s.Kind = 3 then inB s.What 1 2 && decide ((cs[s.Case.toNat]?).map (·.Said) = some s.What) else (decide (s.Kind = 1) || decide (s.Kind = 2)) && decide (s.What = 0))
def courtB (c : Court) : Bool := inB c.Now 0 200 && (decide (c.Cases.length ≤ 6) && (decide (c.Line.length ≤ 30) && (c.Cases.all (caseB c.Now) && c.Line.all (slipB c.Cases))))
theorem iVerdict (n : Int) : impl_isVerdict n = some (inB n 1 2) := by
  unfold impl_isVerdict inB
  simp only [cnd_if]
  repeat' split
  all_goals first | rfl | (refine congrArg some ?_; rw [Bool.eq_iff_iff]; simp_all; done) | (refine congrArg some ?_; rw [Bool.eq_iff_iff]; simp_all; omega) | (refine congrArg some ?_; rw [Bool.eq_iff_iff]; grind) | grind
theorem iSlip {c : Court} (h : c.Cases.length ≤ 1048576) (s : Slip) : impl_Court_isSlip c s = some (slipB c.Cases s) := by
  unfold impl_Court_isSlip slipB
  rw [w64 (by omega), iIn, Option.bind_some]
  cases hi : inB s.Case 0 ((c.Cases.length : Int) - 1)
  · rfl
  · obtain ⟨h0, h1⟩ := inB_iff.1 hi
    obtain ⟨n, hn⟩ := Int.eq_ofNat_of_zero_le h0
    have hlt : n < c.Cases.length := by omega
    rw [iVerdict, hn, idx_lt hlt, Int.toNat_natCast, List.getElem?_eq_getElem hlt]
    simp only [Bool.not_true, cond_false, Bool.true_and, Option.bind_some, Option.map_some]
    simp only [cnd_if]
    repeat' split
    all_goals first | rfl | (refine congrArg some ?_; rw [Bool.eq_iff_iff]; simp_all; done) | (refine congrArg some ?_; rw [Bool.eq_iff_iff]; simp_all; omega) | (refine congrArg some ?_; rw [Bool.eq_iff_iff]; grind) | grind
theorem ixf_impl_Slip {l : List Slip} (hl : l.length < 2 ^ 60) {g : Slip → Option Bool} (p : Slip → Bool) (hg : ∀ x ∈ l, g x = some (p x)) : slices_IndexFunc_impl_Slip l g = some (ixF p l) := by
  unfold slices_IndexFunc_impl_Slip
  rw [ixf_go p (f := slices_IndexFunc_impl_Slip_l0 l g) (fun _ => rfl) hl hg]
  have := ixF_ge p l
  by_cases h : ixF p l < 0
  · rw [if_pos h]; simp; omega
  · rw [if_neg h]; rfl
theorem cf_impl_Slip {l : List Slip} (hl : l.length < 2 ^ 60) {g : Slip → Option Bool} (p : Slip → Bool) (hg : ∀ x ∈ l, g x = some (p x)) : slices_ContainsFunc_impl_Slip l g = some (l.any p) := by
  unfold slices_ContainsFunc_impl_Slip
  rw [ixf_impl_Slip hl p hg, Option.bind_some, ixF_any]
theorem ixf_impl_Case {l : List Case} (hl : l.length < 2 ^ 60) {g : Case → Option Bool} (p : Case → Bool) (hg : ∀ x ∈ l, g x = some (p x)) : slices_IndexFunc_impl_Case l g = some (ixF p l) := by
  unfold slices_IndexFunc_impl_Case
  rw [ixf_go p (f := slices_IndexFunc_impl_Case_l0 l g) (fun _ => rfl) hl hg]
  have := ixF_ge p l
  by_cases h : ixF p l < 0
  · rw [if_pos h]; simp; omega
  · rw [if_neg h]; rfl
theorem iGoodCourt {c : Court} (h1 : c.Cases.length ≤ 1048576) (h2 : c.Line.length ≤ 1048576) : impl_GoodCourt c = some (courtB c) := by
  unfold impl_GoodCourt courtB
  rw [iIn, Option.bind_some]
  have key := whl_lg c.Cases (impl_GoodCourt_l0 c) (fun k (_ : Unit) => k) (fun _ x s => if caseB c.Now x then .next s else .done (.done false)) (fun _ => .next ()) (fun k hk s => by
    simp only [impl_GoodCourt_l0]
    rw [dec_t (by omega), idx_lt hk, w64 (by omega)]
    simp only [Option.bind_some, iIn, cnd_if]
    unfold caseB
    grind [LR.mapN]) (fun s => by simp [impl_GoodCourt_l0]) ()
  rw [key, lgo_all _ _ (fun _ _ _ => rfl), cf_impl_Slip (by omega) (fun s => !slipB c.Cases s) (fun x _ => by simp only [impl_GoodCourt_1, iSlip h1, Option.bind_some])]
  simp only [Option.bind_some, List.any_eq_not_all_not, Bool.not_not]
  have e3 : decide (6 < (c.Cases.length : Int)) = !decide (c.Cases.length ≤ 6) := by
    by_cases h : c.Cases.length ≤ 6
    · rw [dec_t h, dec_f (by omega)]; rfl
    · rw [dec_f h, dec_t (by omega)]; rfl
  have e4 : decide (30 < (c.Line.length : Int)) = !decide (c.Line.length ≤ 30) := by
    by_cases h : c.Line.length ≤ 30
    · rw [dec_t h, dec_f (by omega)]; rfl
    · rw [dec_f h, dec_t (by omega)]; rfl
  rw [e3, e4]
  cases inB c.Now 0 200 <;> cases decide (c.Cases.length ≤ 6) <;> cases decide (c.Line.length ≤ 30) <;> cases c.Cases.all (caseB c.Now) <;> cases c.Line.all (slipB c.Cases) <;> rfl
def slipS (cs : List Case) (s : Slip) : Bool :=
  inB s.Case 0 ((cs.length : Int) - 1) && (if s.Kind = 3 then decide (s.What ≠ 0) && decide ((cs[s.Case.toNat]?).map (·.Said) = some s.What) else (decide (s.Kind = 1) || decide (s.Kind = 2)) && decide (s.What = 0))
theorem slipS_eq {now : Int} {cs : List Case} (h : cs.all (caseB now) = true) (s : Slip) : slipS cs s = slipB cs s := by
  unfold slipS slipB
  cases hi : inB s.Case 0 ((cs.length : Int) - 1)
  · rfl
  · obtain ⟨h0, h1⟩ := inB_iff.1 hi
    have hlt : s.Case.toNat < cs.length := by omega
    rw [List.getElem?_eq_getElem hlt]
    have := List.all_eq_true.1 h _ (List.getElem_mem hlt)
    unfold caseB at this
    simp only [Bool.and_eq_true] at this
    have hs := inB_iff.1 this.2.1
    generalize cs[s.Case.toNat] = x at hs
    by_cases h3 : s.Kind = 3
    · simp only [h3, if_true, Option.map_some, Option.some.injEq, Bool.true_and]
      by_cases he : x.Said = s.What
      · rw [he] at hs
        rw [Bool.eq_iff_iff]
        simp only [Bool.and_eq_true, decide_eq_true_eq, inB_iff]
        omega
      · simp [he]
    · simp [h3]
theorem sGoodCourt {c : Court} (h1 : c.Cases.length ≤ 1048576) (h2 : c.Line.length ≤ 1048576) : spec_GoodCourt c = some (courtB c) := by
  unfold spec_GoodCourt courtB
  have key := whl_lg c.Cases (spec_GoodCourt_l0 c) (fun k (_ : Unit) => k) (fun _ x s => if caseB c.Now x then .next s else .done (.done false)) (fun _ => .next ()) (fun k hk s => by
    simp only [spec_GoodCourt_l0]
    rw [dec_t (by omega), idx_lt hk, w64 (by omega)]
    simp only [Option.bind_some, sIn, spec_l16Verdict, cnd_if]
    unfold caseB
    grind [LR.mapN, inB]) (fun s => by simp [spec_GoodCourt_l0]) ()
  have key2 := whl_lg c.Line (spec_GoodCourt_l1 c) (fun k (_ : Unit) => k) (fun _ x s => if slipS c.Cases x then .next s else .done (.done false)) (fun _ => .next ()) (fun k hk s => by
    simp only [spec_GoodCourt_l1]
    rw [dec_t (by omega), idx_lt hk, w64 (by omega)]
    simp only [cond_true, Option.bind_some, sIn]
    unfold slipS
    generalize c.Line[k] = x
    by_cases hi : 0 ≤ x.Case ∧ x.Case < c.Cases.length
    · have e1 : inB x.Case 0 ((c.Cases.length : Int) - 1) = true := inB_iff.2 ⟨by omega, by omega⟩
      rw [idx_in hi.1 hi.2, List.getElem?_eq_getElem (by omega), dec_f (by omega), dec_f (by omega), e1]
      simp only [cond_false, Option.bind_some, Bool.true_and, Option.map_some, Option.some.injEq]
      generalize c.Cases[x.Case.toNat] = y
      by_cases k3 : x.Kind = 3
      · have e2 : inB 3 1 3 = true := by decide
        simp only [k3, e2, beq_self_eq_true, bne_self_eq_false, Bool.not_true, cond_false, cond_true, if_true]
        by_cases w0 : x.What = 0
        · simp [w0, LR.mapN]
        · by_cases ws : x.What = y.Said
          · have : (x.What == 0) = false := by simpa using w0
            have e6 : (x.What != y.Said) = false := by simpa using ws
            simp [this, LR.mapN, w0, ws.symm]
          · have e4 : ¬ y.Said = x.What := fun e => ws e.symm
            have : (x.What == 0) = false := by simpa using w0
            have e5 : (x.What != y.Said) = true := by simpa using ws
            simp [this, e5, e4, LR.mapN]
      · have e3 : (x.Kind == 3) = false := by simpa using k3
        have e4 : (x.Kind != 3) = true := by simpa using k3
        simp only [k3, e3, e4, cond_false, cond_true, if_false]
        by_cases k1 : x.Kind = 1
        · have e2 : inB 1 1 3 = true := by decide
          by_cases w0 : x.What = 0
          · simp [k1, e2, w0, LR.mapN]
          · have : (x.What != 0) = true := by simpa using w0
            simp [k1, e2, w0, this, LR.mapN]
        · by_cases k2 : x.Kind = 2
          · have e2 : inB 2 1 3 = true := by decide
            by_cases w0 : x.What = 0
            · simp [k2, e2, w0, LR.mapN]
            · have : (x.What != 0) = true := by simpa using w0
              simp [k2, e2, w0, this, LR.mapN]
          · have e2 : inB x.Kind 1 3 = false := by rw [← Bool.not_eq_true, inB_iff]; omega
            simp [k1, k2, e2, LR.mapN]
    · have e1 : inB x.Case 0 ((c.Cases.length : Int) - 1) = false := by rw [← Bool.not_eq_true, inB_iff]; omega
      rw [e1]
      by_cases h0 : x.Case < 0
      · rw [dec_t h0]; simp [LR.mapN]
      · rw [dec_f h0, dec_t (by omega)]; simp [LR.mapN]) (fun s => by simp [spec_GoodCourt_l1]) ()
  rw [key, key2, lgo_all _ _ (fun _ _ _ => rfl), lgo_all _ _ (fun _ _ _ => rfl)]
  cases hc : c.Cases.all (caseB c.Now)
  · simp
  · have he : c.Line.all (slipS c.Cases) = c.Line.all (slipB c.Cases) := by
      congr 1; funext s; exact slipS_eq hc s
    rw [he, sIn]
    have e3 : decide ((c.Cases.length : Int) ≤ 6) = decide (c.Cases.length ≤ 6) := by
      by_cases h : c.Cases.length ≤ 6
      · rw [dec_t h, dec_t (by omega)]
      · rw [dec_f h, dec_f (by omega)]
    have e4 : decide ((c.Line.length : Int) ≤ 30) = decide (c.Line.length ≤ 30) := by
      by_cases h : c.Line.length ≤ 30
      · rw [dec_t h, dec_t (by omega)]
      · rw [dec_f h, dec_f (by omega)]
    simp only [if_true, Option.bind_some, e3, e4]
    cases inB c.Now 0 200 <;> cases decide (c.Cases.length ≤ 6) <;> cases decide (c.Line.length ≤ 30) <;> cases c.Line.all (slipB c.Cases) <;> rfl
theorem sOpen {c : Court} (h1 : c.Cases.length ≤ 1048576) : spec_l16Open c = some (ixF (fun x => x.Final == 0) c.Cases) := by
  unfold spec_l16Open
  rw [ixf_go (fun x => x.Final == 0) (f := spec_l16Open_l0 c) (g := fun x => some (x.Final == 0)) (l := c.Cases) (fun i => by simp only [spec_l16Open_l0, Option.bind_some]) (by omega) (fun _ _ => rfl)]
  have := ixF_ge (fun x : Case => x.Final == 0) c.Cases
  by_cases h : ixF (fun x : Case => x.Final == 0) c.Cases < 0
  · rw [if_pos h]; simp; omega
  · rw [if_neg h]; rfl
theorem iUnsettled {c : Court} (h1 : c.Cases.length ≤ 1048576) : impl_Court_unsettled c = some (ixF (fun x => x.Final == 0) c.Cases) := by
  unfold impl_Court_unsettled
  rw [ixf_impl_Case (g := impl_Court_unsettled_1) (by omega) (fun x => x.Final == 0) (fun _ _ => rfl)]
  rfl
def mkCase (n : Int) (_ : Case) : Case := ⟨n, (Int.tmod (n + 1) 3) == 0, n + 2, n + 3⟩
def mkSlip (n : Int) (_ : Slip) : Slip := ⟨n, n + 1, n + 2⟩
theorem markCaseS {l : List Case} (hl : l.length ≤ 1048576) {n : Int} (h0 : 0 ≤ n) (h1 : n ≤ 1000000000) : laws_markCaseS l n = some (n + 4 * l.length, markL mkCase 4 n l) := by
  unfold laws_markCaseS
  rw [mark_go (l := l) (mk := mkCase) (c := 4) (fun k x hk hx => by
    simp only [laws_markCaseS_l0]
    rw [dec_t (by omega), idx_lt hk]
    simp only [cond_true, Option.bind_some, Int.toNat_natCast, List.set_set]
    rw [idx_set hk]
    simp only [Option.bind_some]
    rw [idx_set hk]
    simp only [Option.bind_some]
    rw [idx_set hk]
    simp only [Option.bind_some]
    rw [w64 (x := n + 4 * (k : Int) + 1) (by omega), w64 (x := n + 4 * (k : Int) + 1 + 1) (by omega), w64 (x := n + 4 * (k : Int) + 1 + 1 + 1) (by omega), w64 (x := n + 4 * (k : Int) + 1 + 1 + 1 + 1) (by omega), w64 (x := (k : Int) + 1) (by omega)]
    simp only [mkCase, Int.add_assoc, Int.reduceAdd]) (fun x hx => by simp only [laws_markCaseS_l0]; rw [dec_f (by omega)]; rfl)]
  rfl
theorem markSlipS {l : List Slip} (hl : l.length ≤ 1048576) {n : Int} (h0 : 0 ≤ n) (h1 : n ≤ 1000000000) : laws_markSlipS l n = some (n + 3 * l.length, markL mkSlip 3 n l) := by
  unfold laws_markSlipS
  rw [mark_go (l := l) (mk := mkSlip) (c := 3) (fun k x hk hx => by
    simp only [laws_markSlipS_l0]
    rw [dec_t (by omega), idx_lt hk]
    simp only [cond_true, Option.bind_some, Int.toNat_natCast, List.set_set]
    rw [idx_set hk]
    simp only [Option.bind_some]
    rw [idx_set hk]
    simp only [Option.bind_some]
    rw [w64 (x := n + 3 * (k : Int) + 1) (by omega), w64 (x := n + 3 * (k : Int) + 1 + 1) (by omega), w64 (x := n + 3 * (k : Int) + 1 + 1 + 1) (by omega), w64 (x := (k : Int) + 1) (by omega)]
    simp only [mkSlip, Int.add_assoc, Int.reduceAdd]) (fun x hx => by simp only [laws_markSlipS_l0]; rw [dec_f (by omega)]; rfl)]
  rfl
theorem heldCaseS {l : List Case} (hl : l.length ≤ 1048576) {n : Int} (h0 : 0 ≤ n) (h1 : n ≤ 1000000000) : laws_heldCaseS (markL mkCase 4 n l) n = some (n + 4 * l.length) := by
  unfold laws_heldCaseS
  rw [held_go (n0 := n) (c := 4) (len := l.length) (fun k hk => by
    have hg : idx (markL mkCase 4 n l) (k : Int) = some (mkCase (n + 4 * k) l[k]) := by
      rw [idx_nat, markL_get, List.getElem?_eq_getElem hk]; rfl
    simp only [laws_heldCaseS_l0, hg, markL_len]
    rw [dec_t (by omega)]
    simp only [cond_true, Option.bind_some, mkCase]
    rw [w64 (x := n + 4 * (k : Int) + 1) (by omega), w64 (x := n + 4 * (k : Int) + 1 + 1) (by omega), w64 (x := n + 4 * (k : Int) + 1 + 1 + 1) (by omega), w64 (x := n + 4 * (k : Int) + 1 + 1 + 1 + 1) (by omega), w64 (x := (k : Int) + 1) (by omega)]
    simp [Int.add_assoc]) (by simp only [laws_heldCaseS_l0, markL_len]; rw [dec_f (by omega)]; rfl)]
  rfl
theorem heldSlipS {l : List Slip} (hl : l.length ≤ 1048576) {n : Int} (h0 : 0 ≤ n) (h1 : n ≤ 1000000000) : laws_heldSlipS (markL mkSlip 3 n l) n = some (n + 3 * l.length) := by
  unfold laws_heldSlipS
  rw [held_go (n0 := n) (c := 3) (len := l.length) (fun k hk => by
    have hg : idx (markL mkSlip 3 n l) (k : Int) = some (mkSlip (n + 3 * k) l[k]) := by
      rw [idx_nat, markL_get, List.getElem?_eq_getElem hk]; rfl
    simp only [laws_heldSlipS_l0, hg, markL_len]
    rw [dec_t (by omega)]
    simp only [cond_true, Option.bind_some, mkSlip]
    rw [w64 (x := n + 3 * (k : Int) + 1) (by omega), w64 (x := n + 3 * (k : Int) + 1 + 1) (by omega), w64 (x := n + 3 * (k : Int) + 1 + 1 + 1) (by omega), w64 (x := (k : Int) + 1) (by omega)]
    simp [Int.add_assoc]) (by simp only [laws_heldSlipS_l0, markL_len]; rw [dec_f (by omega)]; rfl)]
  rfl
/-- A court's marks are held. -/
theorem markHeld {c : Court} (h1 : c.Cases.length ≤ 1048576) (h2 : c.Line.length ≤ 1048576) : ∃ m a b, laws_markCourt c 1 = some (m, a, b) ∧ 0 ≤ m ∧ ∀ now, laws_heldCourt ⟨now, a, b⟩ 1 = some m := by
  refine ⟨_, _, _, by unfold laws_markCourt; rw [markCaseS h1 (by omega) (by omega), Option.bind_some]; simp only; rw [markSlipS h2 (by omega) (by omega)]; rfl, by omega, fun now => ?_⟩
  unfold laws_heldCourt
  simp only [heldCaseS h1 (show (0 : Int) ≤ 1 by omega) (by omega), Option.bind_some]
  rw [dec_f (by omega)]
  simp only [cond_false]
  rw [heldSlipS h2 (by omega) (by omega), Option.bind_some, dec_f (by omega)]
  rfl
def saidOf (x : Case) : Int := if x.Said = 0 then (if x.Asks then 2 else 1) else x.Said
def endOf (x : Case) : Case := ⟨x.End, x.Asks, saidOf x, saidOf x⟩
theorem saidOf_ne (x : Case) : saidOf x ≠ 0 := by
  unfold saidOf
  split
  · split <;> omega
  · assumption
theorem idx_set_nat {α : Type} {l : List α} {k : Nat} (h : k < l.length) (x : α) : idx (l.set k x) (k : Int) = some x := by
  rw [idx_nat, List.getElem?_set_self h]
theorem app1 {α : Type} {b : Nat} {x : α} (hb : b ≤ 4096) : app b ([] : List α) [x] = some [x] := by
  rw [app_of (by simp) hb]; rfl
theorem iSend {now : Int} {cs : List Case} {k : Nat} (hk : k < cs.length) (hl : cs.length ≤ 6) (hf : cs[k].Final = 0) :
    impl_Court_step ⟨now, cs, []⟩ ⟨1, k⟩ = some (true, ⟨now, cs, [⟨if cs[k].Asks then 2 else 1, k, 0⟩]⟩) := by
  have hin : inB (k : Int) 0 ((cs.length : Int) - 1) = true := by rw [inB_iff]; omega
  unfold impl_Court_step
  simp only [beq_self_eq_true, cond_true, Option.bind_some, iIn]
  rw [w64 (by omega), hin, idx_lt hk]
  simp only [Bool.not_true, cond_false, Option.bind_some, hf, bne_self_eq_false, impl_Court_goes, List.length_nil]
  cases cs[k].Asks <;> (simp only [cond_true, cond_false, Option.bind_some]; rw [dec_t (by omega), cond_true, app1 (by omega)]; rfl)
theorem iTake1 {now : Int} {cs : List Case} {k : Nat} (hk : k < cs.length) (kd : Int) (hkd : kd = if cs[k].Asks then 2 else 1) :
    impl_Court_step ⟨now, cs, [⟨kd, k, 0⟩]⟩ ⟨3, 0⟩ = some (true, ⟨now, cs.set k ⟨cs[k].End, cs[k].Asks, cs[k].Final, saidOf cs[k]⟩, [⟨3, k, saidOf cs[k]⟩]⟩) := by
  have hd : slices_Delete_impl_Slip [(⟨kd, k, 0⟩ : Slip)] 0 1 = some [] := by
    unfold slices_Delete_impl_Slip
    simp [slc, app, roomy]
  have h3 : (kd == 3) = false := by rw [hkd]; split <;> rfl
  unfold impl_Court_step
  simp only [iIn, show ((3 : Int) == 1) = false from rfl, show ((3 : Int) == 2) = false from rfl, show ((3 : Int) == 4) = false from rfl, beq_self_eq_true, cond_true, cond_false, Option.bind_some, List.length_cons, List.length_nil]
  rw [w64 (x := ((0 + 1 : Nat) : Int) - 1) (by omega), show inB 0 0 (((0 + 1 : Nat) : Int) - 1) = true from by decide, w64 (x := 0 + 1) (by omega), show (0 : Int) + 1 = 1 from rfl, hd]
  simp only [Bool.not_true, cond_false, Option.bind_some, show idx [(⟨kd, k, 0⟩ : Slip)] 0 = some ⟨kd, k, 0⟩ from by simp [idx], impl_Court_take, idx_lt hk, h3, impl_Court_goes, List.length_nil]
  have hs : (bif (cs[k].Said == 0) then ((bif (kd == 2) then (idx (cs.set k (⟨cs[k].End, cs[k].Asks, cs[k].Final, 1⟩ : Case)) k).bind fun b25 => some (((cs.set k (⟨cs[k].End, cs[k].Asks, cs[k].Final, 1⟩ : Case)).set k (⟨b25.End, b25.Asks, b25.Final, 2⟩ : Case))) else some ((cs.set k (⟨cs[k].End, cs[k].Asks, cs[k].Final, 1⟩ : Case))))).bind fun x19 => some (x19) else some cs) = some (cs.set k ⟨cs[k].End, cs[k].Asks, cs[k].Final, saidOf cs[k]⟩) := by
    unfold saidOf
    by_cases h0 : cs[k].Said = 0
    · rw [show (cs[k].Said == 0) = true from by simp [h0], if_pos h0]
      cases ha : cs[k].Asks
      · rw [ha] at hkd
        rw [show (kd == 2) = false from by rw [hkd]; rfl]
        simp
      · rw [ha] at hkd
        rw [show (kd == 2) = true from by rw [hkd]; rfl, idx_set_nat hk]
        simp only [cond_true, Option.bind_some, List.set_set, if_true]
    · rw [show (cs[k].Said == 0) = false from by simpa using h0, if_neg h0, cond_false]
      have : (⟨cs[k].End, cs[k].Asks, cs[k].Final, cs[k].Said⟩ : Case) = cs[k] := rfl
      rw [this, List.set_getElem_self]
  simp only [Int.toNat_natCast]
  rw [hs]
  simp only [Option.bind_some, idx_set_nat hk]
  rw [dec_t (by omega), cond_true, app1 (by omega)]
  rfl
theorem iTake2 {now : Int} {cs : List Case} {k : Nat} (hk : k < cs.length) (w : Int) :
    impl_Court_step ⟨now, cs, [⟨3, k, w⟩]⟩ ⟨3, 0⟩ = some (true, ⟨now, cs.set k ⟨cs[k].End, cs[k].Asks, w, cs[k].Said⟩, []⟩) := by
  have hd : slices_Delete_impl_Slip [(⟨3, k, w⟩ : Slip)] 0 1 = some [] := by
    unfold slices_Delete_impl_Slip
    simp [slc, app, roomy]
  unfold impl_Court_step
  simp only [iIn, show ((3 : Int) == 1) = false from rfl, show ((3 : Int) == 2) = false from rfl, show ((3 : Int) == 4) = false from rfl, beq_self_eq_true, cond_true, cond_false, Option.bind_some, List.length_cons, List.length_nil]
  rw [w64 (x := ((0 + 1 : Nat) : Int) - 1) (by omega), show inB 0 0 (((0 + 1 : Nat) : Int) - 1) = true from by decide, w64 (x := 0 + 1) (by omega), show (0 : Int) + 1 = 1 from rfl, hd]
  simp only [Bool.not_true, cond_false, cond_true, Option.bind_some, show idx [(⟨3, k, w⟩ : Slip)] 0 = some ⟨3, k, w⟩ from by simp [idx], impl_Court_take, idx_lt hk, beq_self_eq_true, Int.toNat_natCast]
theorem sSend {now : Int} {cs : List Case} {k : Nat} (hk : k < cs.length) (hf : cs[k].Final = 0) :
    spec_l16Step ⟨now, cs, []⟩ ⟨1, k⟩ = some (⟨now, cs, [⟨if cs[k].Asks then 2 else 1, k, 0⟩]⟩, true) := by
  unfold spec_l16Step
  simp only [show ((1 : Int) == 6) = false from rfl, show ((1 : Int) == 2) = false from rfl, beq_self_eq_true, cond_true, cond_false, Option.bind_some]
  rw [dec_f (by omega), dec_f (by omega), idx_lt hk]
  simp only [cond_false, Option.bind_some, hf, bne_self_eq_false, spec_l16Write, List.length_nil]
  cases cs[k].Asks <;> (simp only [cond_true, cond_false, Option.bind_some]; rw [dec_t (by omega), cond_true, app1 (by omega)]; rfl)
theorem sTake1 {now : Int} {cs : List Case} {k : Nat} (hk : k < cs.length) (kd : Int) (hkd : kd = if cs[k].Asks then 2 else 1) :
    spec_l16Step ⟨now, cs, [⟨kd, k, 0⟩]⟩ ⟨3, 0⟩ = some (⟨now, cs.set k ⟨cs[k].End, cs[k].Asks, cs[k].Final, saidOf cs[k]⟩, [⟨3, k, saidOf cs[k]⟩]⟩, true) := by
  have h3 : (kd == 3) = false := by rw [hkd]; split <;> rfl
  unfold spec_l16Step
  simp only [sIn, show ((3 : Int) == 6) = false from rfl, show ((3 : Int) == 1) = false from rfl, show ((3 : Int) == 2) = false from rfl, show ((3 : Int) == 5) = false from rfl, beq_self_eq_true, cond_true, cond_false, Option.bind_some, List.length_cons, List.length_nil]
  rw [dec_f (show ¬ (0 : Int) < 0 by omega), dec_f (show ¬ ((0 + 1 : Nat) : Int) ≤ 0 by omega), show inB 3 3 5 = true from by decide, w64 (x := 0 + 1) (by omega)]
  have e1 : slc [(⟨kd, k, 0⟩ : Slip)] 0 0 = some [] := by simp [slc]
  have e2 : slc [(⟨kd, k, 0⟩ : Slip)] (0 + 1) ((0 + 1 : Nat) : Int) = some [] := by simp [slc]
  have e3 : app 24 ([] : List Slip) [] = some [] := by rw [app_of (by simp) (by omega)]; rfl
  simp only [Bool.not_true, cond_false, Option.bind_some, show idx [(⟨kd, k, 0⟩ : Slip)] 0 = some ⟨kd, k, 0⟩ from by simp [idx], e1, e2, e3, spec_l16Take, idx_lt hk, h3, spec_l16Write, List.length_nil]
  have hs : (bif (cs[k].Said == 0) then ((bif (kd == 2) then some (2 : Int) else some (1))).bind fun x26 => some ((cs.set k (⟨cs[k].End, cs[k].Asks, cs[k].Final, x26⟩ : Case))) else some cs) = some (cs.set k ⟨cs[k].End, cs[k].Asks, cs[k].Final, saidOf cs[k]⟩) := by
    unfold saidOf
    by_cases h0 : cs[k].Said = 0
    · rw [show (cs[k].Said == 0) = true from by simp [h0], if_pos h0]
      cases ha : cs[k].Asks
      · rw [ha] at hkd
        rw [show (kd == 2) = false from by rw [hkd]; rfl]
        simp
      · rw [ha] at hkd
        rw [show (kd == 2) = true from by rw [hkd]; rfl]
        simp
    · rw [show (cs[k].Said == 0) = false from by simpa using h0, if_neg h0, cond_false]
      have : (⟨cs[k].End, cs[k].Asks, cs[k].Final, cs[k].Said⟩ : Case) = cs[k] := rfl
      rw [this, List.set_getElem_self]
  simp only [Int.toNat_natCast]
  rw [hs]
  simp only [Option.bind_some, idx_set_nat hk]
  rw [dec_t (by omega), cond_true, app1 (by omega)]
  rfl
theorem sTake2 {now : Int} {cs : List Case} {k : Nat} (hk : k < cs.length) (w : Int) :
    spec_l16Step ⟨now, cs, [⟨3, k, w⟩]⟩ ⟨3, 0⟩ = some (⟨now, cs.set k ⟨cs[k].End, cs[k].Asks, w, cs[k].Said⟩, []⟩, true) := by
  unfold spec_l16Step
  simp only [sIn, show ((3 : Int) == 6) = false from rfl, show ((3 : Int) == 1) = false from rfl, show ((3 : Int) == 2) = false from rfl, show ((3 : Int) == 5) = false from rfl, beq_self_eq_true, cond_true, cond_false, Option.bind_some, List.length_cons, List.length_nil]
  rw [dec_f (show ¬ (0 : Int) < 0 by omega), dec_f (show ¬ ((0 + 1 : Nat) : Int) ≤ 0 by omega), show inB 3 3 5 = true from by decide, w64 (x := 0 + 1) (by omega)]
  have e1 : slc [(⟨3, k, w⟩ : Slip)] 0 0 = some [] := by simp [slc]
  have e2 : slc [(⟨3, k, w⟩ : Slip)] (0 + 1) ((0 + 1 : Nat) : Int) = some [] := by simp [slc]
  have e3 : app 24 ([] : List Slip) [] = some [] := by rw [app_of (by simp) (by omega)]; rfl
  simp only [Bool.not_true, cond_false, cond_true, Option.bind_some, show idx [(⟨3, k, w⟩ : Slip)] 0 = some ⟨3, k, w⟩ from by simp [idx], e1, e2, e3, spec_l16Take, idx_lt hk, beq_self_eq_true, Int.toNat_natCast]
def opens (cs : List Case) : Nat := (cs.filter fun x => x.Final == 0).length
theorem opens_set : ∀ (cs : List Case) (k : Nat) (h : k < cs.length) (x : Case), cs[k].Final = 0 → x.Final ≠ 0 → opens (cs.set k x) + 1 = opens cs
  | y :: ys, 0, h, x, h1, h2 => by
    have e1 : (y.Final == 0) = true := by simpa using h1
    have e2 : (x.Final == 0) = false := by simpa using h2
    simp [opens, e1, e2]
  | y :: ys, k + 1, h, x, h1, h2 => by
    have := opens_set ys k (by simpa using h) x (by simpa using h1) h2
    unfold opens at this ⊢
    rw [List.set_cons_succ, List.filter_cons, List.filter_cons]
    split
    · simp only [List.length_cons]; omega
    · omega
theorem ixF_get {α : Type} {p : α → Bool} : ∀ (l : List α), 0 ≤ ixF p l → ∃ (k : Nat) (hk : k < l.length), ixF p l = k ∧ p l[k] = true
  | [], h => by simp [ixF] at h
  | x :: xs, h => by
    unfold ixF at h ⊢
    by_cases hx : p x = true
    · rw [if_pos hx] at h ⊢
      exact ⟨0, by simp, rfl, hx⟩
    · rw [if_neg hx] at h ⊢
      by_cases hn : ixF p xs < 0
      · rw [if_pos hn] at h; omega
      · rw [if_neg hn]
        obtain ⟨k, hk, e1, e2⟩ := ixF_get (p := p) xs (by omega)
        exact ⟨k + 1, by simpa using hk, by rw [e1]; rfl, by simpa using e2⟩
def opF (cs : List Case) : Int := ixF (fun x => x.Final == 0) cs
theorem settleGo {c : Court} (hl : c.Cases.length ≤ 6) (hL : c.Line.length ≤ 1048576) : ∃ r, whl impl_SettleCourt_l0 (0, opF c.Cases, c.Now, c.Cases, c.Line) = some r ∧ whl spec_SettleCourt_l0 (0, opF c.Cases, c.Now, c.Cases, c.Line) = some r ∧ r.2.2.1.length ≤ 1048576 ∧ r.2.2.2.length ≤ 1048576 := by
  have hop : ∀ l : List Case, opens l ≤ l.length := fun l => List.length_filter_le _ _
  refine whl2 (fun x : Int × Int × Int × List Case × List Slip => opens x.2.2.2.1) (fun x : Int × Int × Int × List Case × List Slip => 0 ≤ x.1 ∧ x.1 + opens x.2.2.2.1 ≤ 6 ∧ x.2.1 = opF x.2.2.2.1 ∧ x.2.2.2.1.length ≤ 6 ∧ x.2.2.2.2.length ≤ 1048576) (fun r : Int × Int × List Case × List Slip => r.2.2.1.length ≤ 1048576 ∧ r.2.2.2.length ≤ 1048576) ?_ _ ⟨by simp, by have := hop c.Cases; simp only; omega, rfl, hl, hL⟩
  rintro ⟨m, k, now, cs, ln⟩ ⟨i1, i2, i3, i4, i5⟩
  simp only at i1 i2 i3 i4 i5
  subst i3
  simp only [impl_SettleCourt_l0, spec_SettleCourt_l0]
  by_cases hk : 0 ≤ opF cs
  · obtain ⟨k, hk', e1, e2⟩ := ixF_get cs hk
    have hf : cs[k].Final = 0 := by simpa using e2
    change opF cs = (k : Int) at e1
    rw [dec_t hk, e1]
    have hk2 : k < (cs.set k ⟨cs[k].End, cs[k].Asks, cs[k].Final, saidOf cs[k]⟩).length := by simpa using hk'
    have hg : (cs.set k ⟨cs[k].End, cs[k].Asks, cs[k].Final, saidOf cs[k]⟩)[k] = ⟨cs[k].End, cs[k].Asks, cs[k].Final, saidOf cs[k]⟩ := List.getElem_set_self _
    have hset : (cs.set k ⟨cs[k].End, cs[k].Asks, cs[k].Final, saidOf cs[k]⟩).set k ⟨((cs.set k ⟨cs[k].End, cs[k].Asks, cs[k].Final, saidOf cs[k]⟩)[k]).End, ((cs.set k ⟨cs[k].End, cs[k].Asks, cs[k].Final, saidOf cs[k]⟩)[k]).Asks, saidOf cs[k], ((cs.set k ⟨cs[k].End, cs[k].Asks, cs[k].Final, saidOf cs[k]⟩)[k]).Said⟩ = cs.set k (endOf cs[k]) := by
      rw [List.set_set, hg]; rfl
    have ho := opens_set cs k hk' (endOf cs[k]) hf (saidOf_ne _)
    have hlen : (cs.set k (endOf cs[k])).length ≤ 6 := by simpa using i4
    have u1 := iUnsettled (c := ⟨now, cs.set k (endOf cs[k]), []⟩) (by simp only; omega)
    have u2 := sOpen (c := ⟨now, cs.set k (endOf cs[k]), []⟩) (by simp only; omega)
    simp only [cond_true, iSend hk' i4 hf, sSend hk' hf, Option.bind_some, iTake1 hk' _ rfl, sTake1 hk' _ rfl, iTake2 hk2, sTake2 hk2]
    rw [hset, u1, u2, Option.bind_some, w64 (by omega)]
    exact ⟨_, rfl, rfl, ⟨by simp only; omega, by simp only; omega, rfl, hlen, by simp⟩, by simp only; omega⟩
  · rw [dec_f hk]
    exact ⟨_, rfl, rfl, by simp only; omega, i5⟩
theorem own16 {c : Court} (h1 : c.Cases.length ≤ 1048576) (h2 : c.Line.length ≤ 1048576) : spec_l16Own c = some c := by
  unfold spec_l16Own
  rw [app_of (by simp <;> omega) (by omega), Option.bind_some, app_of (by simp <;> omega) (by omega)]
  rfl
theorem copy16 {c : Court} (h1 : c.Cases.length ≤ 1048576) (h2 : c.Line.length ≤ 1048576) : impl_Court_copied c = some c := by
  unfold impl_Court_copied slices_Clone_impl_Case slices_Clone_impl_Slip
  rw [app_of (by simp <;> omega) (by omega), Option.bind_some, app_of (by simp <;> omega) (by omega)]
  rfl
theorem settleB {c : Court} (h1 : c.Cases.length ≤ 1048576) (h2 : c.Line.length ≤ 1048576) : ∃ r, impl_SettleCourt c = some r ∧ spec_SettleCourt c = some r ∧ r.1.Cases.length ≤ 1048576 ∧ r.1.Line.length ≤ 1048576 := by
  unfold impl_SettleCourt spec_SettleCourt
  rw [iGoodCourt h1 h2, sGoodCourt h1 h2, Option.bind_some, Option.bind_some]
  cases hg : courtB c
  · exact ⟨_, rfl, rfl, by simp, by simp⟩
  have hl : c.Cases.length ≤ 6 := by
    simp only [courtB, Bool.and_eq_true, decide_eq_true_eq] at hg
    exact hg.2.1
  simp only [Bool.not_true, cond_false, own16 h1 h2, copy16 h1 h2, iUnsettled h1, sOpen h1, Option.bind_some]
  obtain ⟨⟨m, now, cs, ln⟩, e1, e2, e3, e4⟩ := settleGo hl h2
  simp only at e3 e4
  change ∃ r, (whl impl_SettleCourt_l0 (0, opF c.Cases, c.Now, c.Cases, c.Line)).bind _ = some r ∧ (whl spec_SettleCourt_l0 (0, opF c.Cases, c.Now, c.Cases, c.Line)).bind _ = some r ∧ _
  rw [e1, e2, Option.bind_some, Option.bind_some]
  simp only
  rw [own16 (c := ⟨now, cs, ln⟩) e3 e4]
  exact ⟨_, rfl, rfl, e3, e4⟩
theorem pureSettle (c : Court) (h1 : c.Cases.length < 2 ^ 47) (h2 : c.Line.length < 2 ^ 47) : laws_FnExactSettleCourt c = some true := by
  obtain ⟨z, e1, e2⟩ := szCourt (c := c) (by unfold maxLen; omega) (by unfold maxLen; omega)
  unfold laws_FnExactSettleCourt
  rw [e1, Option.bind_some]
  by_cases hz : z < 0
  · rw [dec_t hz]; rfl
  rw [dec_f hz]
  obtain ⟨a1, a2⟩ := e2 (by omega)
  obtain ⟨r, r1, r2, r3, r4⟩ := settleB a1 a2
  obtain ⟨m, a, b, m1, m2, m3⟩ := markHeld a1 a2
  obtain ⟨m', a', b', m1', m2', m3'⟩ := markHeld r3 r4
  simp only [cond_false, toCourt a1 a2, r1, r2, eqCourt a1 a2, eqCourt r3 r4, m1, m1', m3', Option.bind_some, Bool.not_true, beq_self_eq_true, bne_self_eq_false]
  rw [dec_f (show ¬ m < 0 by omega), dec_f (show ¬ m' < 0 by omega)]
  rfl
end Go.VxW
