/-
  Courts: good ones, settled ones; the law's own frame.
-/
import Derived.Test.YtdgiianbihfkoaaVyL
import Derived.Test.YtdgiianbihfkoaaVaF
open Go Go.VS
namespace Go.VxW

/-! the frame -/
theorem szCourt {c : Court} (h1 : c.Cases.length ≤ maxLen) (h2 : c.Line.length ≤ maxLen) : ∃ k, laws_szCourt c 1048576 = some k ∧ (0 ≤ k → c.Cases.length ≤ 1048576 ∧ c.Line.length ≤ 1048576) := by
  unfold maxLen at h1 h2
  unfold laws_szCourt laws_szCaseS laws_szSlipS
  rw [w64 (x := 1048576 - (c.Cases.length : Int)) (by omega)]
  by_cases h : 1048576 - (c.Cases.length : Int) < 0
  · rw [dec_t h]; exact ⟨-1, rfl, by omega⟩
  · rw [dec_f h]
    simp only [cond_false, Option.bind_some]
    rw [dec_f h, w64 (x := 1048576 - (c.Cases.length : Int) - c.Line.length) (by omega)]
    simp only [cond_false]
    by_cases h' : 1048576 - (c.Cases.length : Int) - c.Line.length < 0
    · rw [dec_t h']; exact ⟨-1, rfl, by omega⟩
    · rw [dec_f h']
      simp only [cond_false, Option.bind_some]
      rw [dec_f h']
      exact ⟨_, rfl, by omega⟩
theorem toCaseS {l : List Case} (hl : l.length ≤ 1048576) : laws_toCaseS l = some l := by
  unfold laws_toCaseS
  rw [mkL_of (by omega) (by omega), Option.bind_some, toS_go (l := l) (h := id) (fun k hk x hx => by
    simp only [laws_toCaseS_l0, laws_toCase]
    rw [dec_t (by omega), idx_lt hk, idx_lt (by omega)]
    simp only [cond_true, Option.bind_some, Int.toNat_natCast, id]
    rw [w64 (by omega)]) (fun x => by simp [laws_toCaseS_l0]) (by simp)]
  simp
theorem toSlipS {l : List Slip} (hl : l.length ≤ 1048576) : laws_toSlipS l = some l := by
  unfold laws_toSlipS
  rw [mkL_of (by omega) (by omega), Option.bind_some, toS_go (l := l) (h := id) (fun k hk x hx => by
    simp only [laws_toSlipS_l0, laws_toSlip]
    rw [dec_t (by omega), idx_lt hk, idx_lt (by omega)]
    simp only [cond_true, Option.bind_some, Int.toNat_natCast, id]
    rw [w64 (by omega)]) (fun x => by simp [laws_toSlipS_l0]) (by simp)]
  simp
theorem toCourt {c : Court} (h1 : c.Cases.length ≤ 1048576) (h2 : c.Line.length ≤ 1048576) : laws_toCourt c = some c := by
  unfold laws_toCourt
  rw [toCaseS h1, toSlipS h2]
  rfl
theorem eqCaseS {l : List Case} (hl : l.length ≤ 1048576) : laws_eqCaseS l l = some true := by
  unfold laws_eqCaseS
  rw [eqS_go (l := l) (fun k hk => by
    simp only [laws_eqCaseS_l0, laws_eqCase]
    rw [dec_t (by omega), idx_lt hk, w64 (by omega)]
    simp) (by simp [laws_eqCaseS_l0])]
  simp
theorem eqSlipS {l : List Slip} (hl : l.length ≤ 1048576) : laws_eqSlipS l l = some true := by
  unfold laws_eqSlipS
  rw [eqS_go (l := l) (fun k hk => by
    simp only [laws_eqSlipS_l0, laws_eqSlip]
    rw [dec_t (by omega), idx_lt hk, w64 (by omega)]
    simp) (by simp [laws_eqSlipS_l0])]
  simp
theorem eqCourt {c : Court} (h1 : c.Cases.length ≤ 1048576) (h2 : c.Line.length ≤ 1048576) : laws_eqCourt c c = some true := by
  unfold laws_eqCourt
  rw [eqCaseS h1, eqSlipS h2]
  simp

/-! good courts -/
def caseB (now : Int) (x : Case) : Bool := inB x.End 0 100 && (inB x.Said 0 2 && (decide (x.Final = 0 ∨ x.Final = x.Said) && !(decide (x.Said = 0) && decide (x.End < now))))
def slipB (cs : List Case) (s : Slip) : Bool :=
  inB s.Case 0 ((cs.length : Int) - 1) && (if s.Kind = 3 then inB s.What 1 2 && decide ((cs[s.Case.toNat]?).map (·.Said) = some s.What) else (decide (s.Kind = 1) || decide (s.Kind = 2)) && decide (s.What = 0))
def courtB (c : Court) : Bool := inB c.Now 0 200 && (decide (c.Cases.length ≤ 6) && (decide (c.Line.length ≤ 30) && (c.Cases.all (caseB c.Now) && c.Line.all (slipB c.Cases))))
theorem iVerdict (n : Int) : impl_isVerdict n = some (inB n 1 2) := by
  unfold impl_isVerdict inB
  simp only [cnd_if]
  repeat' split
  all_goals first | rfl | (refine congrArg some ?_; rw [Bool.eq_iff_iff]; simp_all; done) | (refine congrArg some ?_; rw [Bool.eq_iff_iff]; simp_all; omega) | (refine congrArg some ?_; rw [Bool.eq_iff_iff]; grind) | grind
theorem iSlip {c : Court} (h : c.Cases.length ≤ 1048576) (s : Slip) : impl_Court_isSlip c s = some (slipB c.Cases s) := by
  unfold impl_Court_isSlip slipB
  rw [w64 (by omega), iIn, Option.bind_some]
  cases hi : inB s.Case 0 ((c.Cases.length : Int) - 1)
  · rfl
  · obtain ⟨h0, h1⟩ := inB_iff.1 hi
    obtain ⟨n, hn⟩ := Int.eq_ofNat_of_zero_le h0
    have hlt : n < c.Cases.length := by omega
    rw [iVerdict, hn, idx_lt hlt, Int.toNat_natCast, List.getElem?_eq_getElem hlt]
    simp only [Bool.not_true, cond_false, Bool.true_and, Option.bind_some, Option.map_some]
    simp only [cnd_if]
    repeat' split
    all_goals first | rfl | (refine congrArg some ?_; rw [Bool.eq_iff_iff]; simp_all; done) | (refine congrArg some ?_; rw [Bool.eq_iff_iff]; simp_all; omega) | (refine congrArg some ?_; rw [Bool.eq_iff_iff]; grind) | grind
theorem ixf_impl_Slip {l : List Slip} (hl : l.length < 2 ^ 60) {g : Slip → Option Bool} (p : Slip → Bool) (hg : ∀ x ∈ l, g x = some (p x)) : slices_IndexFunc_impl_Slip l g = some (ixF p l) := by
  unfold slices_IndexFunc_impl_Slip
  rw [ixf_go p (f := slices_IndexFunc_impl_Slip_l0 l g) (fun _ => rfl) hl hg]
  have := ixF_ge p l
  by_cases h : ixF p l < 0
  · rw [if_pos h]; simp; omega
  · rw [if_neg h]; rfl
theorem cf_impl_Slip {l : List Slip} (hl : l.length < 2 ^ 60) {g : Slip → Option Bool} (p : Slip → Bool) (hg : ∀ x ∈ l, g x = some (p x)) : slices_ContainsFunc_impl_Slip l g = some (l.any p) := by
  unfold slices_ContainsFunc_impl_Slip
  rw [ixf_impl_Slip hl p hg, Option.bind_some, ixF_any]
theorem ixf_impl_Case {l : List Case} (hl : l.length < 2 ^ 60) {g : Case → Option Bool} (p : Case → Bool) (hg : ∀ x ∈ l, g x = some (p x)) : slices_IndexFunc_impl_Case l g = some (ixF p l) := by
  unfold slices_IndexFunc_impl_Case
  rw [ixf_go p (f := slices_IndexFunc_impl_Case_l0 l g) (fun _ => rfl) hl hg]
  have := ixF_ge p l
  by_cases h : ixF p l < 0
  · rw [if_pos h]; simp; omega
  · rw [if_neg h]; rfl
theorem iGoodCourt {c : Court} (h1 : c.Cases.length ≤ 1048576) (h2 : c.Line.length ≤ 1048576) : impl_GoodCourt c = some (courtB c) := by
  unfold impl_GoodCourt courtB
  rw [iIn, Option.bind_some]
  have key := whl_lg c.Cases (impl_GoodCourt_l0 c) (fun k (_ : Unit) => k) (fun _ x s => if caseB c.Now x then .next s else .done (.done false)) (fun _ => .next ()) (fun k hk s => by
    simp only [impl_GoodCourt_l0]
    rw [dec_t (by omega), idx_lt hk, w64 (by omega)]
    simp only [Option.bind_some, iIn, cnd_if]
    unfold caseB
    grind [LR.mapN]) (fun s => by simp [impl_GoodCourt_l0]) ()
  rw [key, lgo_all _ _ (fun _ _ _ => rfl), cf_impl_Slip (by omega) (fun s => !slipB c.Cases s) (fun x _ => by simp only [impl_GoodCourt_1, iSlip h1, Option.bind_some])]
  simp only [Option.bind_some, List.any_eq_not_all_not, Bool.not_not]
  have e3 : decide (6 < (c.Cases.length : Int)) = !decide (c.Cases.length ≤ 6) := by
    by_cases h : c.Cases.length ≤ 6
    · rw [dec_t h, dec_f (by omega)]; rfl
    · rw [dec_f h, dec_t (by omega)]; rfl
  have e4 : decide (30 < (c.Line.length : Int)) = !decide (c.Line.length ≤ 30) := by
    by_cases h : c.Line.length ≤ 30
    · rw [dec_t h, dec_f (by omega)]; rfl
    · rw [dec_f h, dec_t (by omega)]; rfl
  rw [e3, e4]
  cases inB c.Now 0 200 <;> cases decide (c.Cases.length ≤ 6) <;> cases decide (c.Line.length ≤ 30) <;> cases c.Cases.all (caseB c.Now) <;> cases c.Line.all (slipB c.Cases) <;> rfl
def slipS (cs : List Case) (s : Slip) : Bool :=
  inB s.Case 0 ((cs.length : Int) - 1) && (if s.Kind = 3 then decide (s.What ≠ 0) && decide ((cs[s.Case.toNat]?).map (·.Said) = some s.What) else (decide (s.Kind = 1) || decide (s.Kind = 2)) && decide (s.What = 0))
theorem slipS_eq {now : Int} {cs : List Case} (h : cs.all (caseB now) = true) (s : Slip) : slipS cs s = slipB cs s := by
  unfold slipS slipB
  cases hi : inB s.Case 0 ((cs.length : Int) - 1)
  · rfl
  · obtain ⟨h0, h1⟩ := inB_iff.1 hi
    have hlt : s.Case.toNat < cs.length := by omega
    rw [List.getElem?_eq_getElem hlt]
    have := List.all_eq_true.1 h _ (List.getElem_mem hlt)
    unfold caseB at this
    simp only [Bool.and_eq_true] at this
    have hs := inB_iff.1 this.2.1
    generalize cs[s.Case.toNat] = x at hs
    by_cases h3 : s.Kind = 3
    · simp only [h3, if_true, Option.map_some, Option.some.injEq, Bool.true_and]
      by_cases he : x.Said = s.What
      · rw [he] at hs
        rw [Bool.eq_iff_iff]
        simp only [Bool.and_eq_true, decide_eq_true_eq, inB_iff]
        omega
      · simp [he]
    · simp [h3]
theorem sGoodCourt {c : Court} (h1 : c.Cases.length ≤ 1048576) (h2 : c.Line.length ≤ 1048576) : spec_GoodCourt c = some (courtB c) := by
  unfold spec_GoodCourt courtB
  have key := whl_lg c.Cases (spec_GoodCourt_l0 c) (fun k (_ : Unit) => k) (fun _ x s => if caseB c.Now x then .next s else .done (.done false)) (fun _ => .next ()) (fun k hk s => by
    simp only [spec_GoodCourt_l0]
    rw [dec_t (by omega), idx_lt hk, w64 (by omega)]
    simp only [Option.bind_some, sIn, spec_l16Verdict, cnd_if]
    unfold caseB
    grind [LR.mapN, inB]) (fun s => by simp [spec_GoodCourt_l0]) ()
  have key2 := whl_lg c.Line (spec_GoodCourt_l1 c) (fun k (_ : Unit) => k) (fun _ x s => if slipS c.Cases x then .next s else .done (.done false)) (fun _ => .next ()) (fun k hk s => by
    simp only [spec_GoodCourt_l1]
    rw [dec_t (by omega), idx_lt hk, w64 (by omega)]
    simp only [cond_true, Option.bind_some, sIn]
    unfold slipS
    generalize c.Line[k] = x
    by_cases hi : 0 ≤ x.Case ∧ x.Case < c.Cases.length
    · have e1 : inB x.Case 0 ((c.Cases.length : Int) - 1) = true := inB_iff.2 ⟨by omega, by omega⟩
      rw [idx_in hi.1 hi.2, List.getElem?_eq_getElem (by omega), dec_f (by omega), dec_f (by omega), e1]
      simp only [cond_false, Option.bind_some, Bool.true_and, Option.map_some, Option.some.injEq]
      generalize c.Cases[x.Case.toNat] = y
      by_cases k3 : x.Kind = 3
      · have e2 : inB 3 1 3 = true := by decide
        simp only [k3, e2, beq_self_eq_true, bne_self_eq_false, Bool.not_true, cond_false, cond_true, if_true]
        by_cases w0 : x.What = 0
        · simp [w0, LR.mapN]
        · by_cases ws : x.What = y.Said
          · have : (x.What == 0) = false := by simpa using w0
            have e6 : (x.What != y.Said) = false := by simpa using ws
            simp [this, LR.mapN, w0, ws.symm]
          · have e4 : ¬ y.Said = x.What := fun e => ws e.symm
            have : (x.What == 0) = false := by simpa using w0
            have e5 : (x.What != y.Said) = true := by simpa using ws
            simp [this, e5, e4, LR.mapN]
      · have e3 : (x.Kind == 3) = false := by simpa using k3
        have e4 : (x.Kind != 3) = true := by simpa using k3
        simp only [k3, e3, e4, cond_false, cond_true, if_false]
        by_cases k1 : x.Kind = 1
        · have e2 : inB 1 1 3 = true := by decide
          by_cases w0 : x.What = 0
          · simp [k1, e2, w0, LR.mapN]
          · have : (x.What != 0) = true := by simpa using w0
            simp [k1, e2, w0, this, LR.mapN]
        · by_cases k2 : x.Kind = 2
          · have e2 : inB 2 1 3 = true := by decide
            by_cases w0 : x.What = 0
            · simp [k2, e2, w0, LR.mapN]
            · have : (x.What != 0) = true := by simpa using w0
              simp [k2, e2, w0, this, LR.mapN]
          · have e2 : inB x.Kind 1 3 = false := by rw [← Bool.not_eq_true, inB_iff]; omega
            simp [k1, k2, e2, LR.mapN]
    · have e1 : inB x.Case 0 ((c.Cases.length : Int) - 1) = false := by rw [← Bool.not_eq_true, inB_iff]; omega
      rw [e1]
      by_cases h0 : x.Case < 0
      · rw [dec_t h0]; simp [LR.mapN]
      · rw [dec_f h0, dec_t (by omega)]; simp [LR.mapN]) (fun s => by simp [spec_GoodCourt_l1]) ()
  rw [key, key2, lgo_all _ _ (fun _ _ _ => rfl), lgo_all _ _ (fun _ _ _ => rfl)]
  cases hc : c.Cases.all (caseB c.Now)
  · simp
  · have he : c.Line.all (slipS c.Cases) = c.Line.all (slipB c.Cases) := by
      congr 1; funext s; exact slipS_eq hc s
    rw [he, sIn]
    have e3 : decide ((c.Cases.length : Int) ≤ 6) = decide (c.Cases.length ≤ 6) := by
      by_cases h : c.Cases.length ≤ 6
      · rw [dec_t h, dec_t (by omega)]
      · rw [dec_f h, dec_f (by omega)]
    have e4 : decide ((c.Line.length : Int) ≤ 30) = decide (c.Line.length ≤ 30) := by
      by_cases h : c.Line.length ≤ 30
      · rw [dec_t h, dec_t (by omega)]
      · rw [dec_f h, dec_f (by omega)]
    simp only [if_true, Option.bind_some, e3, e4]
    cases inB c.Now 0 200 <;> cases decide (c.Cases.length ≤ 6) <;> cases decide (c.Line.length ≤ 30) <;> cases c.Line.all (slipB c.Cases) <;> rfl
theorem sOpen {c : Court} (h1 : c.Cases.length ≤ 1048576) : spec_l16Open c = some (ixF (fun x => x.Final == 0) c.Cases) := by
  unfold spec_l16Open
  rw [ixf_go (fun x => x.Final == 0) (f := spec_l16Open_l0 c) (g := fun x => some (x.Final == 0)) (l := c.Cases) (fun i => by simp only [spec_l16Open_l0, Option.bind_some]) (by omega) (fun _ _ => rfl)]
  have := ixF_ge (fun x : Case => x.Final == 0) c.Cases
  by_cases h : ixF (fun x : Case => x.Final == 0) c.Cases < 0
  · rw [if_pos h]; simp; omega
  · rw [if_neg h]; rfl
theorem iUnsettled {c : Court} (h1 : c.Cases.length ≤ 1048576) : impl_Court_unsettled c = some (ixF (fun x => x.Final == 0) c.Cases) := by
  unfold impl_Court_unsettled
  rw [ixf_impl_Case (g := impl_Court_unsettled_1) (by omega) (fun x => x.Final == 0) (fun _ _ => rfl)]
  rfl
def settledF (c : Court) : Bool × Bool := if courtB c then (decide (ixF (fun x => x.Final == 0) c.Cases < 0), true) else (false, false)
theorem iSettled {c : Court} (h1 : c.Cases.length ≤ 1048576) (h2 : c.Line.length ≤ 1048576) : impl_IsSettled c = some (settledF c) := by
  unfold impl_IsSettled settledF
  rw [iGoodCourt h1 h2, iUnsettled h1]
  cases courtB c <;> rfl
theorem sSettled {c : Court} (h1 : c.Cases.length ≤ 1048576) (h2 : c.Line.length ≤ 1048576) : spec_IsSettled c = some (settledF c) := by
  unfold spec_IsSettled settledF
  rw [sGoodCourt h1 h2, sOpen h1]
  cases courtB c <;> rfl
theorem pureSettled (c : Court) (h1 : c.Cases.length ≤ maxLen) (h2 : c.Line.length ≤ maxLen) : laws_FnExactIsSettled c = some true := by
  unfold laws_FnExactIsSettled
  obtain ⟨k, e1, hk⟩ := szCourt h1 h2
  rw [e1, Option.bind_some]
  by_cases h : k < 0
  · rw [dec_t h]; rfl
  · rw [dec_f h]
    obtain ⟨l1, l2⟩ := hk (by omega)
    simp only [toCourt l1 l2, iSettled l1 l2, sSettled l1 l2, eqCourt l1 l2, cond_false, Option.bind_some, beq_self_eq_true, Bool.not_true]
end Go.VxW
