/-
  The plain law and all that it needs.
-/
import Derived.Test.YtcgnkhdeckgaaaaVgF
import Derived.Test.YtcgnkhdeckgaaaaVaF


open Go Go.VS
namespace Go.VxW
def inB (n a b : Int) : Bool := decide (a ≤ n) && decide (n ≤ b)
theorem sIn (n a b : Int) : spec_l1In n a b = some (inB n a b) := by
  unfold spec_l1In inB; cases decide (a ≤ n) <;> rfl
theorem iIn (n a b : Int) : impl_in n a b = some (inB n a b) := by
  unfold impl_in inB; cases decide (a ≤ n) <;> rfl
theorem inB_iff {n a b : Int} : inB n a b = true ↔ a ≤ n ∧ n ≤ b := by simp [inB]
theorem sAll {l : List Int} (hl : l.length ≤ 1048576) (a b : Int) : spec_l1All l a b = some (l.all (inB · a b)) := by
  unfold spec_l1All
  rw [whl_lg l (spec_l1All_l0 l a b) (fun k (_ : Unit) => k) (fun _ x s => if inB x a b then .next s else .done (.done false)) (fun _ => .next ()) (fun k hk s => by
    simp only [spec_l1All_l0]
    rw [dec_t (by omega), idx_lt hk, w64 (by omega)]
    simp only [cond_true, Option.bind_some, sIn]
    cases inB l[k] a b <;> rfl) (fun s => by simp [spec_l1All_l0]) (), lgo_all _ _ (fun _ _ _ => rfl)]
  cases l.all (inB · a b) <;> rfl
def caseB (now : Int) (x : Case) : Bool := inB x.End 0 100 && (inB x.Said 0 2 && (decide (x.Final = 0 ∨ x.Final = x.Said) && !(decide (x.Said = 0) && decide (x.End < now))))
def slipB (cs : List Case) (s : Slip) : Bool :=
  inB s.Case 0 ((cs.length : Int) - 1) && (if s.Kind = 3 then inB s.What 1 2 && decide ((cs[s.Case.toNat]?).map (·.Said) = some s.What) else (decide (s.Kind = 1) || decide (s.Kind = 2)) && decide (s.What = 0))
def courtB (c : Court) : Bool := inB c.Now 0 200 && (decide (c.Cases.length ≤ 6) && (decide (c.Line.length ≤ 30) && (c.Cases.all (caseB c.Now) && c.Line.all (slipB c.Cases))))
theorem iVerdict (n : Int) : impl_isVerdict n = some (inB n 1 2) := by
  unfold impl_isVerdict inB
  simp only [cnd_if]
  repeat' split
  all_goals first | rfl | (refine congrArg some ?_; rw [Bool.eq_iff_iff]; simp_all; done) | (refine congrArg some ?_; rw [Bool.eq_iff_iff]; simp_all; omega) | (refine congrArg some ?_; rw [Bool.eq_iff_iff]; grind) | grind
theorem iSlip {c : Court} (h : c.Cases.length ≤ 1048576) (s : Slip) : impl_Court_isSlip c s = some (slipB c.Cases s) := by
  unfold impl_Court_isSlip slipB
  rw [w64 (by omega), iIn, Option.bind_some]
  cases hi : inB s.Case 0 ((c.Cases.length : Int) - 1)
  · rfl
  · obtain ⟨h0, h1⟩ := inB_iff.1 hi
    obtain ⟨n, hn⟩ := Int.eq_ofNat_of_zero_le h0
    have hlt : n < c.Cases.length := by omega
    rw [iVerdict, hn, idx_lt hlt, Int.toNat_natCast, List.getElem?_eq_getElem hlt]
    simp only [Bool.not_true, cond_false, Bool.true_and, Option.bind_some, Option.map_some]
    simp only [cnd_if]
    repeat' split
    all_goals first | rfl | (refine congrArg some ?_; rw [Bool.eq_iff_iff]; simp_all; done) | (refine congrArg some ?_; rw [Bool.eq_iff_iff]; simp_all; omega) | (refine congrArg some ?_; rw [Bool.eq_iff_iff]; grind) | grind
theorem ixf_impl_Slip {l : List Slip} (hl : l.length < 2 ^ 60) {g : Slip → Option Bool} (p : Slip → Bool) (hg : ∀ x ∈ l, g x = some (p x)) : slices_IndexFunc_impl_Slip l g = some (ixF p l) := by
  unfold slices_IndexFunc_impl_Slip
  rw [ixf_go p (f := slices_IndexFunc_impl_Slip_l0 l g) (fun _ => rfl) hl hg]
  have := ixF_ge p l
  by_cases h : ixF p l < 0
  · rw [if_pos h]; simp; omega
  · rw [if_neg h]; rfl
theorem cf_impl_Slip {l : List Slip} (hl : l.length < 2 ^ 60) {g : Slip → Option Bool} (p : Slip → Bool) (hg : ∀ x ∈ l, g x = some (p x)) : slices_ContainsFunc_impl_Slip l g = some (l.any p) := by
  unfold slices_ContainsFunc_impl_Slip
  rw [ixf_impl_Slip hl p hg, Option.bind_some, ixF_any]
theorem ixf_impl_Case {l : List Case} (hl : l.length < 2 ^ 60) {g : Case → Option Bool} (p : Case → Bool) (hg : ∀ x ∈ l, g x = some (p x)) : slices_IndexFunc_impl_Case l g = some (ixF p l) := by
  unfold slices_IndexFunc_impl_Case
  rw [ixf_go p (f := slices_IndexFunc_impl_Case_l0 l g) (fun _ => rfl) hl hg]
  have := ixF_ge p l
  by_cases h : ixF p l < 0
  · rw [if_pos h]; simp; omega
  · rw [if_neg h]; rfl
theorem iGoodCourt {c : Court} (h1 : c.Cases.length ≤ 1048576) (h2 : c.Line.length ≤ 1048576) : impl_GoodCourt c = some (courtB c) := by
  unfold impl_GoodCourt courtB
  rw [iIn, Option.bind_some]
  have key := whl_lg c.Cases (impl_GoodCourt_l0 c) (fun k (_ : Unit) => k) (fun _ x s => if caseB c.Now x then .next s else .done (.done false)) (fun _ => .next ()) (fun k hk s => by
    simp only [impl_GoodCourt_l0]
    rw [dec_t (by omega), idx_lt hk, w64 (by omega)]
    simp only [Option.bind_some, iIn, cnd_if]
    unfold caseB
    grind [LR.mapN]) (fun s => by simp [impl_GoodCourt_l0]) ()
  rw [key, lgo_all _ _ (fun _ _ _ => rfl), cf_impl_Slip (by omega) (fun s => !slipB c.Cases s) (fun x _ => by simp only [impl_GoodCourt_1, iSlip h1, Option.bind_some])]
  simp only [Option.bind_some, List.any_eq_not_all_not, Bool.not_not]
  have e3 : decide (6 < (c.Cases.length : Int)) = !decide (c.Cases.length ≤ 6) := by
    by_cases h : c.Cases.length ≤ 6
    · rw [dec_t h, dec_f (by omega)]; rfl
    · rw [dec_f h, dec_t (by omega)]; rfl
  have e4 : decide (30 < (c.Line.length : Int)) = !decide (c.Line.length ≤ 30) := by
    by_cases h : c.Line.length ≤ 30
    · rw [dec_t h, dec_f (by omega)]; rfl
    · rw [dec_f h, dec_t (by omega)]; rfl
  rw [e3, e4]
  cases inB c.Now 0 200 <;> cases decide (c.Cases.length ≤ 6) <;> cases decide (c.Line.length ≤ 30) <;> cases c.Cases.all (caseB c.Now) <;> cases c.Line.all (slipB c.Cases) <;> rfl
def slipS (cs : List Case) (s : Slip) : Bool :=
  inB s.Case 0 ((cs.length : Int) - 1) && (if s.Kind = 3 then decide (s.What ≠ 0) && decide ((cs[s.Case.toNat]?).map (·.Said) = some s.What) else (decide (s.Kind = 1) || decide (s.Kind = 2)) && decide (s.What = 0))
theorem slipS_eq {now : Int} {cs : List Case} (h : cs.all (caseB now) = true) (s : Slip) : slipS cs s = slipB cs s := by
  unfold slipS slipB
  cases hi : inB s.Case 0 ((cs.length : Int) - 1)
  · rfl
  · obtain ⟨h0, h1⟩ := inB_iff.1 hi
    have hlt : s.Case.toNat < cs.length := by omega
    rw [List.getElem?_eq_getElem hlt]
    have := List.all_eq_true.1 h _ (List.getElem_mem hlt)
    unfold caseB at this
    simp only [Bool.and_eq_true] at this
    have hs := inB_iff.1 this.2.1
    generalize cs[s.Case.toNat] = x at hs
    by_cases h3 : s.Kind = 3
    · simp only [h3, if_true, Option.map_some, Option.some.injEq, Bool.true_and]
      by_cases he : x.Said = s.What
      · rw [he] at hs
        rw [Bool.eq_iff_iff]
        simp only [Bool.and_eq_true, decide_eq_true_eq, inB_iff]
        omega
      · simp [he]
    · simp [h3]
theorem sGoodCourt {c : Court} (h1 : c.Cases.length ≤ 1048576) (h2 : c.Line.length ≤ 1048576) : spec_GoodCourt c = some (courtB c) := by
  unfold spec_GoodCourt courtB
  have key := whl_lg c.Cases (spec_GoodCourt_l0 c) (fun k (_ : Unit) => k) (fun _ x s => if caseB c.Now x then .next s else .done (.done false)) (fun _ => .next ()) (fun k hk s => by
    simp only [spec_GoodCourt_l0]
    rw [dec_t (by omega), idx_lt hk, w64 (by omega)]
    simp only [Option.bind_some, sIn, spec_l16Verdict, cnd_if]
    unfold caseB
    grind [LR.mapN, inB]) (fun s => by simp [spec_GoodCourt_l0]) ()
  have key2 := whl_lg c.Line (spec_GoodCourt_l1 c) (fun k (_ : Unit) => k) (fun _ x s => if slipS c.Cases x then .next s else .done (.done false)) (fun _ => .next ()) (fun k hk s => by
    simp only [spec_GoodCourt_l1]
    rw [dec_t (by omega), idx_lt hk, w64 (by omega)]
    simp only [cond_true, Option.bind_some, sIn]
    unfold slipS
    generalize c.Line[k] = x
    by_cases hi : 0 ≤ x.Case ∧ x.Case < c.Cases.length
    · have e1 : inB x.Case 0 ((c.Cases.length : Int) - 1) = true := inB_iff.2 ⟨by omega, by omega⟩
      rw [idx_in hi.1 hi.2, List.getElem?_eq_getElem (by omega), dec_f (by omega), dec_f (by omega), e1]
      simp only [cond_false, Option.bind_some, Bool.true_and, Option.map_some, Option.some.injEq]
      generalize c.Cases[x.Case.toNat] = y
      by_cases k3 : x.Kind = 3
      · have e2 : inB 3 1 3 = true := by decide
        simp only [k3, e2, beq_self_eq_true, bne_self_eq_false, Bool.not_true, cond_false, cond_true, if_true]
        by_cases w0 : x.What = 0
        · simp [w0, LR.mapN]
        · by_cases ws : x.What = y.Said
          · have : (x.What == 0) = false := by simpa using w0
            have e6 : (x.What != y.Said) = false := by simpa using ws
            simp [this, LR.mapN, w0, ws.symm]
          · have e4 : ¬ y.Said = x.What := fun e => ws e.symm
            have : (x.What == 0) = false := by simpa using w0
            have e5 : (x.What != y.Said) = true := by simpa using ws
            simp [this, e5, e4, LR.mapN]
      · have e3 : (x.Kind == 3) = false := by simpa using k3
        have e4 : (x.Kind != 3) = true := by simpa using k3
        simp only [k3, e3, e4, cond_false, cond_true, if_false]
        by_cases k1 : x.Kind = 1
        · have e2 : inB 1 1 3 = true := by decide
          by_cases w0 : x.What = 0
          · simp [k1, e2, w0, LR.mapN]
          · have : (x.What != 0) = true := by simpa using w0
            simp [k1, e2, w0, this, LR.mapN]
        · by_cases k2 : x.Kind = 2
          · have e2 : inB 2 1 3 = true := by decide
            by_cases w0 : x.What = 0
            · simp [k2, e2, w0, LR.mapN]
            · have : (x.What != 0) = true := by simpa using w0
              simp [k2, e2, w0, this, LR.mapN]
          · have e2 : inB x.Kind 1 3 = false := by rw [← Bool.not_eq_true, inB_iff]; omega
            simp [k1, k2, e2, LR.mapN]
    · have e1 : inB x.Case 0 ((c.Cases.length : Int) - 1) = false := by rw [← Bool.not_eq_true, inB_iff]; omega
      rw [e1]
      by_cases h0 : x.Case < 0
      · rw [dec_t h0]; simp [LR.mapN]
      · rw [dec_f h0, dec_t (by omega)]; simp [LR.mapN]) (fun s => by simp [spec_GoodCourt_l1]) ()
  rw [key, key2, lgo_all _ _ (fun _ _ _ => rfl), lgo_all _ _ (fun _ _ _ => rfl)]
  cases hc : c.Cases.all (caseB c.Now)
  · simp
  · have he : c.Line.all (slipS c.Cases) = c.Line.all (slipB c.Cases) := by
      congr 1; funext s; exact slipS_eq hc s
    rw [he, sIn]
    have e3 : decide ((c.Cases.length : Int) ≤ 6) = decide (c.Cases.length ≤ 6) := by
      by_cases h : c.Cases.length ≤ 6
      · rw [dec_t h, dec_t (by omega)]
      · rw [dec_f h, dec_f (by omega)]
    have e4 : decide ((c.Line.length : Int) ≤ 30) = decide (c.Line.length ≤ 30) := by
      by_cases h : c.Line.length ≤ 30
      · rw [dec_t h, dec_t (by omega)]
      · rw [dec_f h, dec_f (by omega)]
    simp only [if_true, Option.bind_some, e3, e4]
    cases inB c.Now 0 200 <;> cases decide (c.Cases.length ≤ 6) <;> cases decide (c.Line.length ≤ 30) <;> cases c.Line.all (slipB c.Cases) <;> rfl
theorem sOpen {c : Court} (h1 : c.Cases.length ≤ 1048576) : spec_l16Open c = some (ixF (fun x => x.Final == 0) c.Cases) := by
  unfold spec_l16Open
  rw [ixf_go (fun x => x.Final == 0) (f := spec_l16Open_l0 c) (g := fun x => some (x.Final == 0)) (l := c.Cases) (fun i => by simp only [spec_l16Open_l0, Option.bind_some]) (by omega) (fun _ _ => rfl)]
  have := ixF_ge (fun x : Case => x.Final == 0) c.Cases
  by_cases h : ixF (fun x : Case => x.Final == 0) c.Cases < 0
  · rw [if_pos h]; simp; omega
  · rw [if_neg h]; rfl
theorem iUnsettled {c : Court} (h1 : c.Cases.length ≤ 1048576) : impl_Court_unsettled c = some (ixF (fun x => x.Final == 0) c.Cases) := by
  unfold impl_Court_unsettled
  rw [ixf_impl_Case (g := impl_Court_unsettled_1) (by omega) (fun x => x.Final == 0) (fun _ _ => rfl)]
  rfl
def saidOf (x : Case) : Int := if x.Said = 0 then (if x.Asks then 2 else 1) else x.Said
def endOf (x : Case) : Case := ⟨x.End, x.Asks, saidOf x, saidOf x⟩
theorem saidOf_ne (x : Case) : saidOf x ≠ 0 := by
  unfold saidOf
  split
  · split <;> omega
  · assumption
theorem idx_set_nat {α : Type} {l : List α} {k : Nat} (h : k < l.length) (x : α) : idx (l.set k x) (k : Int) = some x := by
  rw [idx_nat, List.getElem?_set_self h]
theorem app1 {α : Type} {b : Nat} {x : α} (hb : b ≤ 4096) : app b ([] : List α) [x] = some [x] := by
  rw [app_of (by simp) hb]; rfl
theorem iSend {now : Int} {cs : List Case} {k : Nat} (hk : k < cs.length) (hl : cs.length ≤ 6) (hf : cs[k].Final = 0) :
    impl_Court_step ⟨now, cs, []⟩ ⟨1, k⟩ = some (true, ⟨now, cs, [⟨if cs[k].Asks then 2 else 1, k, 0⟩]⟩) := by
  have hin : inB (k : Int) 0 ((cs.length : Int) - 1) = true := by rw [inB_iff]; omega
  unfold impl_Court_step
  simp only [beq_self_eq_true, cond_true, Option.bind_some, iIn]
  rw [w64 (by omega), hin, idx_lt hk]
  simp only [Bool.not_true, cond_false, Option.bind_some, hf, bne_self_eq_false, impl_Court_goes, List.length_nil]
  cases cs[k].Asks <;> (simp only [cond_true, cond_false, Option.bind_some]; rw [dec_t (by omega), cond_true, app1 (by omega)]; rfl)
theorem iTake1 {now : Int} {cs : List Case} {k : Nat} (hk : k < cs.length) (kd : Int) (hkd : kd = if cs[k].Asks then 2 else 1) :
    impl_Court_step ⟨now, cs, [⟨kd, k, 0⟩]⟩ ⟨3, 0⟩ = some (true, ⟨now, cs.set k ⟨cs[k].End, cs[k].Asks, cs[k].Final, saidOf cs[k]⟩, [⟨3, k, saidOf cs[k]⟩]⟩) := by
  have hd : slices_Delete_impl_Slip [(⟨kd, k, 0⟩ : Slip)] 0 1 = some [] := by
    unfold slices_Delete_impl_Slip
    simp [slc, app, roomy]
  have h3 : (kd == 3) = false := by rw [hkd]; split <;> rfl
  unfold impl_Court_step
  simp only [iIn, show ((3 : Int) == 1) = false from rfl, show ((3 : Int) == 2) = false from rfl, show ((3 : Int) == 4) = false from rfl, beq_self_eq_true, cond_true, cond_false, Option.bind_some, List.length_cons, List.length_nil]
  rw [w64 (x := ((0 + 1 : Nat) : Int) - 1) (by omega), show inB 0 0 (((0 + 1 : Nat) : Int) - 1) = true from by decide, w64 (x := 0 + 1) (by omega), show (0 : Int) + 1 = 1 from rfl, hd]
  simp only [Bool.not_true, cond_false, Option.bind_some, show idx [(⟨kd, k, 0⟩ : Slip)] 0 = some ⟨kd, k, 0⟩ from by simp [idx], impl_Court_take, idx_lt hk, h3, impl_Court_goes, List.length_nil]
  have hs : (bif (cs[k].Said == 0) then ((bif (kd == 2) then (idx (cs.set k (⟨cs[k].End, cs[k].Asks, cs[k].Final, 1⟩ : Case)) k).bind fun b25 => some (((cs.set k (⟨cs[k].End, cs[k].Asks, cs[k].Final, 1⟩ : Case)).set k (⟨b25.End, b25.Asks, b25.Final, 2⟩ : Case))) else some ((cs.set k (⟨cs[k].End, cs[k].Asks, cs[k].Final, 1⟩ : Case))))).bind fun x19 => some (x19) else some cs) = some (cs.set k ⟨cs[k].End, cs[k].Asks, cs[k].Final, saidOf cs[k]⟩) := by
    unfold saidOf
    by_cases h0 : cs[k].Said = 0
    · rw [show (cs[k].Said == 0) = true from by simp [h0], if_pos h0]
      cases ha : cs[k].Asks
      · rw [ha] at hkd
        rw [show (kd == 2) = false from by rw [hkd]; rfl]
        simp
      · rw [ha] at hkd
        rw [show (kd == 2) = true from by rw [hkd]; rfl, idx_set_nat hk]
        simp only [cond_true, Option.bind_some, List.set_set, if_true]
    · rw [show (cs[k].Said == 0) = false from by simpa using h0, if_neg h0, cond_false]
      have : (⟨cs[k].End, cs[k].Asks, cs[k].Final, cs[k].Said⟩ : Case) = cs[k] := rfl
      rw [this, List.set_getElem_self]
  simp only [Int.toNat_natCast]
  rw [hs]
  simp only [Option.bind_some, idx_set_nat hk]
  rw [dec_t (by omega), cond_true, app1 (by omega)]
  rfl
theorem iTake2 {now : Int} {cs : List Case} {k : Nat} (hk : k < cs.length) (w : Int) :
    impl_Court_step ⟨now, cs, [⟨3, k, w⟩]⟩ ⟨3, 0⟩ = some (true, ⟨now, cs.set k ⟨cs[k].End, cs[k].Asks, w, cs[k].Said⟩, []⟩) := by
  have hd : slices_Delete_impl_Slip [(⟨3, k, w⟩ : Slip)] 0 1 = some [] := by
    unfold slices_Delete_impl_Slip
    simp [slc, app, roomy]
  unfold impl_Court_step
  simp only [iIn, show ((3 : Int) == 1) = false from rfl, show ((3 : Int) == 2) = false from rfl, show ((3 : Int) == 4) = false from rfl, beq_self_eq_true, cond_true, cond_false, Option.bind_some, List.length_cons, List.length_nil]
  rw [w64 (x := ((0 + 1 : Nat) : Int) - 1) (by omega), show inB 0 0 (((0 + 1 : Nat) : Int) - 1) = true from by decide, w64 (x := 0 + 1) (by omega), show (0 : Int) + 1 = 1 from rfl, hd]
  simp only [Bool.not_true, cond_false, cond_true, Option.bind_some, show idx [(⟨3, k, w⟩ : Slip)] 0 = some ⟨3, k, w⟩ from by simp [idx], impl_Court_take, idx_lt hk, beq_self_eq_true, Int.toNat_natCast]
theorem sSend {now : Int} {cs : List Case} {k : Nat} (hk : k < cs.length) (hf : cs[k].Final = 0) :
    spec_l16Step ⟨now, cs, []⟩ ⟨1, k⟩ = some (⟨now, cs, [⟨if cs[k].Asks then 2 else 1, k, 0⟩]⟩, true) := by
  unfold spec_l16Step
  simp only [show ((1 : Int) == 6) = false from rfl, show ((1 : Int) == 2) = false from rfl, beq_self_eq_true, cond_true, cond_false, Option.bind_some]
  rw [dec_f (by omega), dec_f (by omega), idx_lt hk]
  simp only [cond_false, Option.bind_some, hf, bne_self_eq_false, spec_l16Write, List.length_nil]
  cases cs[k].Asks <;> (simp only [cond_true, cond_false, Option.bind_some]; rw [dec_t (by omega), cond_true, app1 (by omega)]; rfl)
theorem sTake1 {now : Int} {cs : List Case} {k : Nat} (hk : k < cs.length) (kd : Int) (hkd : kd = if cs[k].Asks then 2 else 1) :
    spec_l16Step ⟨now, cs, [⟨kd, k, 0⟩]⟩ ⟨3, 0⟩ = some (⟨now, cs.set k ⟨cs[k].End, cs[k].Asks, cs[k].Final, saidOf cs[k]⟩, [⟨3, k, saidOf cs[k]⟩]⟩, true) := by
  have h3 : (kd == 3) = false := by rw [hkd]; split <;> rfl
  unfold spec_l16Step
  simp only [sIn, show ((3 : Int) == 6) = false from rfl, show ((3 : Int) == 1) = false from rfl, show ((3 : Int) == 2) = false from rfl, show ((3 : Int) == 5) = false from rfl, beq_self_eq_true, cond_true, cond_false, Option.bind_some, List.length_cons, List.length_nil]
  rw [dec_f (show ¬ (0 : Int) < 0 by omega), dec_f (show ¬ ((0 + 1 : Nat) : Int) ≤ 0 by omega), show inB 3 3 5 = true from by decide, w64 (x := 0 + 1) (by omega)]
  have e1 : slc [(⟨kd, k, 0⟩ : Slip)] 0 0 = some [] := by simp [slc]
  have e2 : slc [(⟨kd, k, 0⟩ : Slip)] (0 + 1) ((0 + 1 : Nat) : Int) = some [] := by simp [slc]
  have e3 : app 24 ([] : List Slip) [] = some [] := by rw [app_of (by simp) (by omega)]; rfl
  simp only [Bool.not_true, cond_false, Option.bind_some, show idx [(⟨kd, k, 0⟩ : Slip)] 0 = some ⟨kd, k, 0⟩ from by simp [idx], e1, e2, e3, spec_l16Take, idx_lt hk, h3, spec_l16Write, List.length_nil]
  have hs : (bif (cs[k].Said == 0) then ((bif (kd == 2) then some (2 : Int) else some (1))).bind fun x26 => some ((cs.set k (⟨cs[k].End, cs[k].Asks, cs[k].Final, x26⟩ : Case))) else some cs) = some (cs.set k ⟨cs[k].End, cs[k].Asks, cs[k].Final, saidOf cs[k]⟩) := by
    unfold saidOf
    by_cases h0 : cs[k].Said = 0
    · rw [show (cs[k].Said == 0) = true from by simp [h0], if_pos h0]
      cases ha : cs[k].Asks
      · rw [ha] at hkd
        rw [show (kd == 2) = false from by rw [hkd]; rfl]
        simp
      · rw [ha] at hkd
        rw [show (kd == 2) = true from by rw [hkd]; rfl]
        simp
    · rw [show (cs[k].Said == 0) = false from by simpa using h0, if_neg h0, cond_false]
      have : (⟨cs[k].End, cs[k].Asks, cs[k].Final, cs[k].Said⟩ : Case) = cs[k] := rfl
      rw [this, List.set_getElem_self]
  simp only [Int.toNat_natCast]
  rw [hs]
  simp only [Option.bind_some, idx_set_nat hk]
  rw [dec_t (by omega), cond_true, app1 (by omega)]
  rfl
theorem sTake2 {now : Int} {cs : List Case} {k : Nat} (hk : k < cs.length) (w : Int) :
    spec_l16Step ⟨now, cs, [⟨3, k, w⟩]⟩ ⟨3, 0⟩ = some (⟨now, cs.set k ⟨cs[k].End, cs[k].Asks, w, cs[k].Said⟩, []⟩, true) := by
  unfold spec_l16Step
  simp only [sIn, show ((3 : Int) == 6) = false from rfl, show ((3 : Int) == 1) = false from rfl, show ((3 : Int) == 2) = false from rfl, show ((3 : Int) == 5) = false from rfl, beq_self_eq_true, cond_true, cond_false, Option.bind_some, List.length_cons, List.length_nil]
  rw [dec_f (show ¬ (0 : Int) < 0 by omega), dec_f (show ¬ ((0 + 1 : Nat) : Int) ≤ 0 by omega), show inB 3 3 5 = true from by decide, w64 (x := 0 + 1) (by omega)]
  have e1 : slc [(⟨3, k, w⟩ : Slip)] 0 0 = some [] := by simp [slc]
  have e2 : slc [(⟨3, k, w⟩ : Slip)] (0 + 1) ((0 + 1 : Nat) : Int) = some [] := by simp [slc]
  have e3 : app 24 ([] : List Slip) [] = some [] := by rw [app_of (by simp) (by omega)]; rfl
  simp only [Bool.not_true, cond_false, cond_true, Option.bind_some, show idx [(⟨3, k, w⟩ : Slip)] 0 = some ⟨3, k, w⟩ from by simp [idx], e1, e2, e3, spec_l16Take, idx_lt hk, beq_self_eq_true, Int.toNat_natCast]
def opens (cs : List Case) : Nat := (cs.filter fun x => x.Final == 0).length
theorem opens_set : ∀ (cs : List Case) (k : Nat) (h : k < cs.length) (x : Case), cs[k].Final = 0 → x.Final ≠ 0 → opens (cs.set k x) + 1 = opens cs
  | y :: ys, 0, h, x, h1, h2 => by
    have e1 : (y.Final == 0) = true := by simpa using h1
    have e2 : (x.Final == 0) = false := by simpa using h2
    simp [opens, e1, e2]
  | y :: ys, k + 1, h, x, h1, h2 => by
    have := opens_set ys k (by simpa using h) x (by simpa using h1) h2
    unfold opens at this ⊢
    rw [List.set_cons_succ, List.filter_cons, List.filter_cons]
    split
    · simp only [List.length_cons]; omega
    · omega
theorem ixF_get {α : Type} {p : α → Bool} : ∀ (l : List α), 0 ≤ ixF p l → ∃ (k : Nat) (hk : k < l.length), ixF p l = k ∧ p l[k] = true
  | [], h => by simp [ixF] at h
  | x :: xs, h => by
    unfold ixF at h ⊢
    by_cases hx : p x = true
    · rw [if_pos hx] at h ⊢
      exact ⟨0, by simp, rfl, hx⟩
    · rw [if_neg hx] at h ⊢
      by_cases hn : ixF p xs < 0
      · rw [if_pos hn] at h; omega
      · rw [if_neg hn]
        obtain ⟨k, hk, e1, e2⟩ := ixF_get (p := p) xs (by omega)
        exact ⟨k + 1, by simpa using hk, by rw [e1]; rfl, by simpa using e2⟩
def opF (cs : List Case) : Int := ixF (fun x => x.Final == 0) cs
theorem settleGo {c : Court} (hl : c.Cases.length ≤ 6) (hL : c.Line.length ≤ 1048576) : ∃ r, whl impl_SettleCourt_l0 (0, opF c.Cases, c.Now, c.Cases, c.Line) = some r ∧ whl spec_SettleCourt_l0 (0, opF c.Cases, c.Now, c.Cases, c.Line) = some r ∧ r.2.2.1.length ≤ 1048576 ∧ r.2.2.2.length ≤ 1048576 := by
  have hop : ∀ l : List Case, opens l ≤ l.length := fun l => List.length_filter_le _ _
  refine whl2 (fun x : Int × Int × Int × List Case × List Slip => opens x.2.2.2.1) (fun x : Int × Int × Int × List Case × List Slip => 0 ≤ x.1 ∧ x.1 + opens x.2.2.2.1 ≤ 6 ∧ x.2.1 = opF x.2.2.2.1 ∧ x.2.2.2.1.length ≤ 6 ∧ x.2.2.2.2.length ≤ 1048576) (fun r : Int × Int × List Case × List Slip => r.2.2.1.length ≤ 1048576 ∧ r.2.2.2.length ≤ 1048576) ?_ _ ⟨by simp, by have := hop c.Cases; simp only; omega, rfl, hl, hL⟩
  rintro ⟨m, k, now, cs, ln⟩ ⟨i1, i2, i3, i4, i5⟩
  simp only at i1 i2 i3 i4 i5
  subst i3
  simp only [impl_SettleCourt_l0, spec_SettleCourt_l0]
  by_cases hk : 0 ≤ opF cs
  · obtain ⟨k, hk', e1, e2⟩ := ixF_get cs hk
    have hf : cs[k].Final = 0 := by simpa using e2
    change opF cs = (k : Int) at e1
    rw [dec_t hk, e1]
    have hk2 : k < (cs.set k ⟨cs[k].End, cs[k].Asks, cs[k].Final, saidOf cs[k]⟩).length := by simpa using hk'
    have hg : (cs.set k ⟨cs[k].End, cs[k].Asks, cs[k].Final, saidOf cs[k]⟩)[k] = ⟨cs[k].End, cs[k].Asks, cs[k].Final, saidOf cs[k]⟩ := List.getElem_set_self _
    have hset : (cs.set k ⟨cs[k].End, cs[k].Asks, cs[k].Final, saidOf cs[k]⟩).set k ⟨((cs.set k ⟨cs[k].End, cs[k].Asks, cs[k].Final, saidOf cs[k]⟩)[k]).End, ((cs.set k ⟨cs[k].End, cs[k].Asks, cs[k].Final, saidOf cs[k]⟩)[k]).Asks, saidOf cs[k], ((cs.set k ⟨cs[k].End, cs[k].Asks, cs[k].Final, saidOf cs[k]⟩)[k]).Said⟩ = cs.set k (endOf cs[k]) := by
      rw [List.set_set, hg]; rfl
    have ho := opens_set cs k hk' (endOf cs[k]) hf (saidOf_ne _)
    have hlen : (cs.set k (endOf cs[k])).length ≤ 6 := by simpa using i4
    have u1 := iUnsettled (c := ⟨now, cs.set k (endOf cs[k]), []⟩) (by simp only; omega)
    have u2 := sOpen (c := ⟨now, cs.set k (endOf cs[k]), []⟩) (by simp only; omega)
    simp only [cond_true, iSend hk' i4 hf, sSend hk' hf, Option.bind_some, iTake1 hk' _ rfl, sTake1 hk' _ rfl, iTake2 hk2, sTake2 hk2]
    rw [hset, u1, u2, Option.bind_some, w64 (by omega)]
    exact ⟨_, rfl, rfl, ⟨by simp only; omega, by simp only; omega, rfl, hlen, by simp⟩, by simp only; omega⟩
  · rw [dec_f hk]
    exact ⟨_, rfl, rfl, by simp only; omega, i5⟩
theorem own16 {c : Court} (h1 : c.Cases.length ≤ 1048576) (h2 : c.Line.length ≤ 1048576) : spec_l16Own c = some c := by
  unfold spec_l16Own
  rw [app_of (by simp <;> omega) (by omega), Option.bind_some, app_of (by simp <;> omega) (by omega)]
  rfl
theorem copy16 {c : Court} (h1 : c.Cases.length ≤ 1048576) (h2 : c.Line.length ≤ 1048576) : impl_Court_copied c = some c := by
  unfold impl_Court_copied slices_Clone_impl_Case slices_Clone_impl_Slip
  rw [app_of (by simp <;> omega) (by omega), Option.bind_some, app_of (by simp <;> omega) (by omega)]
  rfl
theorem settleB {c : Court} (h1 : c.Cases.length ≤ 1048576) (h2 : c.Line.length ≤ 1048576) : ∃ r, impl_SettleCourt c = some r ∧ spec_SettleCourt c = some r ∧ r.1.Cases.length ≤ 1048576 ∧ r.1.Line.length ≤ 1048576 := by
  unfold impl_SettleCourt spec_SettleCourt
  rw [iGoodCourt h1 h2, sGoodCourt h1 h2, Option.bind_some, Option.bind_some]
  cases hg : courtB c
  · exact ⟨_, rfl, rfl, by simp, by simp⟩
  have hl : c.Cases.length ≤ 6 := by
    simp only [courtB, Bool.and_eq_true, decide_eq_true_eq] at hg
    exact hg.2.1
  simp only [Bool.not_true, cond_false, own16 h1 h2, copy16 h1 h2, iUnsettled h1, sOpen h1, Option.bind_some]
  obtain ⟨⟨m, now, cs, ln⟩, e1, e2, e3, e4⟩ := settleGo hl h2
  simp only at e3 e4
  change ∃ r, (whl impl_SettleCourt_l0 (0, opF c.Cases, c.Now, c.Cases, c.Line)).bind _ = some r ∧ (whl spec_SettleCourt_l0 (0, opF c.Cases, c.Now, c.Cases, c.Line)).bind _ = some r ∧ _
  rw [e1, e2, Option.bind_some, Option.bind_some]
  simp only
  rw [own16 (c := ⟨now, cs, ln⟩) e3 e4]
  exact ⟨_, rfl, rfl, e3, e4⟩
def caseOf (e : Int) : Case := ⟨e, false, 0, 0⟩
def newF (l : List Int) : Court × Bool := if decide (l.length ≤ 6) && l.all (inB · 0 100) then (⟨0, l.map caseOf, []⟩, true) else (⟨0, [], []⟩, false)
theorem newC_go {l : List Int} (hl : l.length ≤ 1048576) {f : Int × List Case → Option (LR (Int × List Case) (List Case))} (hf : f = impl_NewCourt_l0 l) : whl f (0, []) = some (l.map caseOf) := by
  subst hf
  rw [whl_lgo l (impl_NewCourt_l0 l) (fun k (s : List Case) => (k, s)) (fun _ x s => .next (s ++ [caseOf x])) (fun s => s) (fun k s => s.length = k) (fun k hk s hi => by
    simp only [impl_NewCourt_l0]
    rw [dec_t (by omega), idx_lt hk]
    simp only [cond_true, Option.bind_some]
    rw [app_of (by simp <;> omega) (by omega), Option.bind_some, w64 (by omega)]
    exact ⟨rfl, fun s' e => by simp at e; rw [← e]; simp; omega⟩) (fun s _ => by simp only [impl_NewCourt_l0]; rw [dec_f (by omega)]; rfl) [] rfl, lgo_fold (fun s x => s ++ [caseOf x]) (fun _ _ _ => rfl)]
  congr 1
  have : ∀ (m : List Int) (s : List Case), m.foldl (fun s x => s ++ [caseOf x]) s = s ++ m.map caseOf := by
    intro m
    induction m with
    | nil => simp
    | cons x xs ih => intro s; simp [ih]
  simpa using this l []
theorem iNewCourt {l : List Int} (hl : l.length ≤ 1048576) : impl_NewCourt l = some (newF l) := by
  unfold impl_NewCourt newF
  rw [newC_go hl rfl, Option.bind_some, iGoodCourt (by simpa using hl) (by simp), Option.bind_some]
  have : courtB ⟨0, l.map caseOf, []⟩ = (decide (l.length ≤ 6) && l.all (inB · 0 100)) := by
    unfold courtB
    have e : (l.map caseOf).all (caseB 0) = l.all (inB · 0 100) := by
      rw [List.all_map]
      congr 1
      funext x
      have e : (caseOf x).End = x ∧ (caseOf x).Said = 0 ∧ (caseOf x).Final = 0 := ⟨rfl, rfl, rfl⟩
      simp only [Function.comp, caseB, e]
      cases h : inB x 0 100
      · rfl
      · have := inB_iff.1 h
        have e2 : decide (x < 0) = false := dec_f (by omega)
        simp [inB, e2]
    rw [e]
    simp [inB]
  rw [this]
  cases decide (l.length ≤ 6) && l.all (inB · 0 100) <;> rfl
theorem sNewCourt {l : List Int} (hl : l.length ≤ 1048576) : spec_NewCourt l = some (newF l) := by
  unfold spec_NewCourt newF
  rw [newC_go hl (f := spec_NewCourt_l0 l) rfl, sAll hl]
  by_cases h : l.length ≤ 6
  · rw [dec_f (show ¬ 6 < (l.length : Int) by omega), dec_t h]
    cases l.all (inB · 0 100) <;> rfl
  · rw [dec_t (show 6 < (l.length : Int) by omega), dec_f h]
    rfl
structure CaseOK (now : Int) (x : Case) : Prop where
  e : 0 ≤ x.End ∧ x.End ≤ 100
  s : 0 ≤ x.Said ∧ x.Said ≤ 2
  f : x.Final = 0 ∨ x.Final = x.Said
  n : x.Said = 0 → now ≤ x.End
theorem caseB_iff {now : Int} {x : Case} : caseB now x = true ↔ CaseOK now x := by
  simp only [caseB, Bool.and_eq_true, inB_iff, decide_eq_true_eq, Bool.not_eq_true', Bool.and_eq_false_iff, decide_eq_false_iff_not]
  constructor
  · rintro ⟨h1, h2, h3, h4⟩
    exact ⟨h1, h2, h3, fun h => by rcases h4 with h4 | h4; exact absurd h h4; omega⟩
  · rintro ⟨h1, h2, h3, h4⟩
    refine ⟨h1, h2, h3, ?_⟩
    by_cases h : x.Said = 0
    · have := h4 h; exact .inr (by omega)
    · exact .inl h
def SlipOK (cs : List Case) (s : Slip) : Prop := ∃ x, idx cs s.Case = some x ∧ ((s.Kind = 3 ∧ s.What ≠ 0 ∧ s.What = x.Said) ∨ ((s.Kind = 1 ∨ s.Kind = 2) ∧ s.What = 0))
theorem idx_some {α : Type} {l : List α} {i : Int} {x : α} : idx l i = some x ↔ 0 ≤ i ∧ i < l.length ∧ l[i.toNat]? = some x := by
  unfold idx
  constructor
  · intro h
    split at h
    · rename_i h0
      have := (List.getElem?_eq_some_iff.1 h).1
      exact ⟨h0, by omega, h⟩
    · simp at h
  · rintro ⟨h0, h1, h2⟩
    rw [if_pos h0]; exact h2
theorem idx_inB {α : Type} (l : List α) (i : Int) : (inB i 0 ((l.length : Int) - 1) = true ∧ ∃ x, idx l i = some x) ∨ (inB i 0 ((l.length : Int) - 1) = false ∧ idx l i = none) := by
  by_cases h : 0 ≤ i ∧ i < l.length
  · exact .inl ⟨by rw [inB_iff]; omega, _, idx_in h.1 h.2⟩
  · refine .inr ⟨by cases hb : inB i 0 ((l.length : Int) - 1); rfl; rw [inB_iff] at hb; omega, ?_⟩
    cases hx : idx l i with
    | none => rfl
    | some x => have := idx_some.1 hx; omega
theorem slipB_iff {now : Int} {cs : List Case} (hc : ∀ x ∈ cs, CaseOK now x) {s : Slip} : slipB cs s = true ↔ SlipOK cs s := by
  unfold slipB SlipOK
  rw [Bool.and_eq_true, inB_iff]
  constructor
  · rintro ⟨h1, h2⟩
    have hl : s.Case.toNat < cs.length := by omega
    refine ⟨cs[s.Case.toNat], idx_in (by omega) (by omega), ?_⟩
    split at h2
    · rename_i h3
      rw [Bool.and_eq_true, inB_iff, decide_eq_true_eq, List.getElem?_eq_getElem hl] at h2
      simp only [Option.map_some, Option.some.injEq] at h2
      exact .inl ⟨h3, by omega, h2.2.symm⟩
    · simp only [Bool.and_eq_true, Bool.or_eq_true, decide_eq_true_eq] at h2
      exact .inr h2
  · rintro ⟨x, h1, h2⟩
    obtain ⟨a1, a2, a3⟩ := idx_some.1 h1
    have hx := hc x (List.mem_of_getElem? a3)
    refine ⟨by omega, ?_⟩
    rcases h2 with ⟨b1, b2, b3⟩ | ⟨b1, b2⟩
    · rw [if_pos b1, Bool.and_eq_true, inB_iff, decide_eq_true_eq, a3]
      have := hx.s
      exact ⟨by omega, by simp [b3]⟩
    · rw [if_neg (by omega)]
      simp [b1, b2]
structure GC (c : Court) : Prop where
  now : 0 ≤ c.Now ∧ c.Now ≤ 200
  nc : c.Cases.length ≤ 6
  nl : c.Line.length ≤ 30
  cs : ∀ x ∈ c.Cases, CaseOK c.Now x
  ln : ∀ s ∈ c.Line, SlipOK c.Cases s
theorem courtB_iff {c : Court} : courtB c = true ↔ GC c := by
  simp only [courtB, Bool.and_eq_true, inB_iff, decide_eq_true_eq, List.all_eq_true, caseB_iff]
  constructor
  · rintro ⟨h1, h2, h3, h4, h5⟩
    exact ⟨h1, h2, h3, h4, fun s hs => (slipB_iff h4).1 (h5 s hs)⟩
  · rintro ⟨h1, h2, h3, h4, h5⟩
    exact ⟨h1, h2, h3, h4, fun s hs => (slipB_iff h4).2 (h5 s hs)⟩
def goesF (c : Court) (s : Slip) : Court := if c.Line.length < 30 then { c with Line := c.Line ++ [s] } else c
def takenF (x : Case) (kd : Int) : Case := ⟨x.End, x.Asks, x.Final, if x.Said = 0 then (if kd = 2 then 2 else 1) else x.Said⟩
def takeF (c : Court) (s : Slip) (x : Case) : Court :=
  if s.Kind = 3 then { c with Cases := c.Cases.set s.Case.toNat ⟨x.End, x.Asks, s.What, x.Said⟩ }
  else goesF { c with Cases := c.Cases.set s.Case.toNat (takenF x s.Kind) } ⟨3, s.Case, (takenF x s.Kind).Said⟩
def tickC (now : Int) (x : Case) : Case := if x.Said = 0 ∧ x.End < now then ⟨x.End, x.Asks, x.Final, 2⟩ else x
def tickF (c : Court) : Court := ⟨c.Now + 1, c.Cases.map (tickC (c.Now + 1)), c.Line⟩
def stepF (c : Court) (s : CourtStep) : Bool × Court :=
  if s.Kind = 1 then (match idx c.Cases s.K with
    | some x => if x.Final ≠ 0 then (false, c) else (true, goesF c ⟨if x.Asks then 2 else 1, s.K, 0⟩)
    | none => (false, c))
  else if s.Kind = 2 then (match idx c.Cases s.K with
    | some x => if x.Final ≠ 0 then (false, c) else if x.Asks then (false, c) else (true, { c with Cases := c.Cases.set s.K.toNat ⟨x.End, true, x.Final, x.Said⟩ })
    | none => (false, c))
  else if s.Kind = 3 then (match idx c.Line s.K with
    | some h => (true, match idx c.Cases h.Case with | some x => takeF { c with Line := c.Line.take s.K.toNat ++ c.Line.drop (s.K.toNat + 1) } h x | none => c)
    | none => (false, c))
  else if s.Kind = 4 then (match idx c.Line s.K with
    | some _ => (true, { c with Line := c.Line.take s.K.toNat ++ c.Line.drop (s.K.toNat + 1) })
    | none => (false, c))
  else if s.Kind = 5 then (match idx c.Line s.K with
    | some h => if c.Line.length = 30 then (false, c) else (true, { c with Line := c.Line ++ [h] })
    | none => (false, c))
  else if s.Kind = 6 then (if s.K ≠ 0 ∨ c.Now = 200 then (false, c) else (true, tickF c))
  else (false, c)
theorem beq_t {a b : Int} (h : a = b) : (a == b) = true := by simp [h]
theorem beq_f {a b : Int} (h : a ≠ b) : (a == b) = false := by simpa using h
theorem bne_t {a b : Int} (h : a ≠ b) : (a != b) = true := by simpa using h
theorem bne_f {a b : Int} (h : a = b) : (a != b) = false := by simp [h]
theorem iGoes {c : Court} (s : Slip) : impl_Court_goes c s = some (goesF c s) := by
  unfold impl_Court_goes goesF
  by_cases h : c.Line.length < 30
  · rw [dec_t (by omega), if_pos h, cond_true, app_of (by simp <;> omega) (by omega)]; rfl
  · rw [dec_f (by omega), if_neg h]; rfl
theorem sWrite {c : Court} (s : Slip) : spec_l16Write c s = some (goesF c s) := by
  unfold spec_l16Write goesF
  by_cases h : c.Line.length < 30
  · rw [dec_t (by omega), if_pos h, cond_true, app_of (by simp <;> omega) (by omega)]; rfl
  · rw [dec_f (by omega), if_neg h]; rfl
theorem iTakeF {c : Court} {s : Slip} {x : Case} (hx : idx c.Cases s.Case = some x) : impl_Court_take c s = some (takeF c s x) := by
  have hs : ∀ y, idx (c.Cases.set s.Case.toNat y) s.Case = some y := fun y => by
    obtain ⟨a1, a2, _⟩ := idx_some.1 hx
    exact idx_some.2 ⟨a1, by simpa using a2, List.getElem?_set_self (by omega)⟩
  unfold impl_Court_take takeF
  rw [hx, Option.bind_some]
  by_cases h3 : s.Kind = 3
  · rw [beq_t h3, if_pos h3]; rfl
  · rw [beq_f h3, if_neg h3]
    have e : ((bif (x.Said == 0) then ((bif (s.Kind == 2) then (idx (c.Cases.set s.Case.toNat (⟨x.End, x.Asks, x.Final, 1⟩ : Case)) s.Case).bind fun b25 => some (((c.Cases.set s.Case.toNat (⟨x.End, x.Asks, x.Final, 1⟩ : Case)).set s.Case.toNat (⟨b25.End, b25.Asks, b25.Final, 2⟩ : Case))) else some ((c.Cases.set s.Case.toNat (⟨x.End, x.Asks, x.Final, 1⟩ : Case))))).bind fun x19 => some (x19) else some (c.Cases))) = some (c.Cases.set s.Case.toNat (takenF x s.Kind)) := by
      unfold takenF
      by_cases h0 : x.Said = 0
      · rw [beq_t h0, if_pos h0]
        by_cases h2 : s.Kind = 2
        · rw [beq_t h2, if_pos h2, hs]
          simp only [cond_true, Option.bind_some, List.set_set]
        · rw [beq_f h2, if_neg h2]; rfl
      · rw [beq_f h0, if_neg h0, cond_false]
        obtain ⟨a1, a2, a3⟩ := idx_some.1 hx
        have hl : s.Case.toNat < c.Cases.length := by omega
        have : x = c.Cases[s.Case.toNat] := by rw [List.getElem?_eq_getElem hl] at a3; exact (Option.some.inj a3).symm
        subst this
        rw [show (⟨(c.Cases[s.Case.toNat]).End, (c.Cases[s.Case.toNat]).Asks, (c.Cases[s.Case.toNat]).Final, (c.Cases[s.Case.toNat]).Said⟩ : Case) = c.Cases[s.Case.toNat] from rfl, List.set_getElem_self]
    rw [cond_false, e, Option.bind_some, hs, Option.bind_some, iGoes, Option.bind_some]
theorem sTakeF {c : Court} {s : Slip} {x : Case} (hx : idx c.Cases s.Case = some x) : spec_l16Take c s = some (takeF c s x) := by
  have hs : ∀ y, idx (c.Cases.set s.Case.toNat y) s.Case = some y := fun y => by
    obtain ⟨a1, a2, _⟩ := idx_some.1 hx
    exact idx_some.2 ⟨a1, by simpa using a2, List.getElem?_set_self (by omega)⟩
  unfold spec_l16Take takeF
  by_cases h3 : s.Kind = 3
  · rw [beq_t h3, if_pos h3, cond_true, hx]; rfl
  · rw [beq_f h3, if_neg h3, cond_false, hx, Option.bind_some]
    have e : ((bif (x.Said == 0) then ((bif (s.Kind == 2) then some (2 : Int) else some (1))).bind fun x26 => some (some x26) else some none).bind fun _ => some ()) = some () := by
      cases x.Said == 0 <;> cases s.Kind == 2 <;> rfl
    have e2 : ((bif (x.Said == 0) then ((bif (s.Kind == 2) then some (2) else some (1))).bind fun x26 => (some x).bind fun b31 => some ((c.Cases.set s.Case.toNat (⟨b31.End, b31.Asks, b31.Final, x26⟩ : Case))) else some (c.Cases))) = some (c.Cases.set s.Case.toNat (takenF x s.Kind)) := by
      unfold takenF
      by_cases h0 : x.Said = 0
      · rw [beq_t h0, if_pos h0]
        by_cases h2 : s.Kind = 2
        · rw [beq_t h2, if_pos h2]; rfl
        · rw [beq_f h2, if_neg h2]; rfl
      · rw [beq_f h0, if_neg h0, cond_false]
        obtain ⟨a1, a2, a3⟩ := idx_some.1 hx
        have hl : s.Case.toNat < c.Cases.length := by omega
        have : x = c.Cases[s.Case.toNat] := by rw [List.getElem?_eq_getElem hl] at a3; exact (Option.some.inj a3).symm
        subst this
        rw [show (⟨(c.Cases[s.Case.toNat]).End, (c.Cases[s.Case.toNat]).Asks, (c.Cases[s.Case.toNat]).Final, (c.Cases[s.Case.toNat]).Said⟩ : Case) = c.Cases[s.Case.toNat] from rfl, List.set_getElem_self]
    rw [hx] at *
    rw [e2, Option.bind_some, hs, Option.bind_some, sWrite, Option.bind_some]
theorem tick_go {c : Court} (hn : 0 ≤ c.Now ∧ c.Now ≤ 1000) (hl : c.Cases.length ≤ 1048576) {f : List Case × Int → Option (LR (List Case × Int) (List Case))} (hf : f = impl_Court_tick_l0 c) : whl f (c.Cases, 0) = some (c.Cases.map (tickC (c.Now + 1))) := by
  subst hf
  refine whl_to (fun x : List Case × Int => c.Cases.length - x.2.toNat) (fun x => 0 ≤ x.2 ∧ x.2 ≤ (c.Cases.length : Int) ∧ x.1 = (c.Cases.take x.2.toNat).map (tickC (c.Now + 1)) ++ c.Cases.drop x.2.toNat) _ ?_ _ ⟨by simp, by simp, by simp⟩
  rintro ⟨l, i⟩ ⟨i1, i2, i3⟩
  simp only at i1 i2 i3
  subst i3
  simp only [impl_Court_tick_l0]
  by_cases hi : i < c.Cases.length
  · have hlt : i.toNat < c.Cases.length := by omega
    obtain ⟨k, rfl⟩ := Int.eq_ofNat_of_zero_le i1
    simp only [Int.toNat_natCast] at hlt ⊢
    have hlen : ((c.Cases.take k).map (tickC (c.Now + 1))).length = k := by simp <;> omega
    have hg : idx ((c.Cases.take k).map (tickC (c.Now + 1)) ++ c.Cases.drop k) (k : Int) = some c.Cases[k] := by
      rw [idx_nat, List.getElem?_append_right (by omega), hlen, Nat.sub_self, List.getElem?_drop, Nat.add_zero, List.getElem?_eq_getElem hlt]
    rw [dec_t hi, hg]
    simp only [cond_true, Option.bind_some]
    rw [w64 (x := c.Now + 1) (by omega), w64 (x := (k : Int) + 1) (by omega)]
    have hset : ∀ y, ((c.Cases.take k).map (tickC (c.Now + 1)) ++ c.Cases.drop k).set k y = (c.Cases.take k).map (tickC (c.Now + 1)) ++ y :: c.Cases.drop (k + 1) := fun y => by
      rw [List.set_append_right _ _ (by omega), hlen, Nat.sub_self, List.drop_eq_getElem_cons hlt, List.set_cons_zero]
    have hnext : (c.Cases.take k).map (tickC (c.Now + 1)) ++ tickC (c.Now + 1) c.Cases[k] :: c.Cases.drop (k + 1) = (c.Cases.take (k + 1)).map (tickC (c.Now + 1)) ++ c.Cases.drop (k + 1) := by
      rw [List.take_succ_eq_append_getElem hlt, List.map_append, List.append_assoc]; rfl
    have hsame : (c.Cases.take k).map (tickC (c.Now + 1)) ++ c.Cases.drop k = (c.Cases.take k).map (tickC (c.Now + 1)) ++ c.Cases[k] :: c.Cases.drop (k + 1) := by rw [List.drop_eq_getElem_cons hlt]
    have et : ((k : Int) + 1).toNat = k + 1 := by omega
    by_cases h0 : (c.Cases[k]).Said = 0
    · rw [beq_t h0]
      by_cases he : (c.Cases[k]).End < c.Now + 1
      · simp only [cond_true, Option.bind_some, dec_t he, hset]
        refine ⟨_, rfl, ⟨by simp only; omega, by simp only; omega, ?_⟩, by simp only; omega⟩
        simp only [et]
        rw [← hnext]; simp [tickC, h0, he]
      · simp only [cond_true, cond_false, Option.bind_some, dec_f he]
        refine ⟨_, rfl, ⟨by simp only; omega, by simp only; omega, ?_⟩, by simp only; omega⟩
        simp only [et]
        rw [← hnext, hsame]; simp [tickC, he]
    · rw [beq_f h0]
      simp only [cond_false, Option.bind_some]
      refine ⟨_, rfl, ⟨by simp only; omega, by simp only; omega, ?_⟩, by simp only; omega⟩
      simp only [et]
      rw [← hnext, hsame]; simp [tickC, h0]
  · rw [dec_f hi]
    refine ⟨_, rfl, ?_⟩
    simp only
    rw [List.take_of_length_le (by omega), List.drop_eq_nil_of_le (by omega), List.append_nil]
theorem delF {l : List Slip} {i : Int} {h : Slip} (hx : idx l i = some h) (hl : l.length ≤ 1048576) : slices_Delete_impl_Slip l i (i + 1) = some (l.take i.toNat ++ l.drop (i.toNat + 1)) ∧ slc l 0 i = some (l.take i.toNat) ∧ slc l (i + 1) (l.length : Int) = some (l.drop (i.toNat + 1)) := by
  obtain ⟨a1, a2, _⟩ := idx_some.1 hx
  obtain ⟨k, rfl⟩ := Int.eq_ofNat_of_zero_le a1
  have s1 : slc l 0 (k : Int) = some (l.take k) := by simp [slc]; omega
  have s2 : slc l ((k : Int) + 1) (l.length : Int) = some (l.drop (k + 1)) := by
    simp only [slc]
    rw [if_pos (by omega)]
    congr 1
    rw [show ((k : Int) + 1).toNat = k + 1 by omega]
    simp only [Int.toNat_natCast]
    exact List.take_of_length_le (by simp)
  have s3 : ∃ z, slc l (k : Int) ((k : Int) + 1) = some z := by
    simp only [slc]
    rw [if_pos (by omega)]
    exact ⟨_, rfl⟩
  obtain ⟨z, s3⟩ := s3
  refine ⟨?_, s1, s2⟩
  unfold slices_Delete_impl_Slip
  rw [s3, Option.bind_some, beq_f (by omega), cond_false, s1, Option.bind_some, s2, Option.bind_some, app_of (by simp <;> omega) (by omega)]
  rfl
theorem iStep {c : Court} (g : GC c) (s : CourtStep) : impl_Court_step c s = some (stepF c s) := by
  have hnc := g.nc; have hnl := g.nl
  have e1 : IntKind.i64.wrap ((c.Cases.length : Int) - 1) = (c.Cases.length : Int) - 1 := w64 (by omega)
  have e2 : IntKind.i64.wrap ((c.Line.length : Int) - 1) = (c.Line.length : Int) - 1 := w64 (by omega)
  unfold impl_Court_step stepF
  simp only [iIn, e1, e2, Option.bind_some]
  by_cases k1 : s.Kind = 1
  · rw [if_pos k1]
    simp only [beq_t k1, cond_true, Option.bind_some]
    rcases idx_inB c.Cases s.K with ⟨a1, x, a2⟩ | ⟨a1, a2⟩
    · simp only [a1, a2, Bool.not_true, cond_false, Option.bind_some]
      by_cases hf : x.Final = 0
      · simp only [bne_f hf, if_neg (show ¬ x.Final ≠ 0 from fun h => h hf), cond_false, Option.bind_some]
        cases x.Asks <;> simp only [cond_true, cond_false, Option.bind_some, iGoes, Bool.false_eq_true, if_true, if_false]
      · simp only [bne_t hf, if_pos hf, cond_true, Option.bind_some]
    · simp only [a1, a2, Bool.not_false, cond_true, Option.bind_some]
  rw [if_neg k1]
  by_cases k2 : s.Kind = 2
  · rw [if_pos k2]
    simp only [beq_f k1, beq_t k2, cond_true, cond_false, Option.bind_some]
    rcases idx_inB c.Cases s.K with ⟨a1, x, a2⟩ | ⟨a1, a2⟩
    · simp only [a1, a2, Bool.not_true, cond_false, Option.bind_some]
      by_cases hf : x.Final = 0
      · simp only [bne_f hf, if_neg (show ¬ x.Final ≠ 0 from fun h => h hf), cond_false, Option.bind_some]
        cases x.Asks <;> simp only [cond_true, cond_false, Option.bind_some, Bool.false_eq_true, if_true, if_false]
      · simp only [bne_t hf, if_pos hf, cond_true, Option.bind_some]
    · simp only [a1, a2, Bool.not_false, cond_true, Option.bind_some]
  rw [if_neg k2]
  by_cases k3 : s.Kind = 3
  · rw [if_pos k3]
    simp only [beq_f k1, beq_f k2, beq_t k3, cond_true, cond_false, Option.bind_some]
    rcases idx_inB c.Line s.K with ⟨a1, h, a2⟩ | ⟨a1, a2⟩
    · obtain ⟨b1, b2, _⟩ := idx_some.1 a2
      obtain ⟨x, hx, _⟩ := g.ln h (List.mem_of_getElem? (idx_some.1 a2).2.2)
      simp only [a1, a2, Bool.not_true, cond_false, Option.bind_some]
      rw [w64 (x := s.K + 1) (by omega), (delF a2 (by omega)).1]
      simp only [Option.bind_some]
      rw [iTakeF (c := ⟨c.Now, c.Cases, c.Line.take s.K.toNat ++ c.Line.drop (s.K.toNat + 1)⟩) hx]
      simp only [Option.bind_some, hx]
    · simp only [a1, a2, Bool.not_false, cond_true, Option.bind_some]
  rw [if_neg k3]
  by_cases k4 : s.Kind = 4
  · rw [if_pos k4]
    simp only [beq_f k1, beq_f k2, beq_f k3, beq_t k4, cond_true, cond_false, Option.bind_some]
    rcases idx_inB c.Line s.K with ⟨a1, h, a2⟩ | ⟨a1, a2⟩
    · obtain ⟨b1, b2, _⟩ := idx_some.1 a2
      simp only [a1, a2, Bool.not_true, cond_false, Option.bind_some]
      rw [w64 (x := s.K + 1) (by omega), (delF a2 (by omega)).1]
      simp only [Option.bind_some]
    · simp only [a1, a2, Bool.not_false, cond_true, Option.bind_some]
  rw [if_neg k4]
  by_cases k5 : s.Kind = 5
  · rw [if_pos k5]
    simp only [beq_f k1, beq_f k2, beq_f k3, beq_f k4, beq_t k5, cond_true, cond_false, Option.bind_some]
    rcases idx_inB c.Line s.K with ⟨a1, h, a2⟩ | ⟨a1, a2⟩
    · simp only [a1, a2, Bool.not_true, cond_false, Option.bind_some]
      by_cases hl : c.Line.length = 30
      · rw [beq_t (show (c.Line.length : Int) = 30 by omega), if_pos hl]; rfl
      · rw [beq_f (show (c.Line.length : Int) ≠ 30 by omega), if_neg hl, cond_false, app_of (by simp <;> omega) (by omega)]; rfl
    · simp only [a1, a2, Bool.not_false, cond_true, Option.bind_some]
  rw [if_neg k5]
  by_cases k6 : s.Kind = 6
  · rw [if_pos k6]
    simp only [beq_f k1, beq_f k2, beq_f k3, beq_f k4, beq_f k5, beq_t k6, cond_true, cond_false, Option.bind_some]
    by_cases hk : s.K = 0
    · rw [bne_f hk, cond_false, Option.bind_some]
      by_cases hn : c.Now = 200
      · rw [beq_t hn, if_pos (.inr hn)]; rfl
      · rw [beq_f hn, if_neg (by rintro (h | h); exact h hk; exact hn h), cond_false]
        have : impl_Court_tick c = some (tickF c) := by
          unfold impl_Court_tick
          have := g.now
          rw [tick_go (by omega) (by omega) rfl, Option.bind_some, w64 (by omega)]; rfl
        rw [this]; rfl
    · rw [bne_t hk, if_pos (.inl hk)]; rfl
  rw [if_neg k6]
  simp only [beq_f k1, beq_f k2, beq_f k3, beq_f k4, beq_f k5, beq_f k6, cond_false, Option.bind_some]
theorem sStep {c : Court} (g : GC c) (s : CourtStep) : spec_l16Step c s = some ((stepF c s).2, (stepF c s).1) := by
  have hnc := g.nc; have hnl := g.nl
  have out : ∀ {α : Type} (l : List α), (s.K < 0 ∨ ¬ s.K < 0 ∧ (l.length : Int) ≤ s.K) ∧ idx l s.K = none ∨ (¬ s.K < 0 ∧ ¬ (l.length : Int) ≤ s.K) ∧ ∃ x, idx l s.K = some x := fun l => by
    rcases idx_inB l s.K with ⟨a1, a2⟩ | ⟨a1, a2⟩
    · rw [inB_iff] at a1; exact .inr ⟨⟨by omega, by omega⟩, a2⟩
    · refine .inl ⟨?_, a2⟩
      by_cases h : s.K < 0
      · exact .inl h
      · refine .inr ⟨h, ?_⟩
        have : ¬ (inB s.K 0 ((l.length : Int) - 1) = true) := by simp [a1]
        rw [inB_iff] at this; omega
  unfold spec_l16Step stepF
  by_cases k6 : s.Kind = 6
  · rw [if_neg (by omega), if_neg (by omega), if_neg (by omega), if_neg (by omega), if_neg (by omega), if_pos k6, beq_t k6, cond_true]
    by_cases hk : s.K = 0
    · rw [bne_f hk, cond_false, Option.bind_some]
      by_cases hn : c.Now = 200
      · rw [beq_t hn, if_pos (.inr hn)]; rfl
      · have := g.now
        rw [beq_f hn, if_neg (by rintro (h | h); exact h hk; exact hn h), cond_false, tick_go (f := spec_l16Step_l0 c) (by omega) (by omega) rfl, Option.bind_some, w64 (by omega)]; rfl
    · rw [bne_t hk, if_pos (.inl hk)]; rfl
  simp only [beq_f k6, cond_false]
  by_cases k1 : s.Kind = 1
  · rw [if_pos k1]
    simp only [beq_t k1, beq_f (show s.Kind ≠ 2 by omega), cond_true, cond_false, Option.bind_some]
    rcases out c.Cases with ⟨a1, a2⟩ | ⟨⟨a1, a1'⟩, x, a2⟩
    · rcases a1 with a1 | ⟨a1, a1'⟩
      · rw [dec_t a1]; simp only [a2, cond_true, Option.bind_some]
      · rw [dec_f a1, dec_t a1']; simp only [a2, cond_true, cond_false, Option.bind_some]
    · rw [dec_f a1, dec_f a1']
      simp only [a2, cond_false, Option.bind_some]
      by_cases hf : x.Final = 0
      · simp only [bne_f hf, if_neg (show ¬ x.Final ≠ 0 from fun h => h hf), cond_false, Option.bind_some]
        cases x.Asks <;> simp only [cond_true, cond_false, Option.bind_some, sWrite, Bool.false_eq_true, if_true, if_false]
      · simp only [bne_t hf, if_pos hf, cond_true, Option.bind_some]
  rw [if_neg k1]
  by_cases k2 : s.Kind = 2
  · rw [if_pos k2]
    simp only [beq_f k1, beq_t k2, cond_true, cond_false, Option.bind_some]
    rcases out c.Cases with ⟨a1, a2⟩ | ⟨⟨a1, a1'⟩, x, a2⟩
    · rcases a1 with a1 | ⟨a1, a1'⟩
      · rw [dec_t a1]; simp only [a2, cond_true, Option.bind_some]
      · rw [dec_f a1, dec_t a1']; simp only [a2, cond_true, cond_false, Option.bind_some]
    · rw [dec_f a1, dec_f a1']
      simp only [a2, cond_false, Option.bind_some]
      by_cases hf : x.Final = 0
      · simp only [bne_f hf, if_neg (show ¬ x.Final ≠ 0 from fun h => h hf), cond_false, Option.bind_some]
        cases x.Asks <;> simp only [cond_true, cond_false, Bool.false_eq_true, if_true, if_false]
      · simp only [bne_t hf, if_pos hf, cond_true, Option.bind_some]
  rw [if_neg k2]
  simp only [beq_f k1, beq_f k2, cond_false, Option.bind_some, sIn]
  rcases out c.Line with ⟨a1, a2⟩ | ⟨⟨a1, a1'⟩, h, a2⟩
  · have e : (bif (decide (s.K < 0)) then some (true) else (bif (decide ((c.Line.length : Int) ≤ s.K)) then some (true) else some (!inB s.Kind 3 5))) = some true := by
      rcases a1 with a1 | ⟨a1, a1'⟩
      · rw [dec_t a1]; rfl
      · rw [dec_f a1, dec_t a1']; rfl
    rw [e, a2]
    simp only [cond_true, Option.bind_some]
    split
    · rfl
    · split
      · rfl
      · split
        · rfl
        · rfl
  · obtain ⟨b1, b2, _⟩ := idx_some.1 a2
    obtain ⟨d1, d2, d3⟩ := delF a2 (by omega)
    have o1 : app 24 ([] : List Slip) (c.Line.take s.K.toNat) = some (c.Line.take s.K.toNat) := by rw [app_of (by simp <;> omega) (by omega)]; rfl
    have o2 : app 24 (c.Line.take s.K.toNat) (c.Line.drop (s.K.toNat + 1)) = some (c.Line.take s.K.toNat ++ c.Line.drop (s.K.toNat + 1)) := app_of (by simp <;> omega) (by omega)
    rw [dec_f a1, dec_f a1']
    simp only [a2, cond_false, Option.bind_some]
    rw [w64 (x := s.K + 1) (by omega)]
    by_cases k3 : s.Kind = 3
    · obtain ⟨x, hx, _⟩ := g.ln h (List.mem_of_getElem? (idx_some.1 a2).2.2)
      rw [if_pos k3, k3]
      simp only [show inB 3 3 5 = true from by decide, Bool.not_true, cond_false, cond_true, beq_f (show (3 : Int) ≠ 5 by omega), beq_self_eq_true, d2, d3, o1, o2, Option.bind_some]
      rw [sTakeF (c := ⟨c.Now, c.Cases, c.Line.take s.K.toNat ++ c.Line.drop (s.K.toNat + 1)⟩) hx]
      simp only [Option.bind_some, hx]
    rw [if_neg k3]
    by_cases k4 : s.Kind = 4
    · rw [if_pos k4, k4]
      simp only [show inB 4 3 5 = true from by decide, Bool.not_true, cond_false, beq_f (show (4 : Int) ≠ 5 by omega), beq_f (show (4 : Int) ≠ 3 by omega), d2, d3, o1, o2, Option.bind_some]
    rw [if_neg k4]
    by_cases k5 : s.Kind = 5
    · rw [if_pos k5, k5]
      simp only [show inB 5 3 5 = true from by decide, Bool.not_true, cond_false, cond_true, beq_self_eq_true]
      by_cases hl : c.Line.length = 30
      · rw [beq_t (show (c.Line.length : Int) = 30 by omega), if_pos hl]; rfl
      · rw [beq_f (show (c.Line.length : Int) ≠ 30 by omega), if_neg hl, cond_false, sWrite, Option.bind_some]
        unfold goesF
        rw [if_pos (by omega)]
    rw [if_neg k5, if_neg k6]
    have : inB s.Kind 3 5 = false := by
      cases hb : inB s.Kind 3 5
      · rfl
      · rw [inB_iff] at hb; omega
    simp only [this, Bool.not_false, cond_true]
/-- What a step may do to a case. -/
structure CRel (x y : Case) : Prop where
  e : y.End = x.End
  s : x.Said ≠ 0 → y.Said = x.Said
  f : x.Final ≠ 0 → y.Final = x.Final
  a : x.Asks = true → y.Asks = true
theorem CRel.refl (x : Case) : CRel x x := ⟨rfl, fun _ => rfl, fun _ => rfl, id⟩
theorem CRel.trans {x y z : Case} (h : CRel x y) (k : CRel y z) : CRel x z :=
  ⟨k.e.trans h.e, fun hs => by rw [k.s (by rw [h.s hs]; exact hs), h.s hs], fun hf => by rw [k.f (by rw [h.f hf]; exact hf), h.f hf], fun ha => k.a (h.a ha)⟩
structure Mono (c d : List Case) : Prop where
  len : d.length = c.length
  rel : ∀ (k : Nat) (x : Case), c[k]? = some x → ∃ y, d[k]? = some y ∧ CRel x y
theorem Mono.refl (c : List Case) : Mono c c := ⟨rfl, fun _k x h => ⟨x, h, .refl x⟩⟩
theorem Mono.trans {a b c : List Case} (h : Mono a b) (k : Mono b c) : Mono a c :=
  ⟨k.len.trans h.len, fun i x hx => by
    obtain ⟨y, hy, r⟩ := h.rel i x hx
    obtain ⟨z, hz, q⟩ := k.rel i y hy
    exact ⟨z, hz, r.trans q⟩⟩
theorem SlipOK.mono {c d : List Case} (h : Mono c d) {s : Slip} (hs : SlipOK c s) : SlipOK d s := by
  obtain ⟨x, h1, h2⟩ := hs
  obtain ⟨a1, a2, a3⟩ := idx_some.1 h1
  obtain ⟨y, hy, r⟩ := h.rel _ x a3
  refine ⟨y, idx_some.2 ⟨a1, by rw [h.len]; exact a2, hy⟩, ?_⟩
  rcases h2 with ⟨b1, b2, b3⟩ | h2
  · exact .inl ⟨b1, b2, by rw [r.s (by omega)]; exact b3⟩
  · exact .inr h2
theorem mono_set {c : List Case} {i : Int} {x y : Case} (hx : idx c i = some x) (r : CRel x y) : Mono c (c.set i.toNat y) := by
  obtain ⟨a1, a2, a3⟩ := idx_some.1 hx
  refine ⟨by simp, fun k z hz => ?_⟩
  rw [List.getElem?_set]
  by_cases hk : i.toNat = k
  · subst hk
    rw [if_pos rfl, if_pos (by omega)]
    rw [a3] at hz
    simp only [Option.some.injEq] at hz
    subst hz
    exact ⟨y, rfl, r⟩
  · rw [if_neg hk]; exact ⟨z, hz, .refl z⟩
/-- Cases are put anew, and a line of the old slips and perhaps one more. -/
theorem GC.upd {c : Court} (g : GC c) {cs : List Case} {l : List Slip} {now : Int} (hn : 0 ≤ now ∧ now ≤ 200) (hm : Mono c.Cases cs) (hc : ∀ x ∈ cs, CaseOK now x) (hl : l.length ≤ 30) (hs : ∀ s ∈ l, s ∈ c.Line ∨ SlipOK cs s) : GC ⟨now, cs, l⟩ :=
  ⟨hn, by simp only; rw [hm.len]; exact g.nc, hl, hc, fun s h => by
    rcases hs s h with h | h
    · exact (g.ln s h).mono hm
    · exact h⟩
theorem goes_len {c : Court} (s : Slip) (h : c.Line.length ≤ 30) : (goesF c s).Line.length ≤ 30 := by
  unfold goesF
  split
  · simp; omega
  · exact h
theorem goes_mem {c : Court} {s t : Slip} (h : t ∈ (goesF c s).Line) : t ∈ c.Line ∨ t = s := by
  unfold goesF at h
  split at h
  · simpa using h
  · exact .inl h
theorem goes_eq {c : Court} (s : Slip) : goesF c s = ⟨c.Now, c.Cases, (goesF c s).Line⟩ := by
  unfold goesF
  split <;> rfl
theorem set_ok {now : Int} {cs : List Case} (h : ∀ x ∈ cs, CaseOK now x) {i : Nat} {y : Case} (hy : CaseOK now y) : ∀ x ∈ cs.set i y, CaseOK now x := fun x hx => by
  rcases List.mem_or_eq_of_mem_set hx with h' | rfl
  · exact h x h'
  · exact hy
theorem cut_mem {l : List Slip} {i : Nat} {s : Slip} (h : s ∈ l.take i ++ l.drop (i + 1)) : s ∈ l := by
  rcases List.mem_append.1 h with h | h
  · exact List.mem_of_mem_take h
  · exact List.mem_of_mem_drop h
theorem take_ok {c : Court} (g : GC c) {l : List Slip} (hl : l.length ≤ 30) (hm : ∀ s ∈ l, s ∈ c.Line) {s : Slip} {x : Case} (hx : idx c.Cases s.Case = some x)
    (hs : (s.Kind = 3 ∧ s.What ≠ 0 ∧ s.What = x.Said) ∨ ((s.Kind = 1 ∨ s.Kind = 2) ∧ s.What = 0)) : GC (takeF { c with Line := l } s x) ∧ Mono c.Cases (takeF { c with Line := l } s x).Cases ∧ (takeF { c with Line := l } s x).Now = c.Now := by
  have hxo := g.cs x (List.mem_of_getElem? (idx_some.1 hx).2.2)
  obtain ⟨p1, p2, p3, p4⟩ := hxo
  unfold takeF
  by_cases h3 : s.Kind = 3
  · rw [if_pos h3]
    rcases hs with ⟨_, b2, b3⟩ | ⟨b1, _⟩
    · have r : CRel x ⟨x.End, x.Asks, s.What, x.Said⟩ := ⟨rfl, fun _ => rfl, fun hf => by simp only; rcases p3 with p3 | p3; exact absurd p3 hf; omega, id⟩
      exact ⟨g.upd g.now (mono_set hx r) (set_ok g.cs ⟨p1, p2, .inr b3, p4⟩) hl (fun t ht => .inl (hm t ht)), mono_set hx r, rfl⟩
    · omega
  · rw [if_neg h3]
    have r : CRel x (takenF x s.Kind) := ⟨rfl, fun h => by simp only [takenF]; rw [if_neg h], fun _ => rfl, id⟩
    have hne : (takenF x s.Kind).Said ≠ 0 ∧ 0 ≤ (takenF x s.Kind).Said ∧ (takenF x s.Kind).Said ≤ 2 ∧ (x.Said ≠ 0 → (takenF x s.Kind).Said = x.Said) := by
      simp only [takenF]
      split
      · split <;> omega
      · omega
    have ok : CaseOK c.Now (takenF x s.Kind) := ⟨p1, ⟨hne.2.1, hne.2.2.1⟩, by
      by_cases h0 : x.Said = 0
      · left; simp only [takenF]; omega
      · rcases p3 with p3 | p3
        · exact .inl p3
        · right; rw [hne.2.2.2 h0]; exact p3, fun h => absurd h hne.1⟩
    have hm2 := mono_set hx r
    have hxs : idx (c.Cases.set s.Case.toNat (takenF x s.Kind)) s.Case = some (takenF x s.Kind) := by
      obtain ⟨a1, a2, _⟩ := idx_some.1 hx
      exact idx_some.2 ⟨a1, by simpa using a2, List.getElem?_set_self (by omega)⟩
    rw [goes_eq]
    refine ⟨g.upd g.now hm2 (set_ok g.cs ok) (goes_len _ hl) (fun t ht => ?_), hm2, rfl⟩
    rcases goes_mem ht with h | rfl
    · exact .inl (hm t h)
    · exact .inr ⟨_, hxs, .inl ⟨rfl, hne.1, rfl⟩⟩
theorem tick_ok {c : Court} (g : GC c) (hn : c.Now ≠ 200) : GC (tickF c) ∧ Mono c.Cases (tickF c).Cases := by
  have hnow := g.now
  have hm : Mono c.Cases (c.Cases.map (tickC (c.Now + 1))) := ⟨by simp, fun k x hx => by
    refine ⟨tickC (c.Now + 1) x, by simp [hx], ?_⟩
    unfold tickC
    split
    · rename_i h; exact ⟨rfl, fun h' => absurd h.1 h', fun _ => rfl, id⟩
    · exact .refl x⟩
  refine ⟨g.upd ⟨by omega, by omega⟩ hm (fun y hy => ?_) g.nl (fun t ht => .inl ht), hm⟩
  obtain ⟨x, hx, rfl⟩ := List.mem_map.1 hy
  obtain ⟨p1, p2, p3, p4⟩ := g.cs x hx
  unfold tickC
  split
  · rename_i h
    exact ⟨p1, by simp only; omega, by rcases p3 with p3 | p3; exact .inl p3; left; simp only; omega, fun h' => by simp at h'⟩
  · rename_i h
    exact ⟨p1, p2, p3, fun h0 => by have : ¬ x.End < c.Now + 1 := fun h' => h ⟨h0, h'⟩; omega⟩
theorem step_ok {c : Court} (g : GC c) (s : CourtStep) : GC (stepF c s).2 ∧ Mono c.Cases (stepF c s).2.Cases ∧ c.Now ≤ (stepF c s).2.Now := by
  have same : GC c ∧ Mono c.Cases c.Cases ∧ c.Now ≤ c.Now := ⟨g, .refl _, Int.le_refl _⟩
  have hcut : ∀ i : Nat, (c.Line.take i ++ c.Line.drop (i + 1)).length ≤ 30 := fun i => by have := g.nl; simp; omega
  unfold stepF
  split
  · split
    · rename_i x hx
      split
      · exact same
      · simp only
        rw [goes_eq]
        refine ⟨g.upd g.now (.refl _) g.cs (goes_len _ g.nl) (fun t ht => ?_), .refl _, Int.le_refl _⟩
        rcases goes_mem ht with h | rfl
        · exact .inl h
        · refine .inr ⟨x, hx, .inr ⟨?_, rfl⟩⟩
          simp only
          cases x.Asks <;> simp
    · exact same
  split
  · split
    · rename_i x hx
      split
      · exact same
      · split
        · exact same
        · obtain ⟨p1, p2, p3, p4⟩ := g.cs x (List.mem_of_getElem? (idx_some.1 hx).2.2)
          have r : CRel x ⟨x.End, true, x.Final, x.Said⟩ := ⟨rfl, fun _ => rfl, fun _ => rfl, fun _ => rfl⟩
          exact ⟨g.upd g.now (mono_set hx r) (set_ok g.cs ⟨p1, p2, p3, p4⟩) g.nl (fun t ht => .inl ht), mono_set hx r, Int.le_refl _⟩
    · exact same
  split
  · split
    · rename_i h hh
      obtain ⟨x, hx, hs⟩ := g.ln h (List.mem_of_getElem? (idx_some.1 hh).2.2)
      simp only [hx]
      obtain ⟨a1, a2, a3⟩ := take_ok g (hcut _) (fun t ht => cut_mem ht) hx hs
      exact ⟨a1, a2, by rw [a3]; exact Int.le_refl _⟩
    · exact same
  split
  · split
    · exact ⟨g.upd g.now (.refl _) g.cs (hcut _) (fun t ht => .inl (cut_mem ht)), .refl _, Int.le_refl _⟩
    · exact same
  split
  · split
    · rename_i h hh
      split
      · exact same
      · rename_i hl
        refine ⟨g.upd g.now (.refl _) g.cs (by have := g.nl; simp; omega) (fun t ht => ?_), .refl _, Int.le_refl _⟩
        rcases List.mem_append.1 ht with h' | h'
        · exact .inl h'
        · simp at h'; subst h'; exact .inl (List.mem_of_getElem? (idx_some.1 hh).2.2)
    · exact same
  split
  · split
    · exact same
    · rename_i h
      obtain ⟨a1, a2⟩ := tick_ok g (fun hn => h (.inr hn))
      exact ⟨a1, a2, by simp only [tickF]; omega⟩
  · exact same
/-- A step that is not done changes nothing. -/
theorem step_no {c : Court} (s : CourtStep) (h : (stepF c s).1 = false) : (stepF c s).2 = c := by
  unfold stepF at h ⊢
  repeat' split
  all_goals first | rfl | simp_all
def playF : Court → List CourtStep → Court × List Bool
  | c, [] => (c, [])
  | c, s :: l => ((playF (stepF c s).2 l).1, (stepF c s).1 :: (playF (stepF c s).2 l).2)
theorem play_ok : ∀ (l : List CourtStep) (c : Court), GC c → GC (playF c l).1 ∧ Mono c.Cases (playF c l).1.Cases ∧ (playF c l).2.length = l.length
  | [], c, g => ⟨g, .refl _, rfl⟩
  | s :: l, c, g => by
    obtain ⟨a1, a2, _⟩ := step_ok g s
    obtain ⟨b1, b2, b3⟩ := play_ok l _ a1
    exact ⟨b1, a2.trans b2, by simp [playF, b3]⟩
theorem own_gc {c : Court} (g : GC c) : spec_l16Own c = some c := own16 (by have := g.nc; omega) (by have := g.nl; omega)
theorem sPlayGo {L : List CourtStep} (hL : L.length ≤ 120) : ∀ (n k : Nat), k + n = L.length → ∀ (c : Court) (d : List Bool), GC c → d.length = k →
    whl (spec_PlayCourt_l0 L) (d, (k : Int), c.Now, c.Cases, c.Line) = some (d ++ (playF c (L.drop k)).2, (playF c (L.drop k)).1.Now, (playF c (L.drop k)).1.Cases, (playF c (L.drop k)).1.Line)
  | 0, k, hk, c, d, g, hd => by
    rw [whl_eq]
    simp only [spec_PlayCourt_l0]
    rw [dec_f (by omega), List.drop_eq_nil_of_le (by omega)]
    simp [playF]
  | n + 1, k, hk, c, d, g, hd => by
    have hlt : k < L.length := by omega
    rw [whl_eq]
    simp only [spec_PlayCourt_l0]
    rw [dec_t (by omega), idx_lt hlt]
    simp only [cond_true, Option.bind_some]
    rw [show (⟨c.Now, c.Cases, c.Line⟩ : Court) = c from rfl, own_gc g, Option.bind_some, sStep g]
    simp only [Option.bind_some]
    have e : (bif (stepF c L[k]).1 then some ((stepF c L[k]).2.Now, (stepF c L[k]).2.Cases, (stepF c L[k]).2.Line) else some (c.Now, c.Cases, c.Line)) = some ((stepF c L[k]).2.Now, (stepF c L[k]).2.Cases, (stepF c L[k]).2.Line) := by
      cases h : (stepF c L[k]).1
      · rw [step_no _ h]; rfl
      · rfl
    rw [e, Option.bind_some]
    simp only
    rw [app_of (by simp <;> omega) (by omega), Option.bind_some, w64 (by omega)]
    have := sPlayGo hL n (k + 1) (by omega) (stepF c L[k]).2 (d ++ [(stepF c L[k]).1]) (step_ok g _).1 (by simp [hd])
    rw [show ((k : Int) + 1) = ((k + 1 : Nat) : Int) by omega, Option.bind_some]
    dsimp only
    rw [this, List.drop_eq_getElem_cons hlt]
    simp [playF]
def playCF (e : List Int) (l : List CourtStep) : Court × List Bool × Bool :=
  if (newF e).2 = true ∧ l.length ≤ 120 then ((playF (newF e).1 l).1, (playF (newF e).1 l).2, true) else (⟨0, [], []⟩, [], false)
theorem new_gc {e : List Int} (h : (newF e).2 = true) : GC (newF e).1 := by
  unfold newF at h ⊢
  split at h
  · rename_i hc
    rw [if_pos hc]
    simp only [Bool.and_eq_true, decide_eq_true_eq, List.all_eq_true, inB_iff] at hc
    refine ⟨by simp, by simpa using hc.1, by simp, fun x hx => ?_, by simp⟩
    obtain ⟨y, hy, rfl⟩ := List.mem_map.1 hx
    have := hc.2 y hy
    exact ⟨this, by simp [caseOf], .inl rfl, fun _ => this.1⟩
  · simp at h
theorem sPlayC {e : List Int} {l : List CourtStep} (he : e.length ≤ 1048576) : spec_PlayCourt e l = some (playCF e l) := by
  unfold spec_PlayCourt playCF
  rw [sNewCourt he, Option.bind_some]
  simp only
  cases hn : (newF e).2
  · rw [if_neg (by simp)]; rfl
  · simp only [Bool.not_true, cond_false, Option.bind_some]
    by_cases hl : l.length ≤ 120
    · have g := new_gc hn
      have := sPlayGo hl l.length 0 (by omega) (newF e).1 [] g rfl
      simp only [List.drop_zero, List.nil_append] at this
      rw [dec_f (by omega), if_pos ⟨trivial, hl⟩, cond_false]
      rw [show ((0 : Nat) : Int) = 0 from rfl] at this
      rw [this, Option.bind_some]
      simp only
      rw [show (⟨(playF (newF e).1 l).1.Now, (playF (newF e).1 l).1.Cases, (playF (newF e).1 l).1.Line⟩ : Court) = (playF (newF e).1 l).1 from rfl, own_gc (play_ok l _ g).1]
      rfl
    · rw [dec_t (by omega), if_neg (fun h => hl h.2)]; rfl
structure Cur (c : L1Cur) (b : Int) : Prop where
  len : c.Code.length ≤ 1048576
  bytes : ∀ x ∈ c.Code, 0 ≤ x ∧ x ≤ 255
  lo : 0 ≤ c.At
  hi : c.At ≤ b
theorem Cur.mono {c : L1Cur} {b d : Int} (h : Cur c b) (hd : b ≤ d) : Cur c d := ⟨h.len, h.bytes, h.lo, by have := h.hi; omega⟩
theorem and255 (k : Int) : 0 ≤ andL .u64 k 255 ∧ andL .u64 k 255 ≤ 255 := by
  have h : (BitVec.ofInt IntKind.u64.bits k &&& BitVec.ofInt IntKind.u64.bits 255).toNat ≤ 255 := by
    rw [BitVec.toNat_and]
    exact Nat.and_le_right
  unfold andL
  rw [IntWalk.u64_in _ (by omega)]
  omega
theorem next_ok {c : L1Cur} {b : Int} (h : Cur c b) (hb : b ≤ 4611686018427387904) : ∃ x d, spec_l1Cur_next c = some (x, d) ∧ (0 ≤ x ∧ x ≤ 255) ∧ Cur d (b + 1) := by
  obtain ⟨h1, h2, h3, h4⟩ := h
  unfold spec_l1Cur_next
  rw [w64 (x := c.At + 1) (by omega)]
  have e : ∃ x5, (bif (decide (c.At < (c.Code.length : Int))) then (idx c.Code c.At).bind fun b10 => some ((IntKind.i64.wrap b10)) else some (0)) = some x5 ∧ 0 ≤ x5 ∧ x5 ≤ 255 := by
    by_cases hc : c.At < c.Code.length
    · rw [show decide (c.At < (c.Code.length : Int)) = true by simpa using hc]
      obtain ⟨n, hn⟩ := Int.eq_ofNat_of_zero_le h3
      rw [hn, idx_lt (show n < c.Code.length by omega)]
      have := h2 _ (List.getElem_mem (show n < c.Code.length by omega))
      simp only [cond_true, Option.bind_some]
      rw [w64 (by omega)]
      exact ⟨_, rfl, this⟩
    · rw [show decide (c.At < (c.Code.length : Int)) = false by simpa using hc]
      exact ⟨0, rfl, by omega, by omega⟩
  obtain ⟨x5, e1, e2⟩ := e
  rw [e1, Option.bind_some]
  cases decide (c.At + 1 ≤ (c.Code.length : Int))
  · refine ⟨_, _, rfl, ?_, ⟨h1, h2, by simp only; omega, by simp only; omega⟩⟩
    have := and255 (shrL .u64 (IntKind.u64.wrap ((IntKind.u64.wrap ((IntKind.u64.wrap (c.Seed * 6364136223846793005)) + (IntKind.u64.wrap x5))) + 1442695040888963407)) 40)
    rw [w64 (by omega)]
    exact this
  · exact ⟨_, _, rfl, e2, ⟨h1, h2, by simp only; omega, by simp only; omega⟩⟩
theorem md_ok {x n : Int} (hx : 0 ≤ x) (hn : 1 < n) : ∃ r, md x n = some r ∧ 0 ≤ r ∧ r < n := by
  unfold md
  rw [if_neg (by omega)]
  refine ⟨_, rfl, ?_, ?_⟩
  · rw [Int.tmod_eq_emod_of_nonneg hx]; exact Int.emod_nonneg _ (by omega)
  · rw [Int.tmod_eq_emod_of_nonneg hx]; exact Int.emod_lt_of_pos _ (by omega)
theorem pick_ok {c : L1Cur} {b n : Int} (h : Cur c b) (hb : b ≤ 4000000000000000000) : ∃ x d, spec_l1Cur_pick c n = some (x, d) ∧ (0 ≤ x ∧ (1 ≤ n → x < n)) ∧ Cur d (b + 2) := by
  unfold spec_l1Cur_pick
  by_cases hn : n ≤ 1
  · rw [show decide (n ≤ 1) = true by simpa using hn]
    exact ⟨0, c, rfl, ⟨by omega, by omega⟩, h.mono (by omega)⟩
  · rw [show decide (n ≤ 1) = false by simpa using hn]
    obtain ⟨x, d, e1, e2, e3⟩ := next_ok h (by omega)
    simp only [cond_false]
    rw [e1, Option.bind_some]
    cases decide (200 < n)
    · simp only [cond_false, Option.bind_some]
      obtain ⟨r, r1, r2, r3⟩ := md_ok (x := x) e2.1 (show 1 < n by omega)
      rw [r1]
      exact ⟨r, _, rfl, ⟨r2, fun _ => r3⟩, e3.mono (by omega)⟩
    · simp only [cond_true]
      obtain ⟨y, d', f1, f2, f3⟩ := next_ok e3 (by omega)
      rw [f1]
      simp only [Option.bind_some]
      rw [w64 (x := x * 256) (by omega), w64 (by omega)]
      obtain ⟨r, r1, r2, r3⟩ := md_ok (x := x * 256 + y) (by omega) (show 1 < n by omega)
      rw [r1]
      exact ⟨r, _, rfl, ⟨r2, fun _ => r3⟩, f3.mono (by omega)⟩
theorem one_ok {c : L1Cur} {b n : Int} (h : Cur c b) (hb : b ≤ 4000000000000000000) : ∃ x d, spec_l1Cur_one c n = some (x, d) ∧ Cur d (b + 2) := by
  obtain ⟨x, d, e1, _, e3⟩ := pick_ok (n := n) h hb
  unfold spec_l1Cur_one
  rw [e1]
  exact ⟨_, _, rfl, e3⟩
theorem among_ok {c : L1Cur} {b : Int} {l : List Int} (h : Cur c b) (hb : b ≤ 4000000000000000000) (hl : l ≠ []) : ∃ x d, spec_l1Cur_among c l = some (x, d) ∧ x ∈ l ∧ Cur d (b + 2) := by
  obtain ⟨x, d, e1, e2, e3⟩ := pick_ok (n := (l.length : Int)) h hb
  have hl' : 1 ≤ l.length := by cases l with | nil => exact absurd rfl hl | cons _ _ => simp
  unfold spec_l1Cur_among
  rw [e1]
  obtain ⟨n, rfl⟩ := Int.eq_ofNat_of_zero_le e2.1
  have hn : n < l.length := by have := e2.2 (by omega); omega
  simp only [Option.bind_some]
  rw [idx_lt hn]
  exact ⟨_, _, rfl, List.getElem_mem hn, e3⟩
theorem cur0 {l : List Int} (hl : l.length ≤ 1048576) (hb : ∀ x ∈ l, 0 ≤ x ∧ x ≤ 255) : Cur ⟨l, 0, 0⟩ 0 := ⟨hl, hb, by simp, by simp⟩
theorem ends_ok {c : L1Cur} (h : Cur c 0) : Tot (spec_l1Cur_ends c) fun r => r.1.length ≤ 10 ∧ Cur r.2 1000 := by
  unfold spec_l1Cur_ends
  obtain ⟨x, d, e1, e2, e3⟩ := pick_ok (n := 6) h (by omega)
  have e2' := e2.2 (by omega)
  rw [e1, Option.bind_some]
  simp only
  have key : Tot (whl spec_l1Cur_ends_l0 ([], x, d.Code, d.At, d.Seed)) fun y => y.1.length ≤ 6 ∧ Cur ⟨y.2.1, y.2.2.1, y.2.2.2⟩ 100 := by
    refine Tot.whl (fun x => x.2.1.toNat) (fun x => 0 ≤ x.2.1 ∧ (x.1.length : Int) + x.2.1 ≤ 6 ∧ Cur ⟨x.2.2.1, x.2.2.2.1, x.2.2.2.2⟩ (100 - 2 * x.2.1)) ?_ ⟨by simp only; omega, by simp only [List.length_nil]; omega, e3.mono (by simp only; omega)⟩
    rintro ⟨l, n, C, A, S⟩ ⟨i1, i3, i4⟩
    simp only at i1 i3 i4
    simp only [spec_l1Cur_ends_l0]
    by_cases hn : 0 < n
    · rw [dec_t hn]
      obtain ⟨y, d', f1, f2, f3⟩ := pick_ok (n := 8) i4 (by omega)
      simp only [cond_true, f1, Option.bind_some]
      rw [app_of (by simp <;> omega) (by omega), Option.bind_some, w64 (x := n - 1) (by omega)]
      exact ⟨_, rfl, ⟨by simp only; omega, by simp <;> omega, f3.mono (by simp only; omega)⟩, by simp only; omega⟩
    · rw [dec_f hn]
      exact ⟨_, rfl, by simp only; omega, i4.mono (by omega)⟩
  refine Tot.then key ?_
  rintro ⟨l, C, A, S⟩ ⟨k1, k3⟩
  simp only at k1 k3 ⊢
  by_cases hl : 0 < l.length
  · rw [dec_t (by omega)]
    obtain ⟨b, d2, g1, g2⟩ := one_ok (n := 30) k3 (by omega)
    simp only [cond_true, g1, Option.bind_some]
    cases b
    · exact ⟨_, rfl, by simp only; omega, g2.mono (by omega)⟩
    · obtain ⟨y, d3, m1, m2, m3⟩ := among_ok (l := [-1, 100, 101]) g2 (by omega) (by simp)
      simp only [cond_true, m1, Option.bind_some]
      rw [idx_in (by omega) (by omega), Option.bind_some]
      exact ⟨_, rfl, by simp <;> omega, m3.mono (by omega)⟩
  · rw [dec_f (by omega)]
    exact ⟨_, rfl, by simp only; omega, k3.mono (by omega)⟩
theorem sameC {c : Court} (h1 : c.Cases.length ≤ 1048576) (h2 : c.Line.length ≤ 1048576) : laws_sameCourts c c = some true := by
  unfold laws_sameCourts
  rw [eqS_go (l := c.Cases) (fun k hk => by
    simp only [laws_sameCourts_l0]
    rw [dec_t (by omega), idx_lt hk, w64 (by omega)]
    simp) (by simp [laws_sameCourts_l0]), eqS_go (l := c.Line) (fun k hk => by
    simp only [laws_sameCourts_l1]
    rw [dec_t (by omega), idx_lt hk, w64 (by omega)]
    simp) (by simp [laws_sameCourts_l1])]
  simp
theorem steps_ok2 {c : L1Cur} {B : Int} (h : Cur c B) (hB : B ≤ 1000000) : Tot (spec_l1Cur_courtSteps c) fun r => r.1.length ≤ 200 ∧ Cur r.2 (B + 10000) := by
  unfold spec_l1Cur_courtSteps
  obtain ⟨x, d, e1, e2, e3⟩ := pick_ok (n := 40) h (by omega)
  have e2' := e2.2 (by omega)
  rw [e1, Option.bind_some]
  simp only
  obtain ⟨b, d2, g1, g2⟩ := one_ok (n := 12) e3 (by omega)
  rw [g1, Option.bind_some]
  simp only
  have start : ∃ (n : Int) (e : L1Cur), 0 ≤ n ∧ n ≤ 121 ∧ Cur e (B + 1000) ∧ (bif b then (spec_l1Cur_pick d2 3).bind fun (b21, b22) => some ((IntKind.i64.wrap (119 + b21)), b22.Code, b22.At, b22.Seed) else some (x, d2.Code, d2.At, d2.Seed)) = some (n, e.Code, e.At, e.Seed) := by
    cases b
    · exact ⟨x, d2, by omega, by omega, g2.mono (by omega), rfl⟩
    · obtain ⟨y, d3, m1, m2, m3⟩ := pick_ok (n := 3) g2 (by omega)
      have := m2.2 (by omega)
      refine ⟨119 + y, d3, by omega, by omega, m3.mono (by omega), ?_⟩
      rw [cond_true, m1, Option.bind_some]
      simp only
      rw [w64 (by omega)]
  obtain ⟨n, e, n0, n1, ce, e4⟩ := start
  rw [e4, Option.bind_some]
  simp only
  have key : Tot (whl spec_l1Cur_courtSteps_l0 ([], n, e.Code, e.At, e.Seed)) fun y => y.1.length ≤ 121 ∧ Cur ⟨y.2.1, y.2.2.1, y.2.2.2⟩ (B + 5000) := by
    refine Tot.whl (fun x => x.2.1.toNat) (fun x => 0 ≤ x.2.1 ∧ (x.1.length : Int) + x.2.1 ≤ 121 ∧ Cur ⟨x.2.2.1, x.2.2.2.1, x.2.2.2.2⟩ (B + 5000 - 10 * x.2.1)) ?_ ⟨n0, by simp only [List.length_nil]; omega, ce.mono (by simp only; omega)⟩
    rintro ⟨l, n, C, A, S⟩ ⟨i1, i3, i4⟩
    simp only at i1 i3 i4
    simp only [spec_l1Cur_courtSteps_l0]
    by_cases hn : 0 < n
    · rw [dec_t hn]
      obtain ⟨y, d', f1, f2, f3⟩ := among_ok (l := [1, 1, 1, 2, 3, 3, 3, 3, 4, 5, 6]) i4 (by omega) (by simp)
      simp only [cond_true, f1, Option.bind_some]
      have h2 : ∃ (e : L1Cur) (z : Int), Cur e (B + 5000 - 10 * n + 6) ∧ (bif (y != 6) then (spec_l1Cur_pick d' 4).bind fun (b67, b68) => some (b68.Code, b68.At, b68.Seed, b67) else some (d'.Code, d'.At, d'.Seed, 0)) = some (e.Code, e.At, e.Seed, z) := by
        cases y != 6
        · exact ⟨d', 0, f3.mono (by omega), rfl⟩
        · obtain ⟨z, e, m1, m2, m3⟩ := pick_ok (n := 4) f3 (by omega)
          refine ⟨e, z, m3.mono (by omega), ?_⟩
          rw [cond_true, m1]; rfl
      obtain ⟨e', z, v1, v2⟩ := h2
      rw [v2, Option.bind_some]
      simp only
      rw [app_of (by simp <;> omega) (by omega), Option.bind_some, w64 (x := n - 1) (by omega)]
      exact ⟨_, rfl, ⟨by simp only; omega, by simp <;> omega, v1.mono (by simp only; omega)⟩, by simp only; omega⟩
    · rw [dec_f hn]
      exact ⟨_, rfl, by simp only; omega, i4.mono (by omega)⟩
  refine Tot.then key ?_
  rintro ⟨l, C, A, S⟩ ⟨k1, k3⟩
  simp only at k1 k3 ⊢
  by_cases hl : 0 < l.length
  · rw [dec_t (by omega)]
    obtain ⟨b', d4, o1, o2⟩ := one_ok (n := 20) k3 (by omega)
    simp only [cond_true, o1, Option.bind_some]
    cases b'
    · exact ⟨_, rfl, by simp only; omega, o2.mono (by omega)⟩
    · obtain ⟨y, d5, m1, m2, m3⟩ := pick_ok (n := 8) o2 (by omega)
      obtain ⟨z, d6, q1, q2, q3⟩ := pick_ok (n := 4) m3 (by omega)
      simp only [cond_true, m1, q1, Option.bind_some]
      rw [idx_in (by omega) (by omega), Option.bind_some]
      exact ⟨_, rfl, by simp <;> omega, q3.mono (by omega)⟩
  · rw [dec_f (by omega)]
    exact ⟨_, rfl, by simp only; omega, k3.mono (by omega)⟩
theorem play_len (e : List Int) (l : List CourtStep) : (playCF e l).1.Cases.length ≤ 6 ∧ (playCF e l).1.Line.length ≤ 30 := by
  unfold playCF
  split
  · rename_i h
    obtain ⟨a1, _, _⟩ := play_ok l _ (new_gc h.1)
    exact ⟨a1.nc, a1.nl⟩
  · simp
theorem court_ok {c : L1Cur} (h : Cur c 0) : Tot (spec_l1Cur_court c) fun r => r.1.Cases.length ≤ 6 ∧ r.1.Line.length ≤ 31 ∧ Cur r.2 100000 := by
  unfold spec_l1Cur_court
  refine Tot.then (ends_ok h) ?_
  rintro ⟨e, d⟩ ⟨h1, h2⟩
  simp only at h1 h2 ⊢
  refine Tot.then (steps_ok2 h2 (by omega)) ?_
  rintro ⟨l, d'⟩ ⟨h3, h4⟩
  simp only at h3 h4 ⊢
  rw [sPlayC (by omega), Option.bind_some]
  have s3 : spec_NewCourt [3] = some (⟨0, [caseOf 3], []⟩, true) := by rw [sNewCourt (by simp)]; rfl
  have start : ∃ x : Court, x.Cases.length ≤ 6 ∧ x.Line.length ≤ 30 ∧ (bif (!(playCF e l).2.2) then (spec_NewCourt ([3] : List Int)).bind fun (b46, _b47) => some (b46.Now, b46.Cases, b46.Line) else some ((playCF e l).1.Now, (playCF e l).1.Cases, (playCF e l).1.Line)) = some (x.Now, x.Cases, x.Line) := by
    obtain ⟨a1, a2⟩ := play_len e l
    cases (playCF e l).2.2
    · rw [s3]; exact ⟨⟨0, [caseOf 3], []⟩, by simp, by simp, rfl⟩
    · exact ⟨_, a1, a2, rfl⟩
  obtain ⟨x, x1, x2, x3⟩ := start
  rw [x3, Option.bind_some]
  simp only
  obtain ⟨p, d2, p1, p2, p3⟩ := pick_ok (n := 30) h4 (by omega)
  rw [p1, Option.bind_some]
  simp only
  cases p == 0
  · cases p == 1
    · cases p == 2
      · exact ⟨_, rfl, x1, by simp only; omega, p3.mono (by omega)⟩
      · obtain ⟨y, d3, m1, m2, m3⟩ := pick_ok (n := 5) p3 (by omega)
        obtain ⟨z, d4, n1, n2, n3⟩ := pick_ok (n := 3) m3 (by omega)
        obtain ⟨w, d5, o1, o2, o3⟩ := pick_ok (n := 3) n3 (by omega)
        simp only [cond_true, cond_false, m1, n1, o1, Option.bind_some]
        rw [app_of (by simp <;> omega) (by omega), Option.bind_some]
        exact ⟨_, rfl, x1, by simp <;> omega, o3.mono (by omega)⟩
    · by_cases hl : 0 < x.Cases.length
      · obtain ⟨y, d3, m1, m2, m3⟩ := pick_ok (n := 4) p3 (by omega)
        rw [dec_t (by omega)]
        simp only [cond_true, cond_false, m1, Option.bind_some]
        rw [idx_in (by omega) (by omega), Option.bind_some]
        exact ⟨_, rfl, by simpa using x1, by simp only; omega, m3.mono (by omega)⟩
      · rw [dec_f (by omega)]
        exact ⟨_, rfl, x1, by simp only; omega, p3.mono (by omega)⟩
  · obtain ⟨y, d3, m1, m2, m3⟩ := among_ok (l := [-1, 200, 201]) p3 (by omega) (by simp)
    simp only [cond_true, m1, Option.bind_some]
    exact ⟨_, rfl, x1, by simp only; omega, m3.mono (by omega)⟩
theorem drawStep {l : List Int} (hl : l.length ≤ 1048576) (hb : ∀ x ∈ l, 0 ≤ x ∧ x ≤ 255) : Tot (spec_DrawStepCourt l) fun r => r.1.Cases.length ≤ 6 ∧ r.1.Line.length ≤ 31 := by
  unfold spec_DrawStepCourt
  refine Tot.then (court_ok (cur0 hl hb)) ?_
  rintro ⟨c, d⟩ ⟨h1, h2, h3⟩
  simp only at h1 h2 h3 ⊢
  refine Tot.then (steps_ok2 h3 (by omega)) ?_
  rintro ⟨s, d'⟩ ⟨h4, h5⟩
  simp only at h4 h5 ⊢
  by_cases h0 : s.length = 0
  · rw [beq_t (show (s.length : Int) = 0 by omega)]
    exact ⟨_, rfl, h1, h2⟩
  · rw [beq_f (show (s.length : Int) ≠ 0 by omega), cond_false, idx_in (by omega) (by omega)]
    exact ⟨_, rfl, h1, h2⟩
theorem drawSettle {l : List Int} (hl : l.length ≤ 1048576) (hb : ∀ x ∈ l, 0 ≤ x ∧ x ≤ 255) : Tot (spec_DrawSettleCourt l) fun r => r.Cases.length ≤ 6 ∧ r.Line.length ≤ 31 := by
  unfold spec_DrawSettleCourt spec_DrawGoodCourt
  refine Tot.bind (Tot.then (court_ok (cur0 hl hb)) ?_)
  rintro ⟨c, d⟩ ⟨h1, h2, h3⟩
  exact ⟨_, rfl, _, rfl, h1, h2⟩
theorem drawNewC {l : List Int} (hl : l.length ≤ 1048576) (hb : ∀ x ∈ l, 0 ≤ x ∧ x ≤ 255) : Tot (spec_DrawNewCourt l) fun r => r.length ≤ 10 := by
  unfold spec_DrawNewCourt
  have hc := cur0 hl hb
  obtain ⟨b, d, g1, g2⟩ := one_ok (n := 20) hc (by omega)
  rw [g1, Option.bind_some]
  simp only
  cases b
  · have : Tot (spec_l1Cur_ends d) fun r => r.1.length ≤ 10 := by
      unfold spec_l1Cur_ends
      obtain ⟨x, d, e1, e2, e3⟩ := pick_ok (n := 6) g2 (by omega)
      have e2' := e2.2 (by omega)
      rw [e1, Option.bind_some]
      simp only
      have key : Tot (whl spec_l1Cur_ends_l0 ([], x, d.Code, d.At, d.Seed)) fun y => y.1.length ≤ 6 ∧ Cur ⟨y.2.1, y.2.2.1, y.2.2.2⟩ 100 := by
        refine Tot.whl (fun x => x.2.1.toNat) (fun x => 0 ≤ x.2.1 ∧ (x.1.length : Int) + x.2.1 ≤ 6 ∧ Cur ⟨x.2.2.1, x.2.2.2.1, x.2.2.2.2⟩ (100 - 2 * x.2.1)) ?_ ⟨by simp only; omega, by simp only [List.length_nil]; omega, e3.mono (by simp only; omega)⟩
        rintro ⟨l, n, C, A, S⟩ ⟨i1, i3, i4⟩
        simp only at i1 i3 i4
        simp only [spec_l1Cur_ends_l0]
        by_cases hn : 0 < n
        · rw [dec_t hn]
          obtain ⟨y, d', f1, f2, f3⟩ := pick_ok (n := 8) i4 (by omega)
          simp only [cond_true, f1, Option.bind_some]
          rw [app_of (by simp <;> omega) (by omega), Option.bind_some, w64 (x := n - 1) (by omega)]
          exact ⟨_, rfl, ⟨by simp only; omega, by simp <;> omega, f3.mono (by simp only; omega)⟩, by simp only; omega⟩
        · rw [dec_f hn]
          exact ⟨_, rfl, by simp only; omega, i4.mono (by omega)⟩
      refine Tot.then key ?_
      rintro ⟨l, C, A, S⟩ ⟨k1, k3⟩
      simp only at k1 k3 ⊢
      by_cases hl : 0 < l.length
      · rw [dec_t (by omega)]
        obtain ⟨b, d2, g1, g2⟩ := one_ok (n := 30) k3 (by omega)
        simp only [cond_true, g1, Option.bind_some]
        cases b
        · exact ⟨_, rfl, by simp only; omega⟩
        · obtain ⟨y, d3, m1, m2, m3⟩ := among_ok (l := [-1, 100, 101]) g2 (by omega) (by simp)
          simp only [cond_true, m1, Option.bind_some]
          rw [idx_in (by omega) (by omega), Option.bind_some]
          exact ⟨_, rfl, by simp <;> omega⟩
      · rw [dec_f (by omega)]
        exact ⟨_, rfl, by simp only; omega⟩
    refine Tot.then this ?_
    rintro ⟨e, d'⟩ he
    exact ⟨_, rfl, he⟩
  · obtain ⟨y, d3, m1, m2, m3⟩ := pick_ok (n := 3) g2 (by omega)
    have := m2.2 (by omega)
    obtain ⟨k, rfl⟩ := Int.eq_ofNat_of_zero_le m2.1
    rw [cond_true, m1, Option.bind_some]
    simp only
    rw [w64 (by omega), show (5 : Int) + (k : Int) = ((5 + k : Nat) : Int) by omega, mkL_of (by omega) (by omega)]
    exact ⟨_, rfl, by simp <;> omega⟩
def stepCF (c : Court) (s : CourtStep) : Court × Bool := if courtB c = true ∧ (stepF c s).1 = true then ((stepF c s).2, true) else (⟨0, [], []⟩, false)
theorem iStepC {c : Court} (h1 : c.Cases.length ≤ 1048576) (h2 : c.Line.length ≤ 1048576) (s : CourtStep) : impl_StepCourt c s = some (stepCF c s) := by
  unfold impl_StepCourt stepCF
  rw [copy16 h1 h2, Option.bind_some, iGoodCourt h1 h2, Option.bind_some]
  cases hg : courtB c
  · rw [if_neg (by simp)]; rfl
  · have g := courtB_iff.1 hg
    simp only [Bool.not_true, cond_false, iStep g, Option.bind_some]
    cases ho : (stepF c s).1
    · rw [if_neg (by simp)]; rfl
    · rw [if_pos ⟨trivial, rfl⟩]; rfl
theorem sStepC {c : Court} (h1 : c.Cases.length ≤ 1048576) (h2 : c.Line.length ≤ 1048576) (s : CourtStep) : spec_StepCourt c s = some (stepCF c s) := by
  unfold spec_StepCourt stepCF
  rw [sGoodCourt h1 h2, Option.bind_some]
  cases hg : courtB c
  · rw [if_neg (by simp)]; rfl
  · have g := courtB_iff.1 hg
    simp only [Bool.not_true, cond_false, own_gc g, sStep g, Option.bind_some]
    cases ho : (stepF c s).1
    · rw [if_neg (by simp)]; rfl
    · rw [if_pos ⟨trivial, rfl⟩]
      simp only [Bool.not_true, cond_false, own_gc (step_ok g s).1, Option.bind_some]
theorem stepCF_len {c : Court} (s : CourtStep) : (stepCF c s).1.Cases.length ≤ 1048576 ∧ (stepCF c s).1.Line.length ≤ 1048576 := by
  unfold stepCF
  split
  · rename_i h
    have g := (step_ok (courtB_iff.1 h.1) s).1
    have := g.nc; have := g.nl
    exact ⟨by simp only; omega, by simp only; omega⟩
  · simp
theorem sAgrees {c : Court} (h1 : c.Cases.length ≤ 1048576) (h2 : c.Line.length ≤ 1048576) : spec_AgreesIn c = some (if courtB c then (true, true) else (false, false)) := by
  unfold spec_AgreesIn
  rw [sGoodCourt h1 h2, Option.bind_some]
  cases hg : courtB c
  · rfl
  have g := courtB_iff.1 hg
  have key : whl (spec_AgreesIn_l0 c) 0 = some (.next ()) := by
    refine whl_to (fun i : Int => c.Cases.length - i.toNat) (fun i => 0 ≤ i ∧ i ≤ c.Cases.length) _ ?_ _ ⟨by omega, by omega⟩
    rintro i ⟨i0, i1⟩
    simp only [spec_AgreesIn_l0]
    by_cases hi : i < c.Cases.length
    · rw [dec_t hi, idx_in i0 hi]
      obtain ⟨_, _, p3, _⟩ := g.cs _ (List.getElem_mem (l := c.Cases) (n := i.toNat) (by omega))
      generalize c.Cases[i.toNat] = x at p3
      have e : (bif (x.Final != 0) then some ((x.Final != x.Said)) else some (false)) = some false := by
        by_cases h : x.Final = 0
        · rw [bne_f h]; rfl
        · rw [bne_t h, cond_true, bne_f (by rcases p3 with p3 | p3; exact absurd p3 h; exact p3)]
      simp only [cond_true, Option.bind_some, e]
      rw [w64 (by omega)]
      exact ⟨_, rfl, ⟨by omega, by omega⟩, by omega⟩
    · rw [dec_f hi]
      exact ⟨_, rfl, rfl⟩
  simp only [Bool.not_true, cond_false, key, Option.bind_some, if_true]
theorem iAgrees {c : Court} (h1 : c.Cases.length ≤ 1048576) (h2 : c.Line.length ≤ 1048576) : impl_AgreesIn c = some (if courtB c then (true, true) else (false, false)) := by
  unfold impl_AgreesIn
  rw [iGoodCourt h1 h2, Option.bind_some]
  cases courtB c <;> rfl
def setF (c : Court) : Bool × Bool := if courtB c then (decide (opF c.Cases < 0), true) else (false, false)
theorem iSetF {c : Court} (h1 : c.Cases.length ≤ 1048576) (h2 : c.Line.length ≤ 1048576) : impl_IsSettled c = some (setF c) := by
  unfold impl_IsSettled setF
  rw [iGoodCourt h1 h2, Option.bind_some, iUnsettled h1]
  cases courtB c <;> rfl
theorem sSetF {c : Court} (h1 : c.Cases.length ≤ 1048576) (h2 : c.Line.length ≤ 1048576) : spec_IsSettled c = some (setF c) := by
  unfold spec_IsSettled setF
  rw [sGoodCourt h1 h2, Option.bind_some, sOpen h1]
  cases courtB c <;> rfl
theorem courts_l0 {c x : Court} (hl : c.Cases.length ≤ 6) (hm : Mono c.Cases x.Cases) : whl (laws_FnCourts_l0 c x) 0 = some (.next ()) := by
  refine whl_to (fun i : Int => c.Cases.length - i.toNat) (fun i => 0 ≤ i ∧ i ≤ c.Cases.length) _ ?_ _ ⟨by omega, by omega⟩
  rintro i ⟨i0, i1⟩
  simp only [laws_FnCourts_l0]
  by_cases hi : i < c.Cases.length
  · have hx := idx_in i0 hi
    obtain ⟨a1, a2, a3⟩ := idx_some.1 hx
    obtain ⟨y, hy, r⟩ := hm.rel _ _ a3
    have hyi : idx x.Cases i = some y := idx_some.2 ⟨i0, by rw [hm.len]; exact hi, hy⟩
    rw [dec_t hi, hx, hyi]
    generalize c.Cases[i.toNat] = z at r
    have e : (bif z.Asks then some ((!y.Asks)) else some (false)) = some false := by
      cases ha : z.Asks
      · rfl
      · rw [r.a ha]; rfl
    simp only [cond_true, Option.bind_some, bne_f r.e, cond_false, e]
    rw [w64 (by omega)]
    by_cases h : z.Said = 0
    · rw [bne_f h]
      exact ⟨_, rfl, ⟨by omega, by omega⟩, by omega⟩
    · rw [bne_t h, bne_f (r.s h)]
      exact ⟨_, rfl, ⟨by omega, by omega⟩, by omega⟩
  · rw [dec_f hi]
    exact ⟨_, rfl, rfl⟩
theorem newF_len (e : List Int) : (newF e).1.Cases.length ≤ 6 ∧ (newF e).1.Line.length ≤ 30 := by
  unfold newF
  split
  · rename_i h
    simp only [Bool.and_eq_true, decide_eq_true_eq] at h
    exact ⟨by simpa using h.1, by simp⟩
  · simp
theorem pureCourts (a b : List Int) (ha : a.length < 2 ^ 47) (hb : b.length < 2 ^ 47) (ba : ∀ x ∈ a, 0 ≤ x ∧ x ≤ 255) (bb : ∀ x ∈ b, 0 ≤ x ∧ x ≤ 255) : laws_FnCourts a b = some true := by
  unfold laws_FnCourts
  rw [w64 (by omega)]
  by_cases hz : 1048576 < (a.length : Int) + b.length
  · rw [dec_t hz]; rfl
  rw [dec_f hz]
  obtain ⟨⟨c, s⟩, e1, h1, h2⟩ := drawStep (l := a) (by omega) ba
  simp only at h1 h2
  obtain ⟨y, e2, h3, h4⟩ := drawSettle (l := b) (by omega) bb
  obtain ⟨e, e3, h5⟩ := drawNewC (l := b) (by omega) bb
  obtain ⟨r, r1, r2, r3, r4⟩ := settleB (c := y) (by omega) (by omega)
  obtain ⟨l1, l2⟩ := stepCF_len (c := c) s
  obtain ⟨n1, n2⟩ := newF_len e
  rw [cond_false, e1, Option.bind_some]
  simp only
  rw [iStepC (by omega) (by omega), sStepC (by omega) (by omega), Option.bind_some, Option.bind_some]
  simp only [beq_self_eq_true, Bool.not_true, cond_false]
  rw [sameC l1 l2, Option.bind_some]
  simp only [Bool.not_true, cond_false]
  rw [iGoodCourt (c := c) (by omega) (by omega), sGoodCourt (c := c) (by omega) (by omega), Option.bind_some, Option.bind_some]
  simp only [beq_self_eq_true, Bool.not_true, cond_false, Option.bind_some]
  by_cases hok : courtB c = true ∧ (stepF c s).1 = true
  · have ep : stepCF c s = ((stepF c s).2, true) := by unfold stepCF; rw [if_pos hok]
    rw [ep]
    obtain ⟨g, hm, hn⟩ := step_ok (courtB_iff.1 hok.1) s
    have := g.nc; have := g.nl
    simp only [cond_true]
    rw [iGoodCourt (by omega) (by omega), Option.bind_some, courtB_iff.2 g, dec_f (by omega), bne_f (by rw [hm.len])]
    simp only [Bool.not_true, cond_false, Option.bind_some]
    rw [courts_l0 (by omega) hm]
    simp only [Option.bind_some]
    rw [e2, Option.bind_some, r1, r2, Option.bind_some, Option.bind_some, iSetF (by omega) (by omega), sSetF (by omega) (by omega), Option.bind_some, Option.bind_some, iAgrees (by omega) (by omega), sAgrees (by omega) (by omega), Option.bind_some, Option.bind_some, e3, Option.bind_some, iNewCourt (by omega), sNewCourt (by omega), Option.bind_some, Option.bind_some]
    simp only [beq_self_eq_true, cond_true, sameC r3 r4, Option.bind_some]
    rw [sameC (by omega) (by omega)]
    rfl
  · have ep : stepCF c s = (⟨0, [], []⟩, false) := by unfold stepCF; rw [if_neg hok]
    rw [ep]
    simp only [cond_false, Option.bind_some]
    rw [e2, Option.bind_some, r1, r2, Option.bind_some, Option.bind_some, iSetF (by omega) (by omega), sSetF (by omega) (by omega), Option.bind_some, Option.bind_some, iAgrees (by omega) (by omega), sAgrees (by omega) (by omega), Option.bind_some, Option.bind_some, e3, Option.bind_some, iNewCourt (by omega), sNewCourt (by omega), Option.bind_some, Option.bind_some]
    simp only [beq_self_eq_true, cond_true, sameC r3 r4, Option.bind_some]
    rw [sameC (by omega) (by omega)]
    rfl
end Go.VxW
