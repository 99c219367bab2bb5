/-
  FnExactNewCourt: the law.
-/
import Derived.Test.YtdgiianbihfkoaaVpQ
open Go Go.VS
namespace Go.VxW
theorem sAll {l : List Int} (hl : l.length ≤ 1048576) (a b : Int) : spec_l1All l a b = some (l.all (inB · a b)) := by
  unfold spec_l1All
  rw [whl_lg l (spec_l1All_l0 l a b) (fun k (_ : Unit) => k) (fun _ x s => if inB x a b then .next s else .done (.done false)) (fun _ => .next ()) (fun k hk s => by
    simp only [spec_l1All_l0]
    rw [dec_t (by omega), idx_lt hk, w64 (by omega)]
    simp only [cond_true, Option.bind_some, sIn]
    cases inB l[k] a b <;> rfl) (fun s => by simp [spec_l1All_l0]) (), lgo_all _ _ (fun _ _ _ => rfl)]
  cases l.all (inB · a b) <;> rfl
theorem toIntS {l : List Int} (hl : l.length ≤ 1048576) : laws_toIntS l = some l := by
  unfold laws_toIntS
  rw [mkL_of (by omega) (by omega), Option.bind_some, toS_go (l := l) (h := id) (fun k hk x hx => by
    simp only [laws_toIntS_l0]
    rw [dec_t (by omega), idx_lt hk, idx_lt (by omega)]
    simp only [cond_true, Option.bind_some, Int.toNat_natCast, id]
    rw [w64 (by omega)]) (fun x => by simp [laws_toIntS_l0]) (by simp)]
  simp
theorem eqIntS {l : List Int} (hl : l.length ≤ 1048576) : laws_eqIntS l l = some true := by
  unfold laws_eqIntS
  rw [eqS_go (l := l) (fun k hk => by
    simp only [laws_eqIntS_l0]
    rw [dec_t (by omega), idx_lt hk, w64 (by omega)]
    simp) (by simp [laws_eqIntS_l0])]
  simp
theorem markIntS {l : List Int} (hl : l.length ≤ 1048576) {n : Int} (h0 : 0 ≤ n) (h1 : n ≤ 1000000000) : laws_markIntS l n = some (n + 1 * l.length, markL (fun n _ => n) 1 n l) := by
  unfold laws_markIntS
  rw [mark_go (l := l) (mk := fun n _ => n) (c := 1) (fun k x hk hx => by
    simp only [laws_markIntS_l0]
    rw [dec_t (by omega), idx_lt hk]
    simp only [cond_true, Option.bind_some, Int.toNat_natCast]
    rw [w64 (by omega), w64 (by omega)]) (fun x hx => by simp only [laws_markIntS_l0]; rw [dec_f (by omega)]; rfl)]
  rfl
def mkCase (n : Int) (_ : Case) : Case := ⟨n, (Int.tmod (n + 1) 3) == 0, n + 2, n + 3⟩
def mkSlip (n : Int) (_ : Slip) : Slip := ⟨n, n + 1, n + 2⟩
theorem markCaseS {l : List Case} (hl : l.length ≤ 1048576) {n : Int} (h0 : 0 ≤ n) (h1 : n ≤ 1000000000) : laws_markCaseS l n = some (n + 4 * l.length, markL mkCase 4 n l) := by
  unfold laws_markCaseS
  rw [mark_go (l := l) (mk := mkCase) (c := 4) (fun k x hk hx => by
    simp only [laws_markCaseS_l0]
    rw [dec_t (by omega), idx_lt hk]
    simp only [cond_true, Option.bind_some, Int.toNat_natCast, List.set_set]
    rw [idx_set hk]
    simp only [Option.bind_some]
    rw [idx_set hk]
    simp only [Option.bind_some]
    rw [idx_set hk]
    simp only [Option.bind_some]
    rw [w64 (x := n + 4 * (k : Int) + 1) (by omega), w64 (x := n + 4 * (k : Int) + 1 + 1) (by omega), w64 (x := n + 4 * (k : Int) + 1 + 1 + 1) (by omega), w64 (x := n + 4 * (k : Int) + 1 + 1 + 1 + 1) (by omega), w64 (x := (k : Int) + 1) (by omega)]
    simp only [mkCase, Int.add_assoc, Int.reduceAdd]) (fun x hx => by simp only [laws_markCaseS_l0]; rw [dec_f (by omega)]; rfl)]
  rfl
theorem markSlipS {l : List Slip} (hl : l.length ≤ 1048576) {n : Int} (h0 : 0 ≤ n) (h1 : n ≤ 1000000000) : laws_markSlipS l n = some (n + 3 * l.length, markL mkSlip 3 n l) := by
  unfold laws_markSlipS
  rw [mark_go (l := l) (mk := mkSlip) (c := 3) (fun k x hk hx => by
    simp only [laws_markSlipS_l0]
    rw [dec_t (by omega), idx_lt hk]
    simp only [cond_true, Option.bind_some, Int.toNat_natCast, List.set_set]
    rw [idx_set hk]
    simp only [Option.bind_some]
    rw [idx_set hk]
    simp only [Option.bind_some]
    rw [w64 (x := n + 3 * (k : Int) + 1) (by omega), w64 (x := n + 3 * (k : Int) + 1 + 1) (by omega), w64 (x := n + 3 * (k : Int) + 1 + 1 + 1) (by omega), w64 (x := (k : Int) + 1) (by omega)]
    simp only [mkSlip, Int.add_assoc, Int.reduceAdd]) (fun x hx => by simp only [laws_markSlipS_l0]; rw [dec_f (by omega)]; rfl)]
  rfl
theorem heldCaseS {l : List Case} (hl : l.length ≤ 1048576) {n : Int} (h0 : 0 ≤ n) (h1 : n ≤ 1000000000) : laws_heldCaseS (markL mkCase 4 n l) n = some (n + 4 * l.length) := by
  unfold laws_heldCaseS
  rw [held_go (n0 := n) (c := 4) (len := l.length) (fun k hk => by
    have hg : idx (markL mkCase 4 n l) (k : Int) = some (mkCase (n + 4 * k) l[k]) := by
      rw [idx_nat, markL_get, List.getElem?_eq_getElem hk]; rfl
    simp only [laws_heldCaseS_l0, hg, markL_len]
    rw [dec_t (by omega)]
    simp only [cond_true, Option.bind_some, mkCase]
    rw [w64 (x := n + 4 * (k : Int) + 1) (by omega), w64 (x := n + 4 * (k : Int) + 1 + 1) (by omega), w64 (x := n + 4 * (k : Int) + 1 + 1 + 1) (by omega), w64 (x := n + 4 * (k : Int) + 1 + 1 + 1 + 1) (by omega), w64 (x := (k : Int) + 1) (by omega)]
    simp [Int.add_assoc]) (by simp only [laws_heldCaseS_l0, markL_len]; rw [dec_f (by omega)]; rfl)]
  rfl
theorem heldSlipS {l : List Slip} (hl : l.length ≤ 1048576) {n : Int} (h0 : 0 ≤ n) (h1 : n ≤ 1000000000) : laws_heldSlipS (markL mkSlip 3 n l) n = some (n + 3 * l.length) := by
  unfold laws_heldSlipS
  rw [held_go (n0 := n) (c := 3) (len := l.length) (fun k hk => by
    have hg : idx (markL mkSlip 3 n l) (k : Int) = some (mkSlip (n + 3 * k) l[k]) := by
      rw [idx_nat, markL_get, List.getElem?_eq_getElem hk]; rfl
    simp only [laws_heldSlipS_l0, hg, markL_len]
    rw [dec_t (by omega)]
    simp only [cond_true, Option.bind_some, mkSlip]
    rw [w64 (x := n + 3 * (k : Int) + 1) (by omega), w64 (x := n + 3 * (k : Int) + 1 + 1) (by omega), w64 (x := n + 3 * (k : Int) + 1 + 1 + 1) (by omega), w64 (x := (k : Int) + 1) (by omega)]
    simp [Int.add_assoc]) (by simp only [laws_heldSlipS_l0, markL_len]; rw [dec_f (by omega)]; rfl)]
  rfl
/-- A court's marks are held. -/
theorem markHeld {c : Court} (h1 : c.Cases.length ≤ 1048576) (h2 : c.Line.length ≤ 1048576) : ∃ m a b, laws_markCourt c 1 = some (m, a, b) ∧ 0 ≤ m ∧ ∀ now, laws_heldCourt ⟨now, a, b⟩ 1 = some m := by
  refine ⟨_, _, _, by unfold laws_markCourt; rw [markCaseS h1 (by omega) (by omega), Option.bind_some]; simp only; rw [markSlipS h2 (by omega) (by omega)]; rfl, by omega, fun now => ?_⟩
  unfold laws_heldCourt
  simp only [heldCaseS h1 (show (0 : Int) ≤ 1 by omega) (by omega), Option.bind_some]
  rw [dec_f (by omega)]
  simp only [cond_false]
  rw [heldSlipS h2 (by omega) (by omega), Option.bind_some, dec_f (by omega)]
  rfl

def caseOf (e : Int) : Case := ⟨e, false, 0, 0⟩
def newF (l : List Int) : Court × Bool := if decide (l.length ≤ 6) && l.all (inB · 0 100) then (⟨0, l.map caseOf, []⟩, true) else (⟨0, [], []⟩, false)
theorem newC_go {l : List Int} (hl : l.length ≤ 1048576) {f : Int × List Case → Option (LR (Int × List Case) (List Case))} (hf : f = impl_NewCourt_l0 l) : whl f (0, []) = some (l.map caseOf) := by
  subst hf
  rw [whl_lgo l (impl_NewCourt_l0 l) (fun k (s : List Case) => (k, s)) (fun _ x s => .next (s ++ [caseOf x])) (fun s => s) (fun k s => s.length = k) (fun k hk s hi => by
    simp only [impl_NewCourt_l0]
    rw [dec_t (by omega), idx_lt hk]
    simp only [cond_true, Option.bind_some]
    rw [app_of (by simp <;> omega) (by omega), Option.bind_some, w64 (by omega)]
    exact ⟨rfl, fun s' e => by simp at e; rw [← e]; simp; omega⟩) (fun s _ => by simp only [impl_NewCourt_l0]; rw [dec_f (by omega)]; rfl) [] rfl, lgo_fold (fun s x => s ++ [caseOf x]) (fun _ _ _ => rfl)]
  congr 1
  have : ∀ (m : List Int) (s : List Case), m.foldl (fun s x => s ++ [caseOf x]) s = s ++ m.map caseOf := by
    intro m
    induction m with
    | nil => simp
    | cons x xs ih => intro s; simp [ih]
  simpa using this l []
theorem iNewCourt {l : List Int} (hl : l.length ≤ 1048576) : impl_NewCourt l = some (newF l) := by
  unfold impl_NewCourt newF
  rw [newC_go hl rfl, Option.bind_some, iGoodCourt (by simpa using hl) (by simp), Option.bind_some]
  have : courtB ⟨0, l.map caseOf, []⟩ = (decide (l.length ≤ 6) && l.all (inB · 0 100)) := by
    unfold courtB
    have e : (l.map caseOf).all (caseB 0) = l.all (inB · 0 100) := by
      rw [List.all_map]
      congr 1
      funext x
      have e : (caseOf x).End = x ∧ (caseOf x).Said = 0 ∧ (caseOf x).Final = 0 := ⟨rfl, rfl, rfl⟩
      simp only [Function.comp, caseB, e]
      cases h : inB x 0 100
      · rfl
      · have := inB_iff.1 h
        have e2 : decide (x < 0) = false := dec_f (by omega)
        simp [inB, e2]
    rw [e]
    simp [inB]
  rw [this]
  cases decide (l.length ≤ 6) && l.all (inB · 0 100) <;> rfl
theorem sNewCourt {l : List Int} (hl : l.length ≤ 1048576) : spec_NewCourt l = some (newF l) := by
  unfold spec_NewCourt newF
  rw [newC_go hl (f := spec_NewCourt_l0 l) rfl, sAll hl]
  by_cases h : l.length ≤ 6
  · rw [dec_f (show ¬ 6 < (l.length : Int) by omega), dec_t h]
    cases l.all (inB · 0 100) <;> rfl
  · rw [dec_t (show 6 < (l.length : Int) by omega), dec_f h]
    rfl
theorem pureNewCourt (l : List Int) (h1 : l.length < 2 ^ 47) : laws_FnExactNewCourt l = some true := by
  unfold laws_FnExactNewCourt
  by_cases h : l.length ≤ 1048576
  · rw [dec_f (by omega)]
    have hc : (newF l).1.Cases.length ≤ 1048576 ∧ (newF l).1.Line.length ≤ 1048576 := by
      unfold newF; split <;> simp <;> omega
    obtain ⟨m, a, b, e1, e2, e3⟩ := markHeld hc.1 hc.2
    simp only [toIntS h, iNewCourt h, sNewCourt h, eqIntS h, eqCourt hc.1 hc.2, markIntS h (show (0 : Int) ≤ 1 by omega) (show (1 : Int) ≤ 1000000000 by omega), e1, e3, cond_false, Option.bind_some, Bool.not_true, beq_self_eq_true, bne_self_eq_false]
    rw [dec_f (show ¬ (1 + 1 * (l.length : Int) < 0) by omega), dec_f (show ¬ m < 0 by omega)]
    rfl
  · rw [dec_t (by omega)]; rfl
end Go.VxW
