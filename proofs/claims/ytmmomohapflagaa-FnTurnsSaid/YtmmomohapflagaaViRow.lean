/- FnTurns: at every input the call returns true and its arguments read afterwards as they read before. No condition beyond the statement's own. -/
import Derived.Test.YtmmomohapflagaaRows
import Derived.Test.YtmmomohapflagaaViA
import Derived.Test.YtmmomohapflagaaViH
import Derived.Test.YtmmomohapflagaaViC
import Derived.ProofKit
namespace Go.Proofs.Ytmmomohapflagaa
open Go Go.VS Go.HC Go.ChangeShapes Go.WideShapes Go.ChangeAt Go.RowKit

set_option maxRecDepth 100000 in
theorem ab3 (os : Os) (started : os.Started) (H : Type) (enc : TypeId × Value → H) :
    ReturnsInHanded {} Try.checked os 3 .any (Rows.fnTurnsSpec.pre6 enc Try.prog Try.f3 Rows.fnTurnsRow.domain false) (Rows.fnTurnsSpec.post enc Try.prog Try.f3 false true false false) := by
  refine returnsInHanded_of_change_sized (C := Try.checked) own started (by kernel_rfl) Try.func3
    (ChangeSpec.witness6 (enc := enc) (C := Try.checked) false ⟨#[], #[.slice none 0 0, .slice none 0 0], []⟩ 8 (by kernel_rfl) (by kernel_rfl) (by kernel_rfl) (by kernel_rfl)) ?_
  intro W base args ds gs before Uo hW hcnd aF _
  have wh := hW
  obtain ⟨p, q, i_, hV, rfl, gY, qk⟩ := hW
  have hA : DataW.TrodAll enc Try.prog W 0 (fun _ => true) true [22, 22] args.toList ds p := i_
  obtain ⟨v0, vs0, d0, ds0, agR, agS, e0, rfl, h0, hA1⟩ := Db hA
  obtain ⟨v1, vs1, d1, ds1, p1, q1, e1, rfl, h1, oL⟩ := Db hA1
  subst e1
  obtain ⟨rfl, rfl⟩ := Dd oL
  obtain rfl : args = #[v0, v1] := Array.toList_inj.1 e0
  obtain ⟨rfl, rfl⟩ := trodVars_none hV
  have fH : Value.okWide Try.prog W .any base 22 v0 := Uo 0 22 v0 rfl rfl
  have Rs : Try.prog.underlying 22 = some (.slice 5) := by kernel_rfl
  have c0 := Da fH (fun _ h => by rw [Rs] at h; simp at h) (fun _ _ h => by rw [Rs] at h; simp at h)
  obtain ⟨a0, k0, r0⟩ := TO.C8 h0 c0 aF (j := 0) rfl rfl
  have z0 : a0.length < 2 ^ 47 := by simpa using Dc h0 c0 Rs r0 aF (j := 0) rfl rfl (of_decide_eq_true (by kernel_rfl))
  have hv1 : Value.okWide Try.prog W .any base 22 v1 := Uo 1 22 v1 rfl rfl
  have Lj : Try.prog.underlying 22 = some (.slice 5) := by kernel_rfl
  have c1 := Da hv1 (fun _ h => by rw [Lj] at h; simp at h) (fun _ _ h => by rw [Lj] at h; simp at h)
  obtain ⟨a1, k1, r1⟩ := TO.C8 h1 c1 aF (j := 1) rfl rfl
  have z1 : a1.length < 2 ^ 47 := by simpa using Dc h1 c1 Lj r1 aF (j := 1) rfl rfl (of_decide_eq_true (by kernel_rfl))
  have hs := AU mixed hE hC y8 (ZA (abO a0 k0 z0 a1 k1 z1) (aq.nil ⟨0, []⟩) (P := fun v _ => v = .bool true) (fun _ _ => rfl))
  refine (C9 hs W #[v0, v1] rfl (fun i x u hx hu => by
    match i with
    | 0 => simp at hx hu; subst hx; subst hu; exact r0
    | 1 => simp at hx hu; subst hx; subst hu; exact r1
    | i + 2 => simp at hx)).mono fun e W' ⟨he, hb⟩ => ?_
  subst he
  exact ⟨_, rfl, C_ (P := Try.prog) wh rfl ⟨rfl, rfl, rfl⟩ rfl (by kernel_rfl) laidOut (fun t ht => by
    have xh : Try.f3.params.toList = [22, 22] := rfl
    rw [xh] at ht
    simp only [List.mem_cons, List.not_mem_nil, or_false] at ht
    rcases ht with rfl | rfl
    all_goals exact ⟨by kernel_rfl, of_decide_eq_true (by kernel_rfl)⟩) hb⟩

theorem fnTurns_holds : Rows.FnTurnsSaid :=
  OpenClaim.holds_of_wide 3 Try.f3 rfl rfl rfl rfl rfl rfl rfl ⟨rfl, rfl, rfl, rfl, rfl⟩ rfl rfl rfl rfl rfl (by kernel_rfl) Try.func3 ab2
    (of_decide_eq_true (by kernel_rfl)) (by unfold Func.isWrapper; first | (rw [if_pos (by decide +kernel)]; kernel_rfl) | (rw [if_neg (by decide +kernel)]; exact ⟨rfl, rfl⟩))
    (fun os started H enc _ => ab3 os started H enc)
end Go.Proofs.Ytmmomohapflagaa
