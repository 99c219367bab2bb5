/- FnGreets: at every input the call returns true and its arguments read afterwards as they read before. No condition beyond the statement's own. -/
import Derived.Test.YtmmomohapflagaaRows
import Derived.Test.YtmmomohapflagaaVjA
import Derived.Test.YtmmomohapflagaaVjH
import Derived.Test.YtmmomohapflagaaVjC
import Derived.ProofKit
namespace Go.Proofs.Ytmmomohapflagaa
open Go Go.VS Go.Gq Go.ChangeShapes Go.WideShapes Go.ChangeAt Go.RowKit

set_option maxRecDepth 100000 in
theorem aan (os : Os) (started : os.Started) (H : Type) (enc : TypeId × Value → H) :
    ReturnsInHanded {} Try.checked os 8 .any (Rows.fnGreetsSpec.pre6 enc Try.prog Try.f8 Rows.fnGreetsRow.domain false) (Rows.fnGreetsSpec.post enc Try.prog Try.f8 false true false false) := by
  refine returnsInHanded_of_change_sized (C := Try.checked) own started (by kernel_rfl) Try.func8
    (ChangeSpec.witness6 (enc := enc) (C := Try.checked) false ⟨#[], #[.slice none 0 0, .slice none 0 0], []⟩ 8 (by kernel_rfl) (by kernel_rfl) (by kernel_rfl) (by kernel_rfl)) ?_
  intro W base args ds gs before UX hW hcnd aH _
  have vS := hW
  obtain ⟨p, q, iW, hV, rfl, gS, qe⟩ := hW
  have hA : DataW.TrodAll enc Try.prog W 0 (fun _ => true) true [22, 22] args.toList ds p := iW
  obtain ⟨v0, vs0, d0, ds0, acH, acI, e0, rfl, h0, hA1⟩ := CK hA
  obtain ⟨v1, vs1, d1, ds1, p1, q1, e1, rfl, h1, oI⟩ := CK hA1
  subst e1
  obtain ⟨rfl, rfl⟩ := CM oI
  obtain rfl : args = #[v0, v1] := Array.toList_inj.1 e0
  obtain ⟨rfl, rfl⟩ := trodVars_none hV
  have fD : Value.okWide Try.prog W .any base 22 v0 := UX 0 22 v0 rfl rfl
  have Sa : Try.prog.underlying 22 = some (.slice 5) := by kernel_rfl
  have c0 := CJ fD (fun _ h => by rw [Sa] at h; simp at h) (fun _ _ h => by rw [Sa] at h; simp at h)
  obtain ⟨a0, k0, r0⟩ := Ur.CG h0 c0 aH (j := 0) rfl rfl
  have z0 : a0.length < 2 ^ 47 := by simpa using CL h0 c0 Sa r0 aH (j := 0) rfl rfl (of_decide_eq_true (by kernel_rfl))
  have hv1 : Value.okWide Try.prog W .any base 22 v1 := UX 1 22 v1 rfl rfl
  have Oi : Try.prog.underlying 22 = some (.slice 5) := by kernel_rfl
  have c1 := CJ hv1 (fun _ h => by rw [Oi] at h; simp at h) (fun _ _ h => by rw [Oi] at h; simp at h)
  obtain ⟨a1, k1, r1⟩ := Ur.CG h1 c1 aH (j := 1) rfl rfl
  have z1 : a1.length < 2 ^ 47 := by simpa using CL h1 c1 Oi r1 aH (j := 1) rfl rfl (of_decide_eq_true (by kernel_rfl))
  have hs := Av mixed hE hC yQ (YT (Z7 a0 k0 z0 a1 k1 z1) (ay.nil ⟨0, []⟩) (P := fun v _ => v = .bool true) (fun _ _ => rfl))
  refine (CH hs W #[v0, v1] rfl (fun i x u hx hu => by
    match i with
    | 0 => simp at hx hu; subst hx; subst hu; exact r0
    | 1 => simp at hx hu; subst hx; subst hu; exact r1
    | i + 2 => simp at hx)).mono fun e W' ⟨he, hb⟩ => ?_
  subst he
  exact ⟨_, rfl, CI (P := Try.prog) vS rfl ⟨rfl, rfl, rfl⟩ rfl (by kernel_rfl) laidOut (fun t ht => by
    have wU : Try.f8.params.toList = [22, 22] := rfl
    rw [wU] at ht
    simp only [List.mem_cons, List.not_mem_nil, or_false] at ht
    rcases ht with rfl | rfl
    all_goals exact ⟨by kernel_rfl, of_decide_eq_true (by kernel_rfl)⟩) hb⟩

theorem fnGreets_holds : Rows.FnGreetsSaid :=
  OpenClaim.holds_of_wide 8 Try.f8 rfl rfl rfl rfl rfl rfl rfl ⟨rfl, rfl, rfl, rfl, rfl⟩ rfl rfl rfl rfl rfl (by kernel_rfl) Try.func8 aam
    (of_decide_eq_true (by kernel_rfl)) (by unfold Func.isWrapper; first | (rw [if_pos (by decide +kernel)]; kernel_rfl) | (rw [if_neg (by decide +kernel)]; exact ⟨rfl, rfl⟩))
    (fun os started H enc _ => aan os started H enc)
end Go.Proofs.Ytmmomohapflagaa
