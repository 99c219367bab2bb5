/- FnRelations: at every input the call returns true and its arguments read afterwards as they read before. No condition beyond the statement's own. -/
import Derived.Test.YtmmomohapflagaaRows
import Derived.Test.YtmmomohapflagaaVoA
import Derived.Test.YtmmomohapflagaaVoH
import Derived.Test.YtmmomohapflagaaVoC
import Derived.ProofKit
namespace Go.Proofs.Ytmmomohapflagaa
open Go Go.VS Go.EG Go.ChangeShapes Go.WideShapes Go.ChangeAt Go.RowKit

set_option maxRecDepth 100000 in
theorem N6 (os : Os) (started : os.Started) (H : Type) (enc : TypeId × Value → H) :
    ReturnsInHanded {} Try.checked os 10 .any (Rows.fnRelationsSpec.pre6 enc Try.prog Try.f10 Rows.fnRelationsRow.domain false) (Rows.fnRelationsSpec.post enc Try.prog Try.f10 false true false false) := by
  refine returnsInHanded_of_change_sized (C := Try.checked) own started (by kernel_rfl) Try.func10
    (ChangeSpec.witness6 (enc := enc) (C := Try.checked) false ⟨#[], #[.slice none 0 0, .slice none 0 0], []⟩ 8 (by kernel_rfl) (by kernel_rfl) (by kernel_rfl) (by kernel_rfl)) ?_
  intro W base args ds gs before Kd hW hcnd aC _
  have wl := hW
  obtain ⟨p, q, jd, hV, rfl, gT, qu⟩ := hW
  have hA : DataW.TrodAll enc Try.prog W 0 (fun _ => true) true [22, 22] args.toList ds p := jd
  obtain ⟨v0, PA, d0, PB, PC, PD, e0, rfl, h0, N7⟩ := CR hA
  obtain ⟨v1, PE, d1, PF, p1, q1, e1, rfl, h1, o0⟩ := CR N7
  subst e1
  obtain ⟨rfl, rfl⟩ := CT o0
  obtain rfl : args = #[v0, v1] := Array.toList_inj.1 e0
  obtain ⟨rfl, rfl⟩ := trodVars_none hV
  have fF : Value.okWide Try.prog W .any base 22 v0 := Kd 0 22 v0 rfl rfl
  have u0 : Try.prog.underlying 22 = some (.slice 5) := by kernel_rfl
  have c0 := CQ fF (fun _ h => by rw [u0] at h; simp at h) (fun _ _ h => by rw [u0] at h; simp at h)
  obtain ⟨a0, k0, r0⟩ := JU.CN h0 c0 aC (j := 0) rfl rfl
  have z0 : a0.length < 2 ^ 47 := by simpa using CS h0 c0 u0 r0 aC (j := 0) rfl rfl (of_decide_eq_true (by kernel_rfl))
  have N8 : Value.okWide Try.prog W .any base 22 v1 := Kd 1 22 v1 rfl rfl
  have u1 : Try.prog.underlying 22 = some (.slice 5) := by kernel_rfl
  have c1 := CQ N8 (fun _ h => by rw [u1] at h; simp at h) (fun _ _ h => by rw [u1] at h; simp at h)
  obtain ⟨a1, k1, r1⟩ := JU.CN h1 c1 aC (j := 1) rfl rfl
  have z1 : a1.length < 2 ^ 47 := by simpa using CS h1 c1 u1 r1 aC (j := 1) rfl rfl (of_decide_eq_true (by kernel_rfl))
  have hs := Bg mixed hE hC zi (Mo (NR a0 k0 z0 a1 k1 z1) (aD.nil ⟨0, []⟩) (P := fun v _ => v = .bool true) (fun _ _ => rfl))
  refine (CO hs W #[v0, v1] rfl (fun i x u hx hu => by
    match i with
    | 0 => simp at hx hu; subst hx; subst hu; exact r0
    | 1 => simp at hx hu; subst hx; subst hu; exact r1
    | i + 2 => simp at hx)).mono fun e W' ⟨he, hb⟩ => ?_
  subst he
  exact ⟨_, rfl, CP (P := Try.prog) wl rfl ⟨rfl, rfl, rfl⟩ rfl (by kernel_rfl) laidOut (fun t ht => by
    have xu : Try.f10.params.toList = [22, 22] := rfl
    rw [xu] at ht
    simp only [List.mem_cons, List.not_mem_nil, or_false] at ht
    rcases ht with rfl | rfl
    all_goals exact ⟨by kernel_rfl, of_decide_eq_true (by kernel_rfl)⟩) hb⟩

theorem fnRelations_holds : Rows.FnRelationsSaid :=
  OpenClaim.holds_of_wide 10 Try.f10 rfl rfl rfl rfl rfl rfl rfl ⟨rfl, rfl, rfl, rfl, rfl⟩ rfl rfl rfl rfl rfl (by kernel_rfl) Try.func10 N5
    (of_decide_eq_true (by kernel_rfl)) (by unfold Func.isWrapper; first | (rw [if_pos (by decide +kernel)]; kernel_rfl) | (rw [if_neg (by decide +kernel)]; exact ⟨rfl, rfl⟩))
    (fun os started H enc _ => N6 os started H enc)
end Go.Proofs.Ytmmomohapflagaa
