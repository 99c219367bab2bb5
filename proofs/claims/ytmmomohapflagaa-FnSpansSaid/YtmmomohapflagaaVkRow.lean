/- FnSpans: at every input the call returns true and its arguments read afterwards as they read before. No condition beyond the statement's own. -/
import Derived.Test.YtmmomohapflagaaRows
import Derived.Test.YtmmomohapflagaaVkA
import Derived.Test.YtmmomohapflagaaVkH
import Derived.Test.YtmmomohapflagaaVkC
import Derived.ProofKit
namespace Go.Proofs.Ytmmomohapflagaa
open Go Go.VS Go.Fc Go.ChangeShapes Go.WideShapes Go.ChangeAt Go.RowKit

set_option maxRecDepth 100000 in
theorem UB (os : Os) (started : os.Started) (H : Type) (enc : TypeId × Value → H) :
    ReturnsInHanded {} Try.checked os 11 .any (Rows.fnSpansSpec.pre6 enc Try.prog Try.f11 Rows.fnSpansRow.domain false) (Rows.fnSpansSpec.post enc Try.prog Try.f11 false true false false) := by
  refine returnsInHanded_of_change_sized (C := Try.checked) own started (by kernel_rfl) Try.func11
    (ChangeSpec.witness6 (enc := enc) (C := Try.checked) false ⟨#[], #[.slice none 0 0, .slice none 0 0], []⟩ 8 (by kernel_rfl) (by kernel_rfl) (by kernel_rfl) (by kernel_rfl)) ?_
  intro W base args ds gs before Pm hW hcnd aB _
  have wE := hW
  obtain ⟨p, q, jl, hV, rfl, gW, qK⟩ := hW
  have hA : DataW.TrodAll enc Try.prog W 0 (fun _ => true) true [22, 22] args.toList ds p := jl
  obtain ⟨v0, WB, d0, WC, WD, WE, e0, rfl, h0, UC⟩ := Dc hA
  obtain ⟨v1, WG, d1, WH, p1, q1, e1, rfl, h1, ph⟩ := Dc UC
  subst e1
  obtain ⟨rfl, rfl⟩ := De ph
  obtain rfl : args = #[v0, v1] := Array.toList_inj.1 e0
  obtain ⟨rfl, rfl⟩ := trodVars_none hV
  have fF : Value.okWide Try.prog W .any base 22 v0 := Pm 0 22 v0 rfl rfl
  have u0 : Try.prog.underlying 22 = some (.slice 5) := by kernel_rfl
  have c0 := Db fF (fun _ h => by rw [u0] at h; simp at h) (fun _ _ h => by rw [u0] at h; simp at h)
  obtain ⟨a0, k0, r0⟩ := OD.C9 h0 c0 aB (j := 0) rfl rfl
  have z0 : a0.length < 2 ^ 47 := by simpa using Dd h0 c0 u0 r0 aB (j := 0) rfl rfl (of_decide_eq_true (by kernel_rfl))
  have Pd : Value.okWide Try.prog W .any base 22 v1 := Pm 1 22 v1 rfl rfl
  have u1 : Try.prog.underlying 22 = some (.slice 5) := by kernel_rfl
  have c1 := Db Pd (fun _ h => by rw [u1] at h; simp at h) (fun _ _ h => by rw [u1] at h; simp at h)
  obtain ⟨a1, k1, r1⟩ := OD.C9 h1 c1 aB (j := 1) rfl rfl
  have z1 : a1.length < 2 ^ 47 := by simpa using Dd h1 c1 u1 r1 aB (j := 1) rfl rfl (of_decide_eq_true (by kernel_rfl))
  have hs := BC mixed hE hC zC (RK (Uw a0 k0 z0 a1 k1 z1) (aD.nil ⟨0, []⟩) (P := fun v _ => v = .bool true) (fun _ _ => rfl))
  refine (C_ hs W #[v0, v1] rfl (fun i x u hx hu => by
    match i with
    | 0 => simp at hx hu; subst hx; subst hu; exact r0
    | 1 => simp at hx hu; subst hx; subst hu; exact r1
    | i + 2 => simp at hx)).mono fun e W' ⟨he, hb⟩ => ?_
  subst he
  exact ⟨_, rfl, Da (P := Try.prog) wE rfl ⟨rfl, rfl, rfl⟩ rfl (by kernel_rfl) laidOut (fun t ht => by
    have xL : Try.f11.params.toList = [22, 22] := rfl
    rw [xL] at ht
    simp only [List.mem_cons, List.not_mem_nil, or_false] at ht
    rcases ht with rfl | rfl
    all_goals exact ⟨by kernel_rfl, of_decide_eq_true (by kernel_rfl)⟩) hb⟩

theorem fnSpans_holds : Rows.FnSpansSaid :=
  OpenClaim.holds_of_wide 11 Try.f11 rfl rfl rfl rfl rfl rfl rfl ⟨rfl, rfl, rfl, rfl, rfl⟩ rfl rfl rfl rfl rfl (by kernel_rfl) Try.func11 Tg
    (of_decide_eq_true (by kernel_rfl)) (by unfold Func.isWrapper; first | (rw [if_pos (by decide +kernel)]; kernel_rfl) | (rw [if_neg (by decide +kernel)]; exact ⟨rfl, rfl⟩))
    (fun os started H enc _ => UB os started H enc)
end Go.Proofs.Ytmmomohapflagaa
