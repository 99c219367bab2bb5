/- FnExactSettleCourt: at every input the call returns true and its arguments read afterwards as they read before. No condition beyond the statement's own. -/
import Derived.Test.YtcgnkhdeckgaaaaRows
import Derived.Test.YtcgnkhdeckgaaaaVqA
import Derived.Test.YtcgnkhdeckgaaaaVqH
import Derived.ProofKit
namespace Go.Proofs.Ytcgnkhdeckgaaaa
open Go Go.VS Go.VxW Go.ChangeShapes Go.WideShapes Go.ChangeAt Go.RowKit

set_option maxRecDepth 100000 in
theorem fnExactSettleCourt_lifted (os : Os) (started : os.Started) (H : Type) (enc : TypeId × Value → H) :
    ReturnsInHanded {} Try.checked os 13 .any (Rows.fnExactSettleCourtSpec.pre6 enc Try.prog Try.f13 Rows.fnExactSettleCourtRow.domain false) (Rows.fnExactSettleCourtSpec.post enc Try.prog Try.f13 false true false false) := by
  refine returnsInHanded_of_change_sized (C := Try.checked) own started (by kernel_rfl) Try.func13
    (ChangeSpec.witness6 (enc := enc) (C := Try.checked) false ⟨#[], #[.agg #[.int .i64 0, .slice none 0 0, .slice none 0 0]], []⟩ 8 (by kernel_rfl) (by kernel_rfl) (by kernel_rfl) (by kernel_rfl)) ?_
  intro W base args ds gs before hval0 hW hcnd hsz _
  have hW' := hW
  obtain ⟨p, q, hA0, hV, rfl, hfz, hnd⟩ := hW
  have hA : DataW.TrodAll enc Try.prog W 0 (fun _ => true) true [119] args.toList ds p := hA0
  obtain ⟨v0, vs0, d0, ds0, p0, q0, e0, rfl, h0, hA1⟩ := trodCons hA
  obtain ⟨rfl, rfl⟩ := trodNil hA1
  obtain rfl : args = #[v0] := Array.toList_inj.1 e0
  obtain ⟨rfl, rfl⟩ := trodVars_none hV
  have hv0 : Value.okWide Try.prog W .any base 119 v0 := hval0 0 119 v0 rfl rfl
  obtain ⟨cs0, rfl⟩ := arg_cellsN hv0 (fs := [(0, 3), (1, 116), (2, 117)]) (by kernel_rfl)
  obtain ⟨a0, k0, r0⟩ := rd119.argN h0 hsz (j := 0) rfl rfl
  have hs := acall_sim mixed hE hC hext (laws_FnExactSettleCourt_w (lawq_FnExactSettleCourt a0 k0) (Own.nil ⟨0, []⟩) (P := fun v _ => v = .bool true) (fun _ _ => rfl))
  refine (law_calls hs W #[.agg cs0] rfl (fun i x u hx hu => by
    match i with
    | 0 => simp at hx hu; subst hx; subst hu; exact r0
    | i + 1 => simp at hx)).mono fun e W' ⟨he, hb⟩ => ?_
  subst he
  exact ⟨_, rfl, law_post (P := Try.prog) hW' rfl ⟨rfl, rfl, rfl⟩ rfl (by kernel_rfl) laidOut (fun t ht => by
    have hps : Try.f13.params.toList = [119] := rfl
    rw [hps] at ht
    simp only [List.mem_cons, List.not_mem_nil, or_false] at ht
    subst ht
    exact ⟨by kernel_rfl, of_decide_eq_true (by kernel_rfl)⟩) hb⟩

theorem fnExactSettleCourt_holds : Rows.FnExactSettleCourtSaid :=
  OpenClaim.holds_of_wide 13 Try.f13 rfl rfl rfl rfl rfl rfl rfl ⟨rfl, rfl, rfl, rfl, rfl⟩ rfl rfl rfl rfl rfl (by kernel_rfl) Try.func13 (by kernel_rfl)
    (of_decide_eq_true (by kernel_rfl)) (by unfold Func.isWrapper; first | (rw [if_pos (by decide +kernel)]; kernel_rfl) | (rw [if_neg (by decide +kernel)]; exact ⟨rfl, rfl⟩))
    (fun os started H enc _ => fnExactSettleCourt_lifted os started H enc)
end Go.Proofs.Ytcgnkhdeckgaaaa
