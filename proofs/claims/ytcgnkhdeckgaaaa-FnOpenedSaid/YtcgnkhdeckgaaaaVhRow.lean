/- FnOpened: at every input the call returns true and its arguments read afterwards as they read before. No condition beyond the statement's own. -/
import Derived.Test.YtcgnkhdeckgaaaaRows
import Derived.Test.YtcgnkhdeckgaaaaVhA
import Derived.Test.YtcgnkhdeckgaaaaVhH
import Derived.ProofKit
namespace Go.Proofs.Ytcgnkhdeckgaaaa
open Go Go.VS Go.VxW Go.ChangeShapes Go.WideShapes Go.ChangeAt Go.RowKit

set_option maxRecDepth 100000 in
theorem fnOpened_lifted (os : Os) (started : os.Started) (H : Type) (enc : TypeId × Value → H) :
    ReturnsInHanded {} Try.checked os 9 .any (Rows.fnOpenedSpec.pre6 enc Try.prog Try.f9 Rows.fnOpenedRow.domain false) (Rows.fnOpenedSpec.post enc Try.prog Try.f9 false true false false) := by
  refine returnsInHanded_of_change_sized (C := Try.checked) own started (by kernel_rfl) Try.func9
    (ChangeSpec.witness6 (enc := enc) (C := Try.checked) false ⟨#[], #[.slice none 0 0], []⟩ 8 (by kernel_rfl) (by kernel_rfl) (by kernel_rfl) (by kernel_rfl)) ?_
  intro W base args ds gs before hval0 hW hcnd hsz _
  have hW' := hW
  obtain ⟨p, q, hA0, hV, rfl, hfz, hnd⟩ := hW
  have hA : DataW.TrodAll enc Try.prog W 0 (fun _ => true) true [41] args.toList ds p := hA0
  obtain ⟨v0, vs0, d0, ds0, p0, q0, e0, rfl, h0, hA1⟩ := trodCons hA
  obtain ⟨rfl, rfl⟩ := trodNil hA1
  obtain rfl : args = #[v0] := Array.toList_inj.1 e0
  obtain ⟨rfl, rfl⟩ := trodVars_none hV
  have hv0 : Value.okWide Try.prog W .any base 41 v0 := hval0 0 41 v0 rfl rfl
  have u0 : Try.prog.underlying 41 = some (.slice 5) := by kernel_rfl
  have c0 := arg_cells1 hv0 (fun _ h => by rw [u0] at h; simp at h) (fun _ _ h => by rw [u0] at h; simp at h)
  obtain ⟨a0, k0, r0⟩ := rd41.arg1 h0 c0 hsz (j := 0) rfl rfl
  have z0 : a0.length < 2 ^ 47 := by simpa using slice_sized h0 c0 u0 r0 hsz (j := 0) rfl rfl (of_decide_eq_true (by kernel_rfl))
  have hs := acall_sim mixed hE hC hext (laws_FnOpened_w (lawh_FnOpened a0 k0 z0) (Own.nil ⟨0, []⟩) (P := fun v _ => v = .bool true) (fun _ _ => rfl))
  refine (law_calls hs W #[v0] rfl (fun i x u hx hu => by
    match i with
    | 0 => simp at hx hu; subst hx; subst hu; exact r0
    | i + 1 => simp at hx)).mono fun e W' ⟨he, hb⟩ => ?_
  subst he
  exact ⟨_, rfl, law_post (P := Try.prog) hW' rfl ⟨rfl, rfl, rfl⟩ rfl (by kernel_rfl) laidOut (fun t ht => by
    have hps : Try.f9.params.toList = [41] := rfl
    rw [hps] at ht
    simp only [List.mem_cons, List.not_mem_nil, or_false] at ht
    subst ht
    exact ⟨by kernel_rfl, of_decide_eq_true (by kernel_rfl)⟩) hb⟩

theorem fnOpened_holds : Rows.FnOpenedSaid :=
  OpenClaim.holds_of_wide 9 Try.f9 rfl rfl rfl rfl rfl rfl rfl ⟨rfl, rfl, rfl, rfl, rfl⟩ rfl rfl rfl rfl rfl (by kernel_rfl) Try.func9 (by kernel_rfl)
    (of_decide_eq_true (by kernel_rfl)) (by unfold Func.isWrapper; first | (rw [if_pos (by decide +kernel)]; kernel_rfl) | (rw [if_neg (by decide +kernel)]; exact ⟨rfl, rfl⟩))
    (fun os started H enc _ => fnOpened_lifted os started H enc)
end Go.Proofs.Ytcgnkhdeckgaaaa
