/- FnBlocks: at every input the call returns true and its arguments read afterwards as they read before. No condition beyond the statement's own. -/
import Derived.Test.YtclgbpneokeaeaaRows
import Derived.Test.YtclgbpneokeaeaaVfA
import Derived.Test.YtclgbpneokeaeaaVfH
import Derived.Test.YtclgbpneokeaeaaVfC
import Derived.ProofKit
namespace Go.Proofs.Ytclgbpneokeaeaa
open Go Go.VS Go.Hm Go.ChangeShapes Go.WideShapes Go.ChangeAt Go.RowKit

set_option maxRecDepth 100000 in
theorem Xo (os : Os) (started : os.Started) (H : Type) (enc : TypeId × Value → H) :
    ReturnsInHanded {} Try.checked os 5 .any (Rows.fnBlocksSpec.pre6 enc Try.prog Try.f5 Rows.fnBlocksRow.domain false) (Rows.fnBlocksSpec.post enc Try.prog Try.f5 false true false false) := by
  refine returnsInHanded_of_change_sized (C := Try.checked) own started (by kernel_rfl) Try.func5
    (ChangeSpec.witness6 (enc := enc) (C := Try.checked) false ⟨#[], #[.slice none 0 0, .slice none 0 0], []⟩ 8 (by kernel_rfl) (by kernel_rfl) (by kernel_rfl) (by kernel_rfl)) ?_
  intro W base args ds gs before RF hW hcnd aB _
  have xF := hW
  obtain ⟨p, q, jF, hV, rfl, gn, rJ⟩ := hW
  have hA : DataW.TrodAll enc Try.prog W 0 (fun _ => true) true [22, 22] args.toList ds p := jF
  obtain ⟨v0, vs0, d0, ds0, Mt, aad, e0, rfl, h0, Xp⟩ := E3 hA
  obtain ⟨v1, vs1, d1, ds1, p1, q1, e1, rfl, h1, pV⟩ := E3 Xp
  subst e1
  obtain ⟨rfl, rfl⟩ := E5 pV
  obtain rfl : args = #[v0, v1] := Array.toList_inj.1 e0
  obtain ⟨rfl, rfl⟩ := trodVars_none hV
  have fW : Value.okWide Try.prog W .any base 22 v0 := RF 0 22 v0 rfl rfl
  have u0 : Try.prog.underlying 22 = some (.slice 5) := by kernel_rfl
  have c0 := E2 fW (fun _ h => by rw [u0] at h; simp at h) (fun _ _ h => by rw [u0] at h; simp at h)
  obtain ⟨a0, k0, r0⟩ := QR.EZ h0 c0 aB (j := 0) rfl rfl
  have z0 : a0.length < 2 ^ 47 := by simpa using E4 h0 c0 u0 r0 aB (j := 0) rfl rfl (of_decide_eq_true (by kernel_rfl))
  have Xq : Value.okWide Try.prog W .any base 22 v1 := RF 1 22 v1 rfl rfl
  have u1 : Try.prog.underlying 22 = some (.slice 5) := by kernel_rfl
  have c1 := E2 Xq (fun _ h => by rw [u1] at h; simp at h) (fun _ _ h => by rw [u1] at h; simp at h)
  obtain ⟨a1, k1, r1⟩ := QR.EZ h1 c1 aB (j := 1) rfl rfl
  have z1 : a1.length < 2 ^ 47 := by simpa using E4 h1 c1 u1 r1 aB (j := 1) rfl rfl (of_decide_eq_true (by kernel_rfl))
  have hs := CY mixed hE hC Bd (UB (W_ a0 k0 z0 a1 k1 z1) (aC.nil ⟨0, []⟩) (P := fun v _ => v = .bool true) (fun _ _ => rfl))
  refine (E0 hs W #[v0, v1] rfl (fun i x u hx hu => by
    match i with
    | 0 => simp at hx hu; subst hx; subst hu; exact r0
    | 1 => simp at hx hu; subst hx; subst hu; exact r1
    | i + 2 => simp at hx)).mono fun e W' ⟨he, hb⟩ => ?_
  subst he
  exact ⟨_, rfl, E1 (P := Try.prog) xF rfl ⟨rfl, rfl, rfl⟩ rfl (by kernel_rfl) laidOut (fun t ht => by
    have yN : Try.f5.params.toList = [22, 22] := rfl
    rw [yN] at ht
    simp only [List.mem_cons, List.not_mem_nil, or_false] at ht
    rcases ht with rfl | rfl
    all_goals exact ⟨by kernel_rfl, of_decide_eq_true (by kernel_rfl)⟩) hb⟩

theorem fnBlocks_holds : Rows.FnBlocksSaid :=
  OpenClaim.holds_of_wide 5 Try.f5 rfl rfl rfl rfl rfl rfl rfl ⟨rfl, rfl, rfl, rfl, rfl⟩ rfl rfl rfl rfl rfl (by kernel_rfl) Try.func5 Xn
    (of_decide_eq_true (by kernel_rfl)) (by unfold Func.isWrapper; first | (rw [if_pos (by decide +kernel)]; kernel_rfl) | (rw [if_neg (by decide +kernel)]; exact ⟨rfl, rfl⟩))
    (fun os started H enc _ => Xo os started H enc)
end Go.Proofs.Ytclgbpneokeaeaa
