/- FnStores: at every input the call returns true and its arguments read afterwards as they read before. No condition beyond the statement's own. -/
import Derived.Test.YtmbfhipfcjmhmaaGreatRows
import Derived.Test.YtmbfhipfcjmhmaaGreatVgA
import Derived.Test.YtmbfhipfcjmhmaaGreatVgH
import Derived.Test.YtmbfhipfcjmhmaaGreatVgC
import Derived.ProofKit
namespace Go.Proofs.YtmbfhipfcjmhmaaGreat
open Go Go.VS Go.JN Go.ChangeShapes Go.WideShapes Go.ChangeAt Go.RowKit

set_option maxRecDepth 100000 in
theorem ae4 (os : Os) (started : os.Started) (H : Type) (enc : TypeId × Value → H) :
    ReturnsInHanded {} Tryz.checked os 3 .any (Rows.fnStoresSpec.pre6 enc Tryz.prog Tryz.f3 Rows.fnStoresRow.domain false) (Rows.fnStoresSpec.post enc Tryz.prog Tryz.f3 false true false false) := by
  refine returnsInHanded_of_change_sized (C := Tryz.checked) own started (by kernel_rfl) Tryz.func3
    (ChangeSpec.witness6 (enc := enc) (C := Tryz.checked) false ⟨#[], #[.slice none 0 0, .slice none 0 0], []⟩ 8 (by kernel_rfl) (by kernel_rfl) (by kernel_rfl) (by kernel_rfl)) ?_
  intro W base args ds gs before Zn hW hcnd aC _
  have yW := hW
  obtain ⟨p, q, kn, hV, rfl, gS, s9⟩ := hW
  have hA : DataW.TrodAll enc Tryz.prog W 0 (fun _ => true) true [22, 22] args.toList ds p := kn
  obtain ⟨v0, vs0, d0, ds0, ahM, ahN, e0, rfl, h0, hA1⟩ := GL hA
  obtain ⟨v1, vs1, d1, ds1, p1, q1, e1, rfl, h1, qU⟩ := GL hA1
  subst e1
  obtain ⟨rfl, rfl⟩ := GN qU
  obtain rfl : args = #[v0, v1] := Array.toList_inj.1 e0
  obtain ⟨rfl, rfl⟩ := trodVars_none hV
  have gG : Value.okWide Tryz.prog W .any base 22 v0 := Zn 0 22 v0 rfl rfl
  have u0 : Tryz.prog.underlying 22 = some (.slice 5) := by kernel_rfl
  have c0 := GK gG (fun _ h => by rw [u0] at h; simp at h) (fun _ _ h => by rw [u0] at h; simp at h)
  obtain ⟨a0, k0, r0⟩ := X_.GG h0 c0 aC (j := 0) rfl rfl
  have z0 : a0.length < 2 ^ 47 := by simpa using GM h0 c0 u0 r0 aC (j := 0) rfl rfl (of_decide_eq_true (by kernel_rfl))
  have pe : Value.okWide Tryz.prog W .any base 22 v1 := Zn 1 22 v1 rfl rfl
  have u1 : Tryz.prog.underlying 22 = some (.slice 5) := by kernel_rfl
  have c1 := GK pe (fun _ h => by rw [u1] at h; simp at h) (fun _ _ h => by rw [u1] at h; simp at h)
  obtain ⟨a1, k1, r1⟩ := X_.GG h1 c1 aC (j := 1) rfl rfl
  have z1 : a1.length < 2 ^ 47 := by simpa using GM h1 c1 u1 r1 aC (j := 1) rfl rfl (of_decide_eq_true (by kernel_rfl))
  have hs := Ep mixed hE hC Cv (acH (aeP a0 k0 z0 a1 k1 z1) (aA.nil ⟨0, []⟩) (P := fun v _ => v = .bool true) (fun _ _ => rfl))
  refine (GI hs W #[v0, v1] rfl (fun i x u hx hu => by
    match i with
    | 0 => simp at hx hu; subst hx; subst hu; exact r0
    | 1 => simp at hx hu; subst hx; subst hu; exact r1
    | i + 2 => simp at hx)).mono fun e W' ⟨he, hb⟩ => ?_
  subst he
  exact ⟨_, rfl, GJ (P := Tryz.prog) yW rfl ⟨rfl, rfl, rfl⟩ rfl (by kernel_rfl) laidOut (fun t ht => by
    have Ai : Tryz.f3.params.toList = [22, 22] := rfl
    rw [Ai] at ht
    simp only [List.mem_cons, List.not_mem_nil, or_false] at ht
    rcases ht with rfl | rfl
    all_goals exact ⟨by kernel_rfl, of_decide_eq_true (by kernel_rfl)⟩) hb⟩

theorem fnStores_holds : Rows.FnStoresSaid :=
  OpenClaim.holds_of_wide 3 Tryz.f3 rfl rfl rfl rfl rfl rfl rfl ⟨rfl, rfl, rfl, rfl, rfl⟩ rfl rfl rfl rfl rfl (by kernel_rfl) Tryz.func3 ae3
    (of_decide_eq_true (by kernel_rfl)) (by unfold Func.isWrapper; first | (rw [if_pos (by decide +kernel)]; kernel_rfl) | (rw [if_neg (by decide +kernel)]; exact ⟨rfl, rfl⟩))
    (fun os started H enc _ => ae4 os started H enc)
end Go.Proofs.YtmbfhipfcjmhmaaGreat
