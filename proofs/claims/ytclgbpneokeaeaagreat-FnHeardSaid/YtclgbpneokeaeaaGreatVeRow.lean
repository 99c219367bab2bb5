/- FnHeard: at every input the call returns true and its arguments read afterwards as they read before. No condition beyond the statement's own. -/
import Derived.Test.YtclgbpneokeaeaaGreatRows
import Derived.Test.YtclgbpneokeaeaaGreatVeA
import Derived.Test.YtclgbpneokeaeaaGreatVeH
import Derived.Test.YtclgbpneokeaeaaGreatVeC
import Derived.ProofKit
namespace Go.Proofs.YtclgbpneokeaeaaGreat
open Go Go.VS Go.GC Go.ChangeShapes Go.WideShapes Go.ChangeAt Go.RowKit

set_option maxRecDepth 100000 in
theorem abD (os : Os) (started : os.Started) (H : Type) (enc : TypeId × Value → H) :
    ReturnsInHanded {} Tryz.checked os 3 .any (Rows.fnHeardSpec.pre6 enc Tryz.prog Tryz.f3 Rows.fnHeardRow.domain false) (Rows.fnHeardSpec.post enc Tryz.prog Tryz.f3 false true false false) := by
  refine returnsInHanded_of_change_sized (C := Tryz.checked) own started (by kernel_rfl) Tryz.func3
    (ChangeSpec.witness6 (enc := enc) (C := Tryz.checked) false ⟨#[], #[.slice none 0 0, .slice none 0 0], []⟩ 8 (by kernel_rfl) (by kernel_rfl) (by kernel_rfl) (by kernel_rfl)) ?_
  intro W base args ds gs before UY hW hcnd aA _
  have wO := hW
  obtain ⟨p, q, jo, hV, rfl, hM, qW⟩ := hW
  have hA : DataW.TrodAll enc Tryz.prog W 0 (fun _ => true) true [22, 22] args.toList ds p := jo
  obtain ⟨v0, vs0, d0, ds0, aeg, NL, e0, rfl, h0, hA1⟩ := DX hA
  obtain ⟨v1, vs1, d1, ds1, p1, q1, e1, rfl, h1, pw⟩ := DX hA1
  subst e1
  obtain ⟨rfl, rfl⟩ := DZ pw
  obtain rfl : args = #[v0, v1] := Array.toList_inj.1 e0
  obtain ⟨rfl, rfl⟩ := trodVars_none hV
  have fL : Value.okWide Tryz.prog W .any base 22 v0 := UY 0 22 v0 rfl rfl
  have u0 : Tryz.prog.underlying 22 = some (.slice 5) := by kernel_rfl
  have c0 := DW fL (fun _ h => by rw [u0] at h; simp at h) (fun _ _ h => by rw [u0] at h; simp at h)
  obtain ⟨a0, k0, r0⟩ := T5.DT h0 c0 aA (j := 0) rfl rfl
  have z0 : a0.length < 2 ^ 47 := by simpa using DY h0 c0 u0 r0 aA (j := 0) rfl rfl (of_decide_eq_true (by kernel_rfl))
  have hv1 : Value.okWide Tryz.prog W .any base 22 v1 := UY 1 22 v1 rfl rfl
  have u1 : Tryz.prog.underlying 22 = some (.slice 5) := by kernel_rfl
  have c1 := DW hv1 (fun _ h => by rw [u1] at h; simp at h) (fun _ _ h => by rw [u1] at h; simp at h)
  obtain ⟨a1, k1, r1⟩ := T5.DT h1 c1 aA (j := 1) rfl rfl
  have z1 : a1.length < 2 ^ 47 := by simpa using DY h1 c1 u1 r1 aA (j := 1) rfl rfl (of_decide_eq_true (by kernel_rfl))
  have hs := B2 mixed hE hC zV (Ze (abn a0 k0 z0 a1 k1 z1) (az.nil ⟨0, []⟩) (P := fun v _ => v = .bool true) (fun _ _ => rfl))
  refine (DU hs W #[v0, v1] rfl (fun i x u hx hu => by
    match i with
    | 0 => simp at hx hu; subst hx; subst hu; exact r0
    | 1 => simp at hx hu; subst hx; subst hu; exact r1
    | i + 2 => simp at hx)).mono fun e W' ⟨he, hb⟩ => ?_
  subst he
  exact ⟨_, rfl, DV (P := Tryz.prog) wO rfl ⟨rfl, rfl, rfl⟩ rfl (by kernel_rfl) laidOut (fun t ht => by
    have x4 : Tryz.f3.params.toList = [22, 22] := rfl
    rw [x4] at ht
    simp only [List.mem_cons, List.not_mem_nil, or_false] at ht
    rcases ht with rfl | rfl
    all_goals exact ⟨by kernel_rfl, of_decide_eq_true (by kernel_rfl)⟩) hb⟩

theorem fnHeard_holds : Rows.FnHeardSaid :=
  OpenClaim.holds_of_wide 3 Tryz.f3 rfl rfl rfl rfl rfl rfl rfl ⟨rfl, rfl, rfl, rfl, rfl⟩ rfl rfl rfl rfl rfl (by kernel_rfl) Tryz.func3 abC
    (of_decide_eq_true (by kernel_rfl)) (by unfold Func.isWrapper; first | (rw [if_pos (by decide +kernel)]; kernel_rfl) | (rw [if_neg (by decide +kernel)]; exact ⟨rfl, rfl⟩))
    (fun os started H enc _ => abD os started H enc)
end Go.Proofs.YtclgbpneokeaeaaGreat
