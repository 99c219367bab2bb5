/- FnLost: at every input the call returns true and its arguments read afterwards as they read before. No condition beyond the statement's own. -/
import Derived.Test.YtclgbpneokeaeaaRows
import Derived.Test.YtclgbpneokeaeaaVdA
import Derived.Test.YtclgbpneokeaeaaVdH
import Derived.Test.YtclgbpneokeaeaaVdC
import Derived.ProofKit
namespace Go.Proofs.Ytclgbpneokeaeaa
open Go Go.VS Go.GB Go.ChangeShapes Go.WideShapes Go.ChangeAt Go.RowKit

set_option maxRecDepth 100000 in
theorem aaz (os : Os) (started : os.Started) (H : Type) (enc : TypeId × Value → H) :
    ReturnsInHanded {} Try.checked os 6 .any (Rows.fnLostSpec.pre6 enc Try.prog Try.f6 Rows.fnLostRow.domain false) (Rows.fnLostSpec.post enc Try.prog Try.f6 false true false false) := by
  refine returnsInHanded_of_change_sized (C := Try.checked) own started (by kernel_rfl) Try.func6
    (ChangeSpec.witness6 (enc := enc) (C := Try.checked) false ⟨#[], #[.slice none 0 0, .slice none 0 0], []⟩ 8 (by kernel_rfl) (by kernel_rfl) (by kernel_rfl) (by kernel_rfl)) ?_
  intro W base args ds gs before Ty hW hcnd aA _
  have wQ := hW
  obtain ⟨p, q, jr, hV, rfl, hZ, qW⟩ := hW
  have hA : DataW.TrodAll enc Try.prog W 0 (fun _ => true) true [22, 22] args.toList ds p := jr
  obtain ⟨v0, vs0, d0, ds0, ac7, M_, e0, rfl, h0, hA1⟩ := DZ hA
  obtain ⟨v1, vs1, d1, ds1, p1, q1, e1, rfl, h1, px⟩ := DZ hA1
  subst e1
  obtain ⟨rfl, rfl⟩ := D1 px
  obtain rfl : args = #[v0, v1] := Array.toList_inj.1 e0
  obtain ⟨rfl, rfl⟩ := trodVars_none hV
  have fO : Value.okWide Try.prog W .any base 22 v0 := Ty 0 22 v0 rfl rfl
  have u0 : Try.prog.underlying 22 = some (.slice 5) := by kernel_rfl
  have c0 := DY fO (fun _ h => by rw [u0] at h; simp at h) (fun _ _ h => by rw [u0] at h; simp at h)
  obtain ⟨a0, k0, r0⟩ := SD.DV h0 c0 aA (j := 0) rfl rfl
  have z0 : a0.length < 2 ^ 47 := by simpa using D0 h0 c0 u0 r0 aA (j := 0) rfl rfl (of_decide_eq_true (by kernel_rfl))
  have hv1 : Value.okWide Try.prog W .any base 22 v1 := Ty 1 22 v1 rfl rfl
  have u1 : Try.prog.underlying 22 = some (.slice 5) := by kernel_rfl
  have c1 := DY hv1 (fun _ h => by rw [u1] at h; simp at h) (fun _ _ h => by rw [u1] at h; simp at h)
  obtain ⟨a1, k1, r1⟩ := SD.DV h1 c1 aA (j := 1) rfl rfl
  have z1 : a1.length < 2 ^ 47 := by simpa using D0 h1 c1 u1 r1 aA (j := 1) rfl rfl (of_decide_eq_true (by kernel_rfl))
  have hs := B4 mixed hE hC zZ (X1 (aak a0 k0 z0 a1 k1 z1) (ay.nil ⟨0, []⟩) (P := fun v _ => v = .bool true) (fun _ _ => rfl))
  refine (DW hs W #[v0, v1] rfl (fun i x u hx hu => by
    match i with
    | 0 => simp at hx hu; subst hx; subst hu; exact r0
    | 1 => simp at hx hu; subst hx; subst hu; exact r1
    | i + 2 => simp at hx)).mono fun e W' ⟨he, hb⟩ => ?_
  subst he
  exact ⟨_, rfl, DX (P := Try.prog) wQ rfl ⟨rfl, rfl, rfl⟩ rfl (by kernel_rfl) laidOut (fun t ht => by
    have x8 : Try.f6.params.toList = [22, 22] := rfl
    rw [x8] at ht
    simp only [List.mem_cons, List.not_mem_nil, or_false] at ht
    rcases ht with rfl | rfl
    all_goals exact ⟨by kernel_rfl, of_decide_eq_true (by kernel_rfl)⟩) hb⟩

theorem fnLost_holds : Rows.FnLostSaid :=
  OpenClaim.holds_of_wide 6 Try.f6 rfl rfl rfl rfl rfl rfl rfl ⟨rfl, rfl, rfl, rfl, rfl⟩ rfl rfl rfl rfl rfl (by kernel_rfl) Try.func6 aay
    (of_decide_eq_true (by kernel_rfl)) (by unfold Func.isWrapper; first | (rw [if_pos (by decide +kernel)]; kernel_rfl) | (rw [if_neg (by decide +kernel)]; exact ⟨rfl, rfl⟩))
    (fun os started H enc _ => aaz os started H enc)
end Go.Proofs.Ytclgbpneokeaeaa
