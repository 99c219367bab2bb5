/- FnMoore: at every input the call returns true and its arguments read afterwards as they read before. No condition beyond the statement's own. -/
import Derived.Test.YtmmomohapflagaaRows
import Derived.Test.YtmmomohapflagaaVfA
import Derived.Test.YtmmomohapflagaaVfH
import Derived.Test.YtmmomohapflagaaVfC
import Derived.ProofKit
namespace Go.Proofs.Ytmmomohapflagaa
open Go Go.VS Go.Hr Go.ChangeShapes Go.WideShapes Go.ChangeAt Go.RowKit

set_option maxRecDepth 100000 in
theorem Wl (os : Os) (started : os.Started) (H : Type) (enc : TypeId × Value → H) :
    ReturnsInHanded {} Try.checked os 7 .any (Rows.fnMooreSpec.pre6 enc Try.prog Try.f7 Rows.fnMooreRow.domain false) (Rows.fnMooreSpec.post enc Try.prog Try.f7 false true false false) := by
  refine returnsInHanded_of_change_sized (C := Try.checked) own started (by kernel_rfl) Try.func7
    (ChangeSpec.witness6 (enc := enc) (C := Try.checked) false ⟨#[], #[.slice none 0 0, .slice none 0 0], []⟩ 8 (by kernel_rfl) (by kernel_rfl) (by kernel_rfl) (by kernel_rfl)) ?_
  intro W base args ds gs before QZ hW hcnd aC _
  have wP := hW
  obtain ⟨p, q, jo, hV, rfl, ie, qV⟩ := hW
  have hA : DataW.TrodAll enc Try.prog W 0 (fun _ => true) true [22, 22] args.toList ds p := jo
  obtain ⟨v0, Zw, d0, Zx, Zy, Qh, e0, rfl, h0, Wm⟩ := EL hA
  obtain ⟨v1, Zz, d1, ZA, p1, q1, e1, rfl, h1, pq⟩ := EL Wm
  subst e1
  obtain ⟨rfl, rfl⟩ := EN pq
  obtain rfl : args = #[v0, v1] := Array.toList_inj.1 e0
  obtain ⟨rfl, rfl⟩ := trodVars_none hV
  have f_ : Value.okWide Try.prog W .any base 22 v0 := QZ 0 22 v0 rfl rfl
  have Oz : Try.prog.underlying 22 = some (.slice 5) := by kernel_rfl
  have c0 := EJ f_ (fun _ h => by rw [Oz] at h; simp at h) (fun _ _ h => by rw [Oz] at h; simp at h)
  obtain ⟨a0, k0, r0⟩ := P_.EF h0 c0 aC (j := 0) rfl rfl
  have z0 : a0.length < 2 ^ 47 := by simpa using EM h0 c0 Oz r0 aC (j := 0) rfl rfl (of_decide_eq_true (by kernel_rfl))
  have Wn : Value.okWide Try.prog W .any base 22 v1 := QZ 1 22 v1 rfl rfl
  have OA : Try.prog.underlying 22 = some (.slice 5) := by kernel_rfl
  have c1 := EJ Wn (fun _ h => by rw [OA] at h; simp at h) (fun _ _ h => by rw [OA] at h; simp at h)
  obtain ⟨a1, k1, r1⟩ := P_.EF h1 c1 aC (j := 1) rfl rfl
  have z1 : a1.length < 2 ^ 47 := by simpa using EM h1 c1 OA r1 aC (j := 1) rfl rfl (of_decide_eq_true (by kernel_rfl))
  have hs := BB mixed hE hC zG (U4 (V7 a0 k0 z0 a1 k1 z1) (ap.nil ⟨0, []⟩) (P := fun v _ => v = .bool true) (fun _ _ => rfl))
  refine (EH hs W #[v0, v1] rfl (fun i x u hx hu => by
    match i with
    | 0 => simp at hx hu; subst hx; subst hu; exact r0
    | 1 => simp at hx hu; subst hx; subst hu; exact r1
    | i + 2 => simp at hx)).mono fun e W' ⟨he, hb⟩ => ?_
  subst he
  exact ⟨_, rfl, EI (P := Try.prog) wP rfl ⟨rfl, rfl, rfl⟩ rfl (by kernel_rfl) laidOut (fun t ht => by
    have xS : Try.f7.params.toList = [22, 22] := rfl
    rw [xS] at ht
    simp only [List.mem_cons, List.not_mem_nil, or_false] at ht
    rcases ht with rfl | rfl
    all_goals exact ⟨by kernel_rfl, of_decide_eq_true (by kernel_rfl)⟩) hb⟩

theorem fnMoore_holds : Rows.FnMooreSaid :=
  OpenClaim.holds_of_wide 7 Try.f7 rfl rfl rfl rfl rfl rfl rfl ⟨rfl, rfl, rfl, rfl, rfl⟩ rfl rfl rfl rfl rfl (by kernel_rfl) Try.func7 Wk
    (of_decide_eq_true (by kernel_rfl)) (by unfold Func.isWrapper; first | (rw [if_pos (by decide +kernel)]; kernel_rfl) | (rw [if_neg (by decide +kernel)]; exact ⟨rfl, rfl⟩))
    (fun os started H enc _ => Wl os started H enc)
end Go.Proofs.Ytmmomohapflagaa
