/- FnHands: at every input the call returns true and its arguments read afterwards as they read before. No condition beyond the statement's own. -/
import Derived.Test.YtclgbpneokeaeaaRows
import Derived.Test.YtclgbpneokeaeaaVbA
import Derived.Test.YtclgbpneokeaeaaVbH
import Derived.Test.YtclgbpneokeaeaaVbC
import Derived.ProofKit
namespace Go.Proofs.Ytclgbpneokeaeaa
open Go Go.VS Go.DN Go.ChangeShapes Go.WideShapes Go.ChangeAt Go.RowKit

set_option maxRecDepth 100000 in
theorem RM (os : Os) (started : os.Started) (H : Type) (enc : TypeId × Value → H) :
    ReturnsInHanded {} Try.checked os 3 .any (Rows.fnHandsSpec.pre6 enc Try.prog Try.f3 Rows.fnHandsRow.domain false) (Rows.fnHandsSpec.post enc Try.prog Try.f3 false true false false) := by
  refine returnsInHanded_of_change_sized (C := Try.checked) own started (by kernel_rfl) Try.func3
    (ChangeSpec.witness6 (enc := enc) (C := Try.checked) false ⟨#[], #[.slice none 0 0, .slice none 0 0], []⟩ 8 (by kernel_rfl) (by kernel_rfl) (by kernel_rfl) (by kernel_rfl)) ?_
  intro W base args ds gs before Ni hW hcnd aG _
  have vi := hW
  obtain ⟨p, q, iL, hV, rfl, gG, pH⟩ := hW
  have hA : DataW.TrodAll enc Try.prog W 0 (fun _ => true) true [22, 22] args.toList ds p := iL
  obtain ⟨v0, UF, d0, UG, UH, UI, e0, rfl, h0, RN⟩ := Bk hA
  obtain ⟨v1, UJ, d1, UK, p1, q1, e1, rfl, h1, n_⟩ := Bk RN
  subst e1
  obtain ⟨rfl, rfl⟩ := Bm n_
  obtain rfl : args = #[v0, v1] := Array.toList_inj.1 e0
  obtain ⟨rfl, rfl⟩ := trodVars_none hV
  have fl : Value.okWide Try.prog W .any base 22 v0 := Ni 0 22 v0 rfl rfl
  have KO : Try.prog.underlying 22 = some (.slice 5) := by kernel_rfl
  have c0 := Bj fl (fun _ h => by rw [KO] at h; simp at h) (fun _ _ h => by rw [KO] at h; simp at h)
  obtain ⟨a0, k0, r0⟩ := Mm.Bg h0 c0 aG (j := 0) rfl rfl
  have z0 : a0.length < 2 ^ 47 := by simpa using Bl h0 c0 KO r0 aG (j := 0) rfl rfl (of_decide_eq_true (by kernel_rfl))
  have RO : Value.okWide Try.prog W .any base 22 v1 := Ni 1 22 v1 rfl rfl
  have KP : Try.prog.underlying 22 = some (.slice 5) := by kernel_rfl
  have c1 := Bj RO (fun _ h => by rw [KP] at h; simp at h) (fun _ _ h => by rw [KP] at h; simp at h)
  obtain ⟨a1, k1, r1⟩ := Mm.Bg h1 c1 aG (j := 1) rfl rfl
  have z1 : a1.length < 2 ^ 47 := by simpa using Bl h1 c1 KP r1 aG (j := 1) rfl rfl (of_decide_eq_true (by kernel_rfl))
  have hs := zt mixed hE hC ye (Qe (Rx a0 k0 z0 a1 k1 z1) (aA.nil ⟨0, []⟩) (P := fun v _ => v = .bool true) (fun _ _ => rfl))
  refine (Bh hs W #[v0, v1] rfl (fun i x u hx hu => by
    match i with
    | 0 => simp at hx hu; subst hx; subst hu; exact r0
    | 1 => simp at hx hu; subst hx; subst hu; exact r1
    | i + 2 => simp at hx)).mono fun e W' ⟨he, hb⟩ => ?_
  subst he
  exact ⟨_, rfl, Bi (P := Try.prog) vi rfl ⟨rfl, rfl, rfl⟩ rfl (by kernel_rfl) laidOut (fun t ht => by
    have wg : Try.f3.params.toList = [22, 22] := rfl
    rw [wg] at ht
    simp only [List.mem_cons, List.not_mem_nil, or_false] at ht
    rcases ht with rfl | rfl
    all_goals exact ⟨by kernel_rfl, of_decide_eq_true (by kernel_rfl)⟩) hb⟩

theorem fnHands_holds : Rows.FnHandsSaid :=
  OpenClaim.holds_of_wide 3 Try.f3 rfl rfl rfl rfl rfl rfl rfl ⟨rfl, rfl, rfl, rfl, rfl⟩ rfl rfl rfl rfl rfl (by kernel_rfl) Try.func3 RL
    (of_decide_eq_true (by kernel_rfl)) (by unfold Func.isWrapper; first | (rw [if_pos (by decide +kernel)]; kernel_rfl) | (rw [if_neg (by decide +kernel)]; exact ⟨rfl, rfl⟩))
    (fun os started H enc _ => RM os started H enc)
end Go.Proofs.Ytclgbpneokeaeaa
