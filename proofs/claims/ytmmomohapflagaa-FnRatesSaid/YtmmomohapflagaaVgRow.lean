/- FnRates: at every input the call returns true and its arguments read afterwards as they read before. No condition beyond the statement's own. -/
import Derived.Test.YtmmomohapflagaaRows
import Derived.Test.YtmmomohapflagaaVgA
import Derived.Test.YtmmomohapflagaaVgH
import Derived.Test.YtmmomohapflagaaVgC
import Derived.ProofKit
namespace Go.Proofs.Ytmmomohapflagaa
open Go Go.VS Go.Hi Go.ChangeShapes Go.WideShapes Go.ChangeAt Go.RowKit

set_option maxRecDepth 100000 in
theorem SA (os : Os) (started : os.Started) (H : Type) (enc : TypeId × Value → H) :
    ReturnsInHanded {} Try.checked os 4 .any (Rows.fnRatesSpec.pre6 enc Try.prog Try.f4 Rows.fnRatesRow.domain false) (Rows.fnRatesSpec.post enc Try.prog Try.f4 false true false false) := by
  refine returnsInHanded_of_change_sized (C := Try.checked) own started (by kernel_rfl) Try.func4
    (ChangeSpec.witness6 (enc := enc) (C := Try.checked) false ⟨#[], #[.slice none 0 0, .slice none 0 0], []⟩ 8 (by kernel_rfl) (by kernel_rfl) (by kernel_rfl) (by kernel_rfl)) ?_
  intro W base args ds gs before Og hW hcnd aG _
  have wU := hW
  obtain ⟨p, q, jr, hV, rfl, ic, qY⟩ := hW
  have hA : DataW.TrodAll enc Try.prog W 0 (fun _ => true) true [22, 22] args.toList ds p := jr
  obtain ⟨v0, UT, d0, UU, UW, UX, e0, rfl, h0, SB⟩ := EV hA
  obtain ⟨v1, UY, d1, UZ, p1, q1, e1, rfl, h1, pw⟩ := EV SB
  subst e1
  obtain ⟨rfl, rfl⟩ := EX pw
  obtain rfl : args = #[v0, v1] := Array.toList_inj.1 e0
  obtain ⟨rfl, rfl⟩ := trodVars_none hV
  have ga : Value.okWide Try.prog W .any base 22 v0 := Og 0 22 v0 rfl rfl
  have Mk : Try.prog.underlying 22 = some (.slice 5) := by kernel_rfl
  have c0 := ET ga (fun _ h => by rw [Mk] at h; simp at h) (fun _ _ h => by rw [Mk] at h; simp at h)
  obtain ⟨a0, k0, r0⟩ := NI.EP h0 c0 aG (j := 0) rfl rfl
  have z0 : a0.length < 2 ^ 47 := by simpa using EW h0 c0 Mk r0 aG (j := 0) rfl rfl (of_decide_eq_true (by kernel_rfl))
  have SC : Value.okWide Try.prog W .any base 22 v1 := Og 1 22 v1 rfl rfl
  have Ml : Try.prog.underlying 22 = some (.slice 5) := by kernel_rfl
  have c1 := ET SC (fun _ h => by rw [Ml] at h; simp at h) (fun _ _ h => by rw [Ml] at h; simp at h)
  obtain ⟨a1, k1, r1⟩ := NI.EP h1 c1 aG (j := 1) rfl rfl
  have z1 : a1.length < 2 ^ 47 := by simpa using EW h1 c1 Ml r1 aG (j := 1) rfl rfl (of_decide_eq_true (by kernel_rfl))
  have hs := BL mixed hE hC zP (Qm (Sk a0 k0 z0 a1 k1 z1) (ap.nil ⟨0, []⟩) (P := fun v _ => v = .bool true) (fun _ _ => rfl))
  refine (ER hs W #[v0, v1] rfl (fun i x u hx hu => by
    match i with
    | 0 => simp at hx hu; subst hx; subst hu; exact r0
    | 1 => simp at hx hu; subst hx; subst hu; exact r1
    | i + 2 => simp at hx)).mono fun e W' ⟨he, hb⟩ => ?_
  subst he
  exact ⟨_, rfl, ES (P := Try.prog) wU rfl ⟨rfl, rfl, rfl⟩ rfl (by kernel_rfl) laidOut (fun t ht => by
    have xX : Try.f4.params.toList = [22, 22] := rfl
    rw [xX] at ht
    simp only [List.mem_cons, List.not_mem_nil, or_false] at ht
    rcases ht with rfl | rfl
    all_goals exact ⟨by kernel_rfl, of_decide_eq_true (by kernel_rfl)⟩) hb⟩

theorem fnRates_holds : Rows.FnRatesSaid :=
  OpenClaim.holds_of_wide 4 Try.f4 rfl rfl rfl rfl rfl rfl rfl ⟨rfl, rfl, rfl, rfl, rfl⟩ rfl rfl rfl rfl rfl (by kernel_rfl) Try.func4 Sz
    (of_decide_eq_true (by kernel_rfl)) (by unfold Func.isWrapper; first | (rw [if_pos (by decide +kernel)]; kernel_rfl) | (rw [if_neg (by decide +kernel)]; exact ⟨rfl, rfl⟩))
    (fun os started H enc _ => SA os started H enc)
end Go.Proofs.Ytmmomohapflagaa
