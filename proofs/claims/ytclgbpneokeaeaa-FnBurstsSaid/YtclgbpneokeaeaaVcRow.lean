/- FnBursts: at every input the call returns true and its arguments read afterwards as they read before. No condition beyond the statement's own. -/
import Derived.Test.YtclgbpneokeaeaaRows
import Derived.Test.YtclgbpneokeaeaaVcA
import Derived.Test.YtclgbpneokeaeaaVcH
import Derived.Test.YtclgbpneokeaeaaVcC
import Derived.ProofKit
namespace Go.Proofs.Ytclgbpneokeaeaa
open Go Go.VS Go.EI Go.ChangeShapes Go.WideShapes Go.ChangeAt Go.RowKit

set_option maxRecDepth 100000 in
theorem OO (os : Os) (started : os.Started) (H : Type) (enc : TypeId × Value → H) :
    ReturnsInHanded {} Try.checked os 4 .any (Rows.fnBurstsSpec.pre6 enc Try.prog Try.f4 Rows.fnBurstsRow.domain false) (Rows.fnBurstsSpec.post enc Try.prog Try.f4 false true false false) := by
  refine returnsInHanded_of_change_sized (C := Try.checked) own started (by kernel_rfl) Try.func4
    (ChangeSpec.witness6 (enc := enc) (C := Try.checked) false ⟨#[], #[.slice none 0 0, .slice none 0 0], []⟩ 8 (by kernel_rfl) (by kernel_rfl) (by kernel_rfl) (by kernel_rfl)) ?_
  intro W base args ds gs before KN hW hcnd az _
  have ww := hW
  obtain ⟨p, q, jc, hV, rfl, gT, qG⟩ := hW
  have hA : DataW.TrodAll enc Try.prog W 0 (fun _ => true) true [22, 22] args.toList ds p := jc
  obtain ⟨v0, QQ, d0, QR, QS, QT, e0, rfl, h0, OP⟩ := C1 hA
  obtain ⟨v1, QU, d1, QV, p1, q1, e1, rfl, h1, pb⟩ := C1 OP
  subst e1
  obtain ⟨rfl, rfl⟩ := C3 pb
  obtain rfl : args = #[v0, v1] := Array.toList_inj.1 e0
  obtain ⟨rfl, rfl⟩ := trodVars_none hV
  have fq : Value.okWide Try.prog W .any base 22 v0 := KN 0 22 v0 rfl rfl
  have u0 : Try.prog.underlying 22 = some (.slice 5) := by kernel_rfl
  have c0 := C0 fq (fun _ h => by rw [u0] at h; simp at h) (fun _ _ h => by rw [u0] at h; simp at h)
  obtain ⟨a0, k0, r0⟩ := Ko.CX h0 c0 az (j := 0) rfl rfl
  have z0 : a0.length < 2 ^ 47 := by simpa using C2 h0 c0 u0 r0 az (j := 0) rfl rfl (of_decide_eq_true (by kernel_rfl))
  have OQ : Value.okWide Try.prog W .any base 22 v1 := KN 1 22 v1 rfl rfl
  have u1 : Try.prog.underlying 22 = some (.slice 5) := by kernel_rfl
  have c1 := C0 OQ (fun _ h => by rw [u1] at h; simp at h) (fun _ _ h => by rw [u1] at h; simp at h)
  obtain ⟨a1, k1, r1⟩ := Ko.CX h1 c1 az (j := 1) rfl rfl
  have z1 : a1.length < 2 ^ 47 := by simpa using C2 h1 c1 u1 r1 az (j := 1) rfl rfl (of_decide_eq_true (by kernel_rfl))
  have hs := BD mixed hE hC zw (Mr (Oz a0 k0 z0 a1 k1 z1) (aE.nil ⟨0, []⟩) (P := fun v _ => v = .bool true) (fun _ _ => rfl))
  refine (CY hs W #[v0, v1] rfl (fun i x u hx hu => by
    match i with
    | 0 => simp at hx hu; subst hx; subst hu; exact r0
    | 1 => simp at hx hu; subst hx; subst hu; exact r1
    | i + 2 => simp at hx)).mono fun e W' ⟨he, hb⟩ => ?_
  subst he
  exact ⟨_, rfl, CZ (P := Try.prog) ww rfl ⟨rfl, rfl, rfl⟩ rfl (by kernel_rfl) laidOut (fun t ht => by
    have xF : Try.f4.params.toList = [22, 22] := rfl
    rw [xF] at ht
    simp only [List.mem_cons, List.not_mem_nil, or_false] at ht
    rcases ht with rfl | rfl
    all_goals exact ⟨by kernel_rfl, of_decide_eq_true (by kernel_rfl)⟩) hb⟩

theorem fnBursts_holds : Rows.FnBurstsSaid :=
  OpenClaim.holds_of_wide 4 Try.f4 rfl rfl rfl rfl rfl rfl rfl ⟨rfl, rfl, rfl, rfl, rfl⟩ rfl rfl rfl rfl rfl (by kernel_rfl) Try.func4 ON
    (of_decide_eq_true (by kernel_rfl)) (by unfold Func.isWrapper; first | (rw [if_pos (by decide +kernel)]; kernel_rfl) | (rw [if_neg (by decide +kernel)]; exact ⟨rfl, rfl⟩))
    (fun os started H enc _ => OO os started H enc)
end Go.Proofs.Ytclgbpneokeaeaa
