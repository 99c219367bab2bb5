/-
  What is drawn, in words of 'Tot': each draw comes to something.
-/
import Derived.Test.YtdgiianbihfkoaaVyC
import Derived.Test.YtdgiianbihfkoaaVaF
open Go Go.VS
namespace Go.VxW
theorem Cur.eta {c : L1Cur} {b : Int} (h : Cur c b) : Cur ⟨c.Code, c.At, c.Seed⟩ b := h
theorem pick_t {c : L1Cur} {b n : Int} (h : Cur c b) (hb : b ≤ 4000000000000000000) : Tot (spec_l1Cur_pick c n) fun r => 0 ≤ r.1 ∧ (1 ≤ n → r.1 < n) ∧ Cur r.2 (b + 2) := by
  obtain ⟨x, d, e, ⟨h1, h2⟩, h3⟩ := pick_ok (n := n) h hb
  exact ⟨_, e, h1, h2, h3⟩
theorem one_t {c : L1Cur} {b n : Int} (h : Cur c b) (hb : b ≤ 4000000000000000000) : Tot (spec_l1Cur_one c n) fun r => Cur r.2 (b + 2) := by
  obtain ⟨x, d, e, h3⟩ := one_ok (n := n) h hb
  exact ⟨_, e, h3⟩
theorem among_t {c : L1Cur} {b : Int} {l : List Int} (h : Cur c b) (hb : b ≤ 4000000000000000000) (hl : l ≠ []) : Tot (spec_l1Cur_among c l) fun r => r.1 ∈ l ∧ Cur r.2 (b + 2) := by
  obtain ⟨x, d, e, h2, h3⟩ := among_ok h hb hl
  exact ⟨_, e, h2, h3⟩
end Go.VxW
