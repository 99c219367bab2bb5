/-
  FnWays: the letters go where they arrive first; the law.
-/
import Derived.Test.YtdgiianbihfkoaaVpW
open Go Go.VS
namespace Go.VxW

theorem ixf_impl_Way {l : List Way} (hl : l.length < 2 ^ 60) {g : Way → Option Bool} (p : Way → Bool) (hg : ∀ x ∈ l, g x = some (p x)) : slices_IndexFunc_impl_Way l g = some (ixF p l) := by
  unfold slices_IndexFunc_impl_Way
  rw [ixf_go p (f := slices_IndexFunc_impl_Way_l0 l g) (fun _ => rfl) hl hg]
  have := ixF_ge p l
  by_cases h : ixF p l < 0
  · rw [if_pos h]; simp; omega
  · rw [if_neg h]; rfl
theorem cf_impl_Way {l : List Way} (hl : l.length < 2 ^ 60) {g : Way → Option Bool} (p : Way → Bool) (hg : ∀ x ∈ l, g x = some (p x)) : slices_ContainsFunc_impl_Way l g = some (l.any p) := by
  unfold slices_ContainsFunc_impl_Way
  rw [ixf_impl_Way hl p hg, Option.bind_some, ixF_any]
def wayB1 (w : Way) : Bool := inB w.Delay 0 100 && inB w.Every 1 20
def wayB (ws : List Way) : Bool := inB (ws.length : Int) 1 4 && ws.all wayB1
theorem iWays {ws : List Way} (hl : ws.length ≤ 1048576) : impl_areWays ws = some (wayB ws) := by
  unfold impl_areWays wayB
  rw [iIn, cf_impl_Way (by omega) (fun w => !wayB1 w) (fun w _ => by
    unfold impl_areWays_1 wayB1
    rw [iIn, iIn]
    cases inB w.Delay 0 100 <;> rfl)]
  have : (!ws.any fun w => !wayB1 w) = ws.all wayB1 := by simp [List.all_eq_not_any_not]
  simp only [Option.bind_some, this]
  cases inB (ws.length : Int) 1 4 <;> rfl
theorem sWays {ws : List Way} (hl : ws.length ≤ 1048576) : spec_l14Ways ws = some (wayB ws) := by
  unfold spec_l14Ways wayB
  rw [whl_lg ws (spec_l14Ways_l0 ws) (fun k (_ : Unit) => k) (fun _ x s => if wayB1 x then .next s else .done (.done false)) (fun _ => .next ()) (fun k hk s => by
    simp only [spec_l14Ways_l0]
    rw [dec_t (by omega), idx_lt hk, w64 (by omega)]
    simp only [cond_true, Option.bind_some, sIn]
    by_cases h1 : inB ws[k].Delay 0 100 = true <;> by_cases h2 : inB ws[k].Every 1 20 = true <;> simp [wayB1, h1, h2, LR.mapN]) (fun s => by simp [spec_l14Ways_l0]) (), lgo_all _ _ (fun _ _ _ => rfl), sIn]
  cases ws.all wayB1 <;> cases inB (ws.length : Int) 1 4 <;> rfl
theorem wayB_iff {ws : List Way} (h : wayB ws = true) : (1 ≤ ws.length ∧ ws.length ≤ 4) ∧ ∀ w ∈ ws, (0 ≤ w.Delay ∧ w.Delay ≤ 100) ∧ 1 ≤ w.Every ∧ w.Every ≤ 20 := by
  unfold wayB wayB1 at h
  simp only [Bool.and_eq_true, List.all_eq_true, inB_iff] at h
  exact ⟨by omega, h.2⟩

/-! the last arrival -/
def lastU (s : Int) (p : Way × Int) : Int := if 0 < p.2 then (if p.1.Delay + p.1.Every * (p.2 - 1) > s then p.1.Delay + p.1.Every * (p.2 - 1) else s) else s
def lastL (ws : List Way) (cs : List Int) : Int := (ws.zip cs).foldl lastU 0
theorem last_le {T : Int} : ∀ (ws : List Way) (cs : List Int) (s : Int), (ws.zip cs).foldl lastU s ≤ T ↔ s ≤ T ∧ ∀ (i : Nat) (w : Way) (c : Int), ws[i]? = some w → cs[i]? = some c → 0 < c → w.Delay + w.Every * (c - 1) ≤ T
  | [], cs, s => by simp
  | w :: ws, [], s => by simp
  | w :: ws, c :: cs, s => by
    simp only [List.zip_cons_cons, List.foldl_cons]
    rw [last_le ws cs]
    constructor
    · rintro ⟨h1, h2⟩
      unfold lastU at h1
      refine ⟨by (repeat' split at h1) <;> omega, ?_⟩
      intro i
      cases i with
      | zero =>
        intro w' c' hw hc h0
        simp only [List.getElem?_cons_zero, Option.some.injEq] at hw hc
        subst hw hc
        simp only [h0, if_true] at h1
        split at h1 <;> omega
      | succ i => intro w' c' hw hc h0; exact h2 i w' c' (by simpa using hw) (by simpa using hc) h0
    · rintro ⟨h1, h2⟩
      refine ⟨?_, fun i w' c' hw hc h0 => h2 (i + 1) w' c' (by simpa using hw) (by simpa using hc) h0⟩
      have := h2 0 w c rfl rfl
      unfold lastU
      dsimp only
      (repeat' split) <;> omega
theorem mul_cost {e c : Int} (he : 1 ≤ e ∧ e ≤ 20) (hc : 0 ≤ c ∧ c ≤ 1000) : 0 ≤ e * c ∧ e * c ≤ 20000 :=
  ⟨Int.mul_nonneg (by omega) hc.1, Int.le_trans (Int.mul_le_mul he.2 hc.2 hc.1 (by omega)) (by omega)⟩
theorem iLast {ws : List Way} {cs : List Int} (hw : wayB ws = true) (hl : cs.length = ws.length) (hc : ∀ c ∈ cs, 0 ≤ c ∧ c ≤ 1000) : impl_last ws cs = some (lastL ws cs) := by
  obtain ⟨w1, w2⟩ := wayB_iff hw
  unfold impl_last lastL
  have hz : (ws.zip cs).length = ws.length := by rw [List.length_zip]; omega
  have := whl_lgo (ws.zip cs) (impl_last_l0 ws cs) (fun k s => (s, k)) (fun _ p s => .next (lastU s p)) (fun s => s) (fun _ s => True) (fun k hk s _ => by
    have h1 : k < ws.length := by omega
    have h2 : k < cs.length := by omega
    have e1 := w2 _ (List.getElem_mem h1)
    have e2 := hc _ (List.getElem_mem h2)
    simp only [impl_last_l0]
    rw [dec_t (by omega), idx_lt h1, idx_lt h2]
    simp only [cond_true, Option.bind_some, List.getElem_zip, lastU]
    refine ⟨?_, fun _ _ => trivial⟩
    by_cases h0 : 0 < cs[k]
    · have := mul_cost e1.2 (c := cs[k] - 1) (by omega)
      rw [dec_t h0, if_pos h0, w64 (x := cs[k] - 1) (by omega), w64 (x := ws[k].Every * (cs[k] - 1)) (by omega), w64 (x := ws[k].Delay + ws[k].Every * (cs[k] - 1)) (by omega), w64 (by omega)]
      rfl
    · rw [dec_f h0, if_neg h0, w64 (x := (k : Int) + 1) (by omega)]; rfl) (fun s _ => by
    rw [hz]; simp [impl_last_l0]) 0 trivial
  rw [this, lgo_fold lastU (fun _ _ _ => rfl)]
  rfl
theorem sLast {ws : List Way} {cs : List Int} (hw : wayB ws = true) (hl : cs.length = ws.length) (hc : ∀ c ∈ cs, 0 ≤ c ∧ c ≤ 1000) : spec_l14Last ws cs = some (lastL ws cs) := by
  obtain ⟨w1, w2⟩ := wayB_iff hw
  unfold spec_l14Last lastL
  have hz : (ws.zip cs).length = cs.length := by rw [List.length_zip]; omega
  have := whl_lgo (ws.zip cs) (spec_l14Last_l0 ws cs) (fun k s => (s, k)) (fun _ p s => .next (lastU s p)) (fun s => s) (fun _ s => True) (fun k hk s _ => by
    have h1 : k < ws.length := by omega
    have h2 : k < cs.length := by omega
    have e1 := w2 _ (List.getElem_mem h1)
    have e2 := hc _ (List.getElem_mem h2)
    simp only [spec_l14Last_l0, sMost]
    rw [dec_t (by omega), idx_lt h1, idx_lt h2]
    simp only [cond_true, Option.bind_some, List.getElem_zip, lastU]
    refine ⟨?_, fun _ _ => trivial⟩
    by_cases h0 : 0 < cs[k]
    · have := mul_cost e1.2 (c := cs[k] - 1) (by omega)
      rw [dec_t h0, if_pos h0, w64 (x := cs[k] - 1) (by omega), Int.mul_comm (cs[k] - 1), w64 (x := ws[k].Every * (cs[k] - 1)) (by omega), w64 (x := ws[k].Delay + ws[k].Every * (cs[k] - 1)) (by omega), w64 (by omega)]
      simp only [cond_true, Option.bind_some, LR.mapN, Option.some.injEq, LR.next.injEq, Prod.mk.injEq, and_true]
      split <;> split <;> omega
    · rw [dec_f h0, if_neg h0, w64 (x := (k : Int) + 1) (by omega)]; rfl) (fun s _ => by
    rw [hz]; simp [spec_l14Last_l0]) 0 trivial
  rw [this, lgo_fold lastU (fun _ _ _ => rfl)]
  rfl
def lastLF (ws : List Way) (cs : List Int) : Int × Bool := if wayB ws && (decide (cs.length = ws.length) && cs.all (inB · 0 40)) then (lastL ws cs, true) else (0, false)
theorem iLastA {ws : List Way} {cs : List Int} (h1 : ws.length ≤ 1048576) (h2 : cs.length ≤ 1048576) : impl_LastArrival ws cs = some (lastLF ws cs) := by
  unfold impl_LastArrival lastLF
  rw [iWays h1, cf_int (by omega) (fun x => !inB x 0 40) (fun x _ => by simp [impl_LastArrival_1, iIn])]
  cases hw : wayB ws
  · rfl
  by_cases he : cs.length = ws.length
  · rw [show ((cs.length : Int) != (ws.length : Int)) = false by simp [he], dec_t he]
    have e : (cs.any fun x => !inB x 0 40) = !cs.all (inB · 0 40) := by simp [List.all_eq_not_any_not]
    simp only [Option.bind_some, Bool.not_true, cond_false, e]
    cases ha : cs.all (inB · 0 40)
    · rfl
    · simp only [Bool.not_true, cond_false]
      rw [iLast hw he (fun c hc => by have := inB_iff.1 (List.all_eq_true.1 ha c hc); omega)]
      rfl
  · rw [show ((cs.length : Int) != (ws.length : Int)) = true by simp <;> omega, dec_f he]; rfl
theorem sLastA {ws : List Way} {cs : List Int} (h1 : ws.length ≤ 1048576) (h2 : cs.length ≤ 1048576) : spec_LastArrival ws cs = some (lastLF ws cs) := by
  unfold spec_LastArrival lastLF
  rw [sWays h1, sAll h2]
  cases hw : wayB ws
  · rfl
  by_cases he : cs.length = ws.length
  · rw [show ((cs.length : Int) != (ws.length : Int)) = false by simp [he], dec_t he]
    simp only [Option.bind_some, Bool.not_true, cond_false]
    cases ha : cs.all (inB · 0 40)
    · rfl
    · simp only [Bool.not_true, cond_false]
      rw [sLast hw he (fun c hc => by have := inB_iff.1 (List.all_eq_true.1 ha c hc); omega)]
      rfl
  · rw [show ((cs.length : Int) != (ws.length : Int)) = true by simp <;> omega, dec_f he]; rfl

/-! where the next goes -/
def nx (ws : List Way) (cs : List Int) (k : Nat) : Int := match ws[k]?, cs[k]? with
  | some w, some c => w.Delay + w.Every * c
  | _, _ => 0
def bestU (ws : List Way) (cs : List Int) (b k : Nat) : Nat := if nx ws cs k < nx ws cs b then k else b
def bestL (ws : List Way) (cs : List Int) : Nat := (List.range ws.length).foldl (bestU ws cs) 0
theorem best_fold (ws : List Way) (cs : List Int) {n : Nat} : ∀ (l : List Nat) (b : Nat), b < n → (∀ k ∈ l, k < n) → l.foldl (bestU ws cs) b < n ∧ nx ws cs (l.foldl (bestU ws cs) b) ≤ nx ws cs b ∧ ∀ k ∈ l, nx ws cs (l.foldl (bestU ws cs) b) ≤ nx ws cs k
  | [], b, hb, _ => ⟨hb, by simp, by simp⟩
  | x :: xs, b, hb, hl => by
    have hx := hl x (by simp)
    simp only [List.foldl_cons]
    obtain ⟨h1, h2, h3⟩ := best_fold ws cs xs (bestU ws cs b x) (by unfold bestU; split <;> omega) (fun k hk => hl k (by simp [hk]))
    have : nx ws cs (bestU ws cs b x) ≤ nx ws cs b ∧ nx ws cs (bestU ws cs b x) ≤ nx ws cs x := by unfold bestU; split <;> omega
    refine ⟨h1, by omega, ?_⟩
    intro k hk
    simp only [List.mem_cons] at hk
    rcases hk with rfl | hk
    · omega
    · exact h3 k hk
theorem best_ok (ws : List Way) (cs : List Int) (h : 1 ≤ ws.length) : bestL ws cs < ws.length ∧ ∀ k, k < ws.length → nx ws cs (bestL ws cs) ≤ nx ws cs k := by
  have := best_fold ws cs (n := ws.length) (List.range ws.length) 0 (by omega) (fun k hk => by simpa using hk)
  exact ⟨this.1, fun k hk => this.2.2 k (by simpa using hk)⟩
theorem nx_at {ws : List Way} {cs : List Int} {k : Nat} (h1 : k < ws.length) (h2 : k < cs.length) : nx ws cs k = ws[k].Delay + ws[k].Every * cs[k] := by
  unfold nx
  rw [List.getElem?_eq_getElem h1, List.getElem?_eq_getElem h2]
theorem iBest {ws : List Way} {cs : List Int} (hw : wayB ws = true) (hl : cs.length = ws.length) (hc : ∀ c ∈ cs, 0 ≤ c ∧ c ≤ 40) : whl (impl_ArriveAll_l0 ws cs) (0, 0) = some (bestL ws cs : Int) := by
  obtain ⟨w1, w2⟩ := wayB_iff hw
  have cost : ∀ (k : Nat), k < ws.length → impl_ArriveAll_1 k ws cs = some (nx ws cs k) := fun k hk => by
    have hk2 : k < cs.length := by omega
    have e1 := w2 _ (List.getElem_mem hk)
    have e2 := hc _ (List.getElem_mem hk2)
    have := mul_cost e1.2 (c := cs[k]) (by omega)
    unfold impl_ArriveAll_1
    rw [idx_lt hk, idx_lt hk2, nx_at hk hk2]
    simp only [Option.bind_some]
    rw [w64 (x := ws[k].Every * cs[k]) (by omega), w64 (by omega)]
  have := whl_lgo (List.range ws.length) (impl_ArriveAll_l0 ws cs) (fun k (b : Nat) => ((b : Int), k)) (fun _ k b => .next (bestU ws cs b k)) (fun b => (b : Int)) (fun _ b => b < ws.length) (fun k hk b hb => by
    rw [List.length_range] at hk
    simp only [impl_ArriveAll_l0]
    rw [dec_t (by omega), cost k hk, cost b hb]
    simp only [cond_true, Option.bind_some, List.getElem_range]
    rw [w64 (by omega)]
    refine ⟨?_, ?_⟩
    · unfold bestU
      by_cases h : nx ws cs k < nx ws cs b
      · rw [dec_t h, if_pos h]; rfl
      · rw [dec_f h, if_neg h]; rfl
    · intro s' h
      simp only [LR.next.injEq] at h
      subst h
      unfold bestU; split <;> omega) (fun s _ => by simp [impl_ArriveAll_l0]) 0 (by omega)
  rw [show ((0 : Nat) : Int) = 0 from rfl] at this
  rw [this, lgo_fold (bestU ws cs) (fun _ _ _ => rfl)]
  rfl
theorem sBest {ws : List Way} {cs : List Int} (hw : wayB ws = true) (hl : cs.length = ws.length) (hc : ∀ c ∈ cs, 0 ≤ c ∧ c ≤ 40) : whl (spec_l14Arrive_l0 ws cs) (0, 0) = some (bestL ws cs : Int) := by
  obtain ⟨w1, w2⟩ := wayB_iff hw
  have := whl_lgo (List.range ws.length) (spec_l14Arrive_l0 ws cs) (fun k (b : Nat) => ((b : Int), k)) (fun _ k b => .next (bestU ws cs b k)) (fun b => (b : Int)) (fun _ b => b < ws.length) (fun k hk b hb => by
    rw [List.length_range] at hk
    have hk2 : k < cs.length := by omega
    have hb2 : b < cs.length := by omega
    have e1 := w2 _ (List.getElem_mem hk)
    have e2 := hc _ (List.getElem_mem hk2)
    have e3 := w2 _ (List.getElem_mem hb)
    have e4 := hc _ (List.getElem_mem hb2)
    have m1 := mul_cost e1.2 (c := cs[k]) (by omega)
    have m2 := mul_cost e3.2 (c := cs[b]) (by omega)
    simp only [spec_l14Arrive_l0]
    rw [dec_t (by omega), idx_lt hk, idx_lt hb, idx_lt hk2, idx_lt hb2]
    simp only [cond_true, Option.bind_some, List.getElem_range]
    rw [Int.mul_comm cs[k], Int.mul_comm cs[b], w64 (x := ws[k].Every * cs[k]) (by omega), w64 (x := ws[b].Every * cs[b]) (by omega), w64 (x := ws[k].Delay + ws[k].Every * cs[k]) (by omega), w64 (x := ws[b].Delay + ws[b].Every * cs[b]) (by omega), ← nx_at hk hk2, ← nx_at hb hb2]
    rw [w64 (by omega)]
    refine ⟨?_, ?_⟩
    · unfold bestU
      by_cases h : nx ws cs k < nx ws cs b
      · rw [dec_t h, if_pos h]; rfl
      · rw [dec_f h, if_neg h]; rfl
    · intro s' h
      simp only [LR.next.injEq] at h
      subst h
      unfold bestU; split <;> omega) (fun s _ => by simp [spec_l14Arrive_l0]) 0 (by omega)
  rw [show ((0 : Nat) : Int) = 0 from rfl] at this
  rw [this, lgo_fold (bestU ws cs) (fun _ _ _ => rfl)]
  rfl
def bump (ws : List Way) (cs : List Int) : List Int := cs.set (bestL ws cs) (cs.getD (bestL ws cs) 0 + 1)
def arrF (ws : List Way) : Nat → List Int → List Int
  | 0, cs => cs
  | j + 1, cs => arrF ws j (bump ws cs)
theorem arrF_bump (ws : List Way) (j : Nat) (cs : List Int) : arrF ws (j + 1) cs = bump ws (arrF ws j cs) := by
  induction j generalizing cs with
  | zero => rfl
  | succ j ih => rw [arrF, ih]; rfl
theorem bump_in {ws : List Way} {cs : List Int} {k : Int} (hk : ∀ c ∈ cs, 0 ≤ c ∧ c ≤ k) : ∀ c ∈ bump ws cs, 0 ≤ c ∧ c ≤ k + 1 := by
  intro c h
  rcases List.mem_or_eq_of_mem_set h with h | rfl
  · have := hk c h; omega
  · rw [List.getD_eq_getElem?_getD]
    by_cases hb : bestL ws cs < cs.length
    · rw [List.getElem?_eq_getElem hb]
      have := hk _ (List.getElem_mem hb)
      simp only [Option.getD_some]; omega
    · unfold bump at h
      rw [List.set_eq_of_length_le (by omega)] at h
      have := hk _ h
      rw [List.getD_eq_getElem?_getD, List.getElem?_eq_none (by omega)] at this
      rw [List.getElem?_eq_none (by omega)]
      exact ⟨this.1, by omega⟩
theorem bump_len (ws : List Way) (cs : List Int) : (bump ws cs).length = cs.length := by simp [bump]
theorem bump_idx {ws : List Way} {cs : List Int} (h : bestL ws cs < cs.length) : cs.getD (bestL ws cs) 0 = cs[bestL ws cs] := by
  rw [List.getD_eq_getElem?_getD, List.getElem?_eq_getElem h]; rfl
theorem iArr_go {ws : List Way} (hw : wayB ws = true) {m : Nat} (hm : m ≤ 40) : ∀ (j k : Nat) (cs : List Int), k + j = m → cs.length = ws.length → (∀ c ∈ cs, 0 ≤ c ∧ c ≤ k) → whl (impl_ArriveAll_l1 ws m) ((k : Int), cs) = some (arrF ws j cs) := by
  obtain ⟨w1, w2⟩ := wayB_iff hw
  intro j
  induction j with
  | zero =>
    intro k cs h1 h2 h3
    rw [whl_eq]
    simp only [impl_ArriveAll_l1]
    rw [dec_f (by omega)]; rfl
  | succ j ih =>
    intro k cs h1 h2 h3
    have hb : bestL ws cs < cs.length := by rw [h2]; exact (best_ok ws cs w1.1).1
    have hc := h3 _ (List.getElem_mem hb)
    rw [whl_eq]
    simp only [impl_ArriveAll_l1]
    rw [dec_t (by omega), iBest hw h2 (fun c hc => by have := h3 c hc; omega)]
    simp only [cond_true, Option.bind_some, idx_lt hb, Int.toNat_natCast]
    rw [w64 (by omega), w64 (by omega), show (k : Int) + 1 = ((k + 1 : Nat) : Int) by omega]
    have := ih (k + 1) (bump ws cs) (by omega) (by rw [bump_len, h2]) (fun c hc => by have := bump_in h3 c hc; omega)
    unfold bump at this
    rw [bump_idx hb] at this
    rw [this]
    simp only [arrF, bump, bump_idx hb]
theorem sArr_go {ws : List Way} (hw : wayB ws = true) : ∀ (j : Nat) (cs : List Int), j ≤ 40 → cs.length = ws.length → (∀ c ∈ cs, 0 ≤ c ∧ c ≤ 40 - j) → whl (spec_l14Arrive_l1 ws) ((j : Int), cs) = some (arrF ws j cs) := by
  obtain ⟨w1, w2⟩ := wayB_iff hw
  intro j
  induction j with
  | zero =>
    intro cs h1 h2 h3
    rw [whl_eq]; rfl
  | succ j ih =>
    intro cs h1 h2 h3
    have hb : bestL ws cs < cs.length := by rw [h2]; exact (best_ok ws cs w1.1).1
    have hc := h3 _ (List.getElem_mem hb)
    rw [whl_eq]
    simp only [spec_l14Arrive_l1]
    rw [dec_t (by omega), sBest hw h2 (fun c hc => by have := h3 c hc; omega)]
    simp only [cond_true, Option.bind_some, idx_lt hb, Int.toNat_natCast]
    rw [w64 (by omega), w64 (by omega), show ((j + 1 : Nat) : Int) - 1 = (j : Int) by omega]
    have := ih (bump ws cs) (by omega) (by rw [bump_len, h2]) (fun c hc => by have := bump_in h3 c hc; omega)
    unfold bump at this
    rw [bump_idx hb] at this
    rw [this]
    simp only [arrF, bump, bump_idx hb]
theorem arr_in (ws : List Way) : ∀ (j : Nat) (cs : List Int) (k : Int), (∀ c ∈ cs, 0 ≤ c ∧ c ≤ k) → (arrF ws j cs).length = cs.length ∧ ∀ c ∈ arrF ws j cs, 0 ≤ c ∧ c ≤ k + j
  | 0, cs, k, h => ⟨rfl, fun c hc => by have := h c hc; omega⟩
  | j + 1, cs, k, h => by
    have := arr_in ws j (bump ws cs) (k + 1) (bump_in h)
    rw [bump_len] at this
    refine ⟨this.1, fun c hc => ?_⟩
    have := this.2 c hc
    omega
def zeros (ws : List Way) : List Int := List.replicate ws.length 0
theorem zeros_in (ws : List Way) : ∀ c ∈ zeros ws, 0 ≤ c ∧ c ≤ (0 : Int) := fun c hc => by rw [List.eq_of_mem_replicate hc]; omega
def arrLF (ws : List Way) (m : Int) : List Int × Int × Bool := if wayB ws && inB m 0 40 then (arrF ws m.toNat (zeros ws), lastL ws (arrF ws m.toNat (zeros ws)), true) else ([], 0, false)
theorem iArr {ws : List Way} {m : Int} (hl : ws.length ≤ 1048576) : impl_ArriveAll ws m = some (arrLF ws m) := by
  unfold impl_ArriveAll arrLF
  rw [iWays hl, iIn]
  cases hw : wayB ws
  · rfl
  cases hm : inB m 0 40
  · rfl
  rw [inB_iff] at hm
  obtain ⟨k, rfl⟩ := Int.eq_ofNat_of_zero_le hm.1
  simp only [Option.bind_some, Bool.not_true, cond_false]
  rw [mkL_in (by omega) (by omega) (by omega)]
  simp only [Option.bind_some, Int.toNat_natCast]
  have := iArr_go hw (m := k) (by omega) k 0 (zeros ws) (by omega) (by simp [zeros]) (fun c hc => by have := zeros_in ws c hc; omega)
  rw [show ((0 : Nat) : Int) = 0 from rfl] at this
  unfold zeros at this
  rw [this]
  have ha := arr_in ws k (zeros ws) 0 (zeros_in ws)
  simp only [Option.bind_some]
  rw [iLast hw (by rw [show List.replicate ws.length (0 : Int) = zeros ws from rfl, ha.1]; simp [zeros]) (fun c hc => by have := ha.2 c hc; omega)]
  rfl
theorem sArr {ws : List Way} {m : Int} (hl : ws.length ≤ 1048576) : spec_ArriveAll ws m = some (arrLF ws m) := by
  unfold spec_ArriveAll arrLF spec_l14Arrive
  rw [sWays hl, sIn]
  cases hw : wayB ws
  · rfl
  cases hm : inB m 0 40
  · rfl
  rw [inB_iff] at hm
  obtain ⟨k, rfl⟩ := Int.eq_ofNat_of_zero_le hm.1
  simp only [Option.bind_some, Bool.not_true, cond_false]
  rw [mkL_in (by omega) (by omega) (by omega)]
  simp only [Option.bind_some, Int.toNat_natCast]
  have := sArr_go hw k (zeros ws) (by omega) (by simp [zeros]) (fun c hc => by have := zeros_in ws c hc; omega)
  unfold zeros at this
  rw [this]
  have ha := arr_in ws k (zeros ws) 0 (zeros_in ws)
  simp only [Option.bind_some]
  rw [sLast hw (by rw [show List.replicate ws.length (0 : Int) = zeros ws from rfl, ha.1]; simp [zeros]) (fun c hc => by have := ha.2 c hc; omega)]
  rfl

/-! no other counts are sooner -/
theorem sum_set : ∀ (l : List Int) (k : Nat) (v : Int) (h : k < l.length), sumL (l.set k v) = sumL l - l[k] + v
  | x :: xs, 0, v, _ => by simp [sumL]; omega
  | x :: xs, k + 1, v, h => by
    simp only [List.set_cons_succ, sumL, List.getElem_cons_succ]
    rw [sum_set xs k v (by simpa using h)]; omega
theorem bump_sum {ws : List Way} {cs : List Int} (h : bestL ws cs < cs.length) : sumL (bump ws cs) = sumL cs + 1 := by
  unfold bump
  rw [sum_set _ _ _ h, bump_idx h]; omega
theorem sum_le : ∀ (a b : List Int), a.length = b.length → (∀ (i : Nat) (x y : Int), a[i]? = some x → b[i]? = some y → x ≤ y) → sumL a ≤ sumL b
  | [], [], _, _ => by simp
  | [], _ :: _, h, _ => by simp at h
  | _ :: _, [], h, _ => by simp at h
  | x :: xs, y :: ys, h, hh => by
    have h0 := hh 0 x y rfl rfl
    have := sum_le xs ys (by simpa using h) (fun i a b ha hb => hh (i + 1) a b (by simpa using ha) (by simpa using hb))
    simp only [sumL]; omega
theorem bump_last {ws : List Way} {cs : List Int} {T : Int} (hl : cs.length = ws.length) (h1 : 1 ≤ ws.length) (h : lastL ws cs ≤ T) (hn : nx ws cs (bestL ws cs) ≤ T) : lastL ws (bump ws cs) ≤ T := by
  have hb : bestL ws cs < cs.length := by rw [hl]; exact (best_ok ws cs h1).1
  unfold lastL at h ⊢
  rw [last_le] at h ⊢
  refine ⟨h.1, ?_⟩
  intro i w c hw hc h0
  unfold bump at hc
  rw [List.getElem?_set] at hc
  split at hc
  · rename_i he
    subst he
    simp only [Option.some.injEq] at hc
    have hw' : bestL ws cs < ws.length := by omega
    rw [nx_at hw' hb] at hn
    rw [List.getElem?_eq_getElem hw'] at hw
    simp only [Option.some.injEq] at hw
    rw [bump_idx hb] at hc
    subst hw hc
    rw [show cs[bestL ws cs] + 1 - 1 = cs[bestL ws cs] by omega]
    exact hn
  · exact h.2 i w c hw hc h0
theorem last_bump {ws : List Way} {cs : List Int} (hl : cs.length = ws.length) (h1 : 1 ≤ ws.length) (hE : ∀ w ∈ ws, (0 ≤ w.Delay ∧ w.Delay ≤ 100) ∧ 1 ≤ w.Every ∧ w.Every ≤ 20) : lastL ws cs ≤ lastL ws (bump ws cs) := by
  have hb : bestL ws cs < cs.length := by rw [hl]; exact (best_ok ws cs h1).1
  have hh := (last_le ws (bump ws cs) 0 (T := lastL ws (bump ws cs))).1 (Int.le_refl _)
  unfold lastL at hh ⊢
  rw [last_le]
  refine ⟨hh.1, ?_⟩
  intro i w c hw hc h0
  by_cases he : bestL ws cs = i
  · have hc' : (bump ws cs)[i]? = some (c + 1) := by
      unfold bump
      rw [List.getElem?_set, if_pos he, if_pos hb, bump_idx hb]
      subst he
      rw [List.getElem?_eq_getElem hb] at hc
      simp only [Option.some.injEq] at hc
      rw [hc]
    have := hh.2 i w (c + 1) hw hc' (by omega)
    have hw' := hE w (List.mem_of_getElem? hw)
    rw [show c + 1 - 1 = (c - 1) + 1 by omega, Int.mul_add, Int.mul_one] at this
    omega
  · exact hh.2 i w c hw (by unfold bump; rw [List.getElem?_set, if_neg he]; exact hc) h0
/-- As long as fewer went than the other counts hold, the next arrives no later than their last. -/
theorem greedy {ws : List Way} {cs : List Int} {T : Int} (hw : wayB ws = true) (hl : cs.length = ws.length) (hT : lastL ws cs ≤ T) : ∀ (j : Nat), (j : Int) ≤ sumL cs → lastL ws (arrF ws j (zeros ws)) ≤ T ∧ sumL (arrF ws j (zeros ws)) = j := by
  obtain ⟨w1, w2⟩ := wayB_iff hw
  have hT' := (last_le ws cs 0 (T := T)).1 hT
  have hz : sumL (zeros ws) = 0 := by
    unfold zeros
    induction ws.length with
    | zero => rfl
    | succ n ih => simp [List.replicate_succ, sumL, ih]
  intro j
  induction j with
  | zero =>
    intro _
    refine ⟨?_, hz⟩
    unfold lastL
    rw [last_le]
    refine ⟨hT'.1, ?_⟩
    intro i w c _ hc h0
    have : c ∈ zeros ws := List.mem_of_getElem? hc
    have := zeros_in ws c this
    omega
  | succ j ih =>
    intro hj
    obtain ⟨i1, i2⟩ := ih (by omega)
    rw [arrF_bump]
    have hin := arr_in ws j (zeros ws) 0 (zeros_in ws)
    generalize arrF ws j (zeros ws) = g at i1 i2 hin
    have hgl : g.length = ws.length := by rw [hin.1]; simp [zeros]
    have hb : bestL ws g < g.length := by rw [hgl]; exact (best_ok ws g w1.1).1
    refine ⟨?_, by rw [bump_sum hb, i2]; omega⟩
    by_cases hn : nx ws g (bestL ws g) ≤ T
    · exact bump_last hgl w1.1 i1 hn
    · exfalso
      have : sumL cs ≤ sumL g := by
        refine sum_le cs g (by omega) ?_
        intro i x y hx hy
        have hi : i < g.length := by
          rcases Nat.lt_or_ge i g.length with h | h
          · exact h
          · rw [List.getElem?_eq_none h] at hy; simp at hy
        have hi2 : i < ws.length := by omega
        have h1 := (best_ok ws g w1.1).2 i hi2
        rw [nx_at hi2 hi] at h1
        rw [List.getElem?_eq_getElem hi] at hy
        simp only [Option.some.injEq] at hy
        have h2 := hT'.2 i ws[i] x (List.getElem?_eq_getElem hi2) hx
        have hy0 := (hin.2 g[i] (List.getElem_mem hi)).1
        have hE := w2 _ (List.getElem_mem hi2)
        rw [← hy]
        by_cases h0 : 0 < x
        · have := h2 h0
          have hlt : ws[i].Every * (x - 1) < ws[i].Every * g[i] := by omega
          have := Int.lt_of_mul_lt_mul_left hlt (by omega)
          omega
        · omega
      omega

/-! what is drawn -/
theorem ways_t {c : L1Cur} {b : Int} (h : Cur c b) (hb : b ≤ 2000000000000000000) : Tot (spec_l1Cur_ways c) fun r => (1 ≤ r.1.length ∧ r.1.length ≤ 4) ∧ Cur r.2 (b + 100) := by
  unfold spec_l1Cur_ways
  refine Tot.then (pick_t (by assumption) (by omega)) ?_
  rintro ⟨y, c_y⟩ ⟨y_0, y_1, y_c⟩
  dsimp only at y_0 y_1 y_c ⊢
  have y_2 := y_1 (by omega)
  rw [w64 (x := 1 + y) (by omega)]
  refine Tot.then (P := fun r => (1 ≤ r.1.length ∧ r.1.length ≤ 4) ∧ Cur ⟨r.2.1, r.2.2.1, r.2.2.2⟩ (b + 50)) (Tot.whl (fun s => s.2.1.toNat) (fun s => ((0 ≤ s.2.1 ∧ s.2.1 ≤ 4) ∧ 1 ≤ s.1.length + s.2.1.toNat ∧ s.1.length + s.2.1.toNat ≤ 4) ∧ Cur ⟨s.2.2.1, s.2.2.2.1, s.2.2.2.2⟩ (b + 10 + 4 * (5 - s.2.1))) ?_ ⟨⟨(by first | omega | (dsimp only; omega)), by simp only [List.length_nil]; omega, by simp only [List.length_nil]; omega⟩, y_c.mono (by first | omega | (dsimp only; omega))⟩) ?_
  · rintro ⟨l, n, co, a, se⟩ ⟨⟨h1, h2, h3⟩, hc0⟩
    dsimp only at h1 h2 h3 hc0 ⊢
    unfold spec_l1Cur_ways_l0
    dsimp only
    refine Tot.cnd (fun hc => ?_) (fun hc => ?_)
    · simp only [decide_eq_true_eq] at hc
      refine Tot.then (pick_t (by assumption) (by omega)) ?_
      rintro ⟨z, c_z⟩ ⟨z_0, z_1, z_c⟩
      dsimp only at z_0 z_1 z_c ⊢
      refine Tot.then (pick_t (by assumption) (by omega)) ?_
      rintro ⟨w, c_w⟩ ⟨w_0, w_1, w_c⟩
      dsimp only at w_0 w_1 w_c ⊢
      rw [app_in (by simp <;> omega) (by omega)]
      simp only [Option.bind_some]
      rw [w64 (x := n - 1) (by omega)]
      exact .ret ⟨⟨⟨(by first | omega | (dsimp only; omega)), by simp only [List.length_append, List.length_singleton]; omega, by simp only [List.length_append, List.length_singleton]; omega⟩, w_c.mono (by first | omega | (dsimp only; omega))⟩, (by first | omega | (dsimp only; omega))⟩
    · simp only [decide_eq_false_iff_not, Int.not_lt] at hc
      exact .ret ⟨⟨(by first | omega | (dsimp only; omega)), (by first | omega | (dsimp only; omega))⟩, hc0.mono (by first | omega | (dsimp only; omega))⟩
  · rintro ⟨l, co, a, se⟩ ⟨h1, hc0⟩
    dsimp only at h1 hc0 ⊢
    refine Tot.then (one_t (by assumption) (by omega)) ?_
    rintro ⟨x, c_x⟩ x_c
    dsimp only at x_c ⊢
    refine Tot.then (P := fun r => (1 ≤ r.1.length ∧ r.1.length ≤ 4) ∧ Cur ⟨r.2.1, r.2.2.1, r.2.2.2⟩ (b + 100)) ?_ ?_
    · refine Tot.cnd (fun hc => ?_) (fun hc => ?_)
      · refine Tot.then (among_t (by assumption) (by omega) (by simp)) ?_
        rintro ⟨z, c_z⟩ ⟨z_m, z_c⟩
        dsimp only at z_m z_c ⊢
        refine Tot.then (among_t (by assumption) (by omega) (by simp)) ?_
        rintro ⟨w, c_w⟩ ⟨w_m, w_c⟩
        dsimp only at w_m w_c ⊢
        rw [idx_in (by omega) (by omega)]
        simp only [Option.bind_some]
        exact .ret ⟨⟨by simp only [List.length_set]; omega, by simp only [List.length_set]; omega⟩, w_c.mono (by omega)⟩
      · exact .ret ⟨h1, x_c.mono (by omega)⟩
    · rintro ⟨l', co', a', se'⟩ hc'
      exact .ret hc'
theorem drawArr {l : List Int} (hl : l.length ≤ 1048576) (hb : ∀ x ∈ l, 0 ≤ x ∧ x ≤ 255) : Tot (spec_DrawArriveAll l) fun r => r.1.length ≤ 4 := by
  unfold spec_DrawArriveAll
  have h := cur0 hl hb
  refine Tot.then (ways_t (by assumption) (by omega)) ?_
  rintro ⟨w, c_w⟩ ⟨w_p, w_c⟩
  dsimp only at w_p w_c ⊢
  refine Tot.then (among_t (by assumption) (by omega) (by simp)) ?_
  rintro ⟨m, c_m⟩ ⟨m_m, m_c⟩
  dsimp only at m_m m_c ⊢
  exact .ret w_p.2
theorem drawLast {l : List Int} (hl : l.length ≤ 1048576) (hb : ∀ x ∈ l, 0 ≤ x ∧ x ≤ 255) : Tot (spec_DrawLastArrival l) fun r => r.1.length ≤ 4 ∧ r.2.length ≤ 4 := by
  unfold spec_DrawLastArrival
  have h := cur0 hl hb
  refine Tot.then (ways_t (by assumption) (by omega)) ?_
  rintro ⟨w, c_w⟩ ⟨w_p, w_c⟩
  dsimp only at w_p w_c ⊢
  refine Tot.then (P := fun r => r.1.length = w.length ∧ Cur ⟨r.2.1, r.2.2.1, r.2.2.2⟩ 200) (Tot.whl (fun s => w.length - s.2.1.toNat) (fun s => ((0 ≤ s.2.1 ∧ s.2.1 ≤ w.length) ∧ s.1.length = s.2.1.toNat) ∧ Cur ⟨s.2.2.1, s.2.2.2.1, s.2.2.2.2⟩ (100 + 2 * s.2.1)) ?_ ⟨⟨⟨(by first | omega | (dsimp only; omega)), (by first | omega | (dsimp only; omega))⟩, by simp⟩, w_c.mono (by first | omega | (dsimp only; omega))⟩) ?_
  · rintro ⟨l, n, co, a, se⟩ ⟨⟨h1, h2⟩, hc0⟩
    dsimp only at h1 h2 hc0 ⊢
    unfold spec_DrawLastArrival_l0
    dsimp only
    refine Tot.cnd (fun hc => ?_) (fun hc => ?_)
    · simp only [decide_eq_true_eq] at hc
      refine Tot.then (pick_t (by assumption) (by omega)) ?_
      rintro ⟨z, c_z⟩ ⟨z_0, z_1, z_c⟩
      dsimp only at z_0 z_1 z_c ⊢
      rw [app_in (by simp <;> omega) (by omega)]
      simp only [Option.bind_some]
      rw [w64 (x := n + 1) (by omega)]
      exact .ret ⟨⟨⟨⟨(by first | omega | (dsimp only; omega)), (by first | omega | (dsimp only; omega))⟩, by simp only [List.length_append, List.length_singleton]; omega⟩, z_c.mono (by first | omega | (dsimp only; omega))⟩, (by first | omega | (dsimp only; omega))⟩
    · simp only [decide_eq_false_iff_not, Int.not_lt] at hc
      exact .ret ⟨(by first | omega | (dsimp only; omega)), hc0.mono (by first | omega | (dsimp only; omega))⟩
  · rintro ⟨l, co, a, se⟩ ⟨h1, hc0⟩
    dsimp only at h1 hc0 ⊢
    refine Tot.then (one_t (by assumption) (by omega)) ?_
    rintro ⟨x, c_x⟩ x_c
    dsimp only at x_c ⊢
    refine Tot.then (P := fun r => r.length ≤ 4) ?_ ?_
    · refine Tot.cnd (fun hc => ?_) (fun hc => ?_)
      · refine Tot.then (among_t (by assumption) (by omega) (by simp)) ?_
        rintro ⟨z, c_z⟩ ⟨z_m, z_c⟩
        dsimp only at z_m z_c ⊢
        rw [idx_in (by omega) (by omega)]
        simp only [Option.bind_some]
        exact .ret (by simp only [List.length_set]; omega)
      · exact .ret (by first | omega | (dsimp only; omega))
    · intro r hr
      exact .ret ⟨w_p.2, hr⟩
theorem pureWays (a b : List Int) (ha : a.length < 2 ^ 47) (hb : b.length < 2 ^ 47) (ka : ∀ x ∈ a, 0 ≤ x ∧ x ≤ 255) (kb : ∀ x ∈ b, 0 ≤ x ∧ x ≤ 255) : laws_FnWays a b = some true := by
  unfold laws_FnWays
  rw [w64 (by omega)]
  by_cases h : (1048576 : Int) < (a.length : Int) + (b.length : Int)
  · rw [dec_t h]; rfl
  rw [dec_f h]
  simp only [cond_false]
  obtain ⟨⟨ws, cs⟩, e1, n1, n2⟩ := drawLast (l := a) (by omega) ka
  obtain ⟨⟨vs, m⟩, e2, n3⟩ := drawArr (l := b) (by omega) kb
  dsimp only at n1 n2 n3
  simp only [e1, e2, Option.bind_some]
  rw [iLastA (by omega) (by omega), sLastA (by omega) (by omega), iArr (ws := vs) (by omega), sArr (ws := vs) (by omega)]
  simp only [Option.bind_some, beq_self_eq_true, Bool.not_true, cond_false, bne_self_eq_false]
  have hlen : (arrLF vs m).1.length ≤ 4 := by
    unfold arrLF
    split
    · dsimp only; rw [(arr_in vs m.toNat (zeros vs) 0 (zeros_in vs)).1]; simpa [zeros] using n3
    · simp
  rw [sameI (by omega)]
  simp only [Option.bind_some, Bool.not_true, cond_false]
  -- the second half
  have hlast : ((bif (arrLF vs m).2.2 then some (decide (m < 40)) else some false).bind fun x98 =>
      (bif x98 then (impl_ArriveAll vs (IntKind.i64.wrap (m + 1))).bind fun x => (bif !x.2.2 then some true else some (decide (x.2.1 < (arrLF vs m).2.1))).bind fun x117 =>
          bif x117 then some (LR.done false) else (whl (laws_FnWays_l0 (arrLF vs m).1 x.1) 0).bind fun y => match y with | LR.next () => some (LR.next ()) | LR.done z => some z
        else some (LR.next ()) : Option (LR Unit Bool)).bind fun y => match y with | LR.next () => some true | LR.done z => some z) = some true := by
    cases hk : (arrLF vs m).2.2
    · rfl
    · have hc : wayB vs = true ∧ (0 ≤ m ∧ m ≤ 40) := by
        unfold arrLF at hk
        split at hk
        · rename_i hc
          simp only [Bool.and_eq_true, inB_iff] at hc
          exact hc
        · simp at hk
      obtain ⟨hw, hm⟩ := hc
      simp only [cond_true, Option.bind_some]
      by_cases h40 : m < 40
      · rw [dec_t h40, w64 (by omega), iArr (by omega)]
        obtain ⟨k, rfl⟩ := Int.eq_ofNat_of_zero_le hm.1
        have e1 : arrLF vs k = (arrF vs k (zeros vs), lastL vs (arrF vs k (zeros vs)), true) := by
          unfold arrLF
          rw [hw, inB_iff.2 hm]; rfl
        have e2 : arrLF vs ((k : Int) + 1) = (bump vs (arrF vs k (zeros vs)), lastL vs (bump vs (arrF vs k (zeros vs))), true) := by
          unfold arrLF
          rw [hw, inB_iff.2 ⟨by omega, by omega⟩]
          simp only [Bool.and_self, if_true]
          rw [show ((k : Int) + 1).toNat = k + 1 by omega, arrF_bump]
        rw [e1, e2]
        have hin := arr_in vs k (zeros vs) 0 (zeros_in vs)
        generalize arrF vs k (zeros vs) = g at hin ⊢
        obtain ⟨w1, w2⟩ := wayB_iff hw
        have hgl : g.length = vs.length := by rw [hin.1]; simp [zeros]
        have hb : bestL vs g < g.length := by rw [hgl]; exact (best_ok vs g w1.1).1
        have hup := last_bump hgl w1.1 w2
        simp only [cond_true, Option.bind_some, Bool.not_true, cond_false]
        rw [dec_f (by omega)]
        simp only [cond_false]
        rw [whl_lg g (laws_FnWays_l0 g (bump vs g)) (fun k (_ : Unit) => k) (fun _ x s => .next s) (fun _ => .next ()) (fun k hk s => by
          simp only [laws_FnWays_l0]
          have hk2 : k < (bump vs g).length := by rw [bump_len]; exact hk
          rw [dec_t (by omega), idx_lt hk, idx_lt hk2]
          have : ¬ (bump vs g)[k] < g[k] := by
            simp only [bump]
            rw [List.getElem_set]
            split
            · rename_i he
              subst he
              rw [bump_idx hb]; omega
            · omega
          simp only [cond_true, Option.bind_some]
          rw [dec_f this, w64 (by omega)]
          rfl) (fun s => by simp [laws_FnWays_l0]) (), lgo_fold (fun s _ => s) (fun _ _ _ => rfl)]
        rfl
      · rw [dec_f h40]; rfl
  cases hk : (lastLF ws cs).2
  · simp only [cond_false, Option.bind_some]
    exact hlast
  · have hc : wayB ws = true ∧ cs.length = ws.length ∧ ∀ c ∈ cs, 0 ≤ c ∧ c ≤ 40 := by
      unfold lastLF at hk
      split at hk
      · rename_i hc
        simp only [Bool.and_eq_true, decide_eq_true_eq, List.all_eq_true, inB_iff] at hc
        exact hc
      · simp at hk
    obtain ⟨hw, hl, hcs⟩ := hc
    have eL : lastLF ws cs = (lastL ws cs, true) := by
      unfold lastLF
      rw [hw, dec_t hl, List.all_eq_true.2 (fun c hc => inB_iff.2 (hcs c hc))]; rfl
    have hsum : ∀ (l : List Int), l.length ≤ 4 → (∀ c ∈ l, 0 ≤ c ∧ c ≤ 40) → laws_sumOf l = some (sumL l) := by
      intro l h1 h2
      unfold laws_sumOf
      rw [sum_go (l := l) (by omega) (fun x hx => by have := h2 x hx; omega) (fun k hk s => by simp only [laws_sumOf_l0]; rw [dec_t (by omega), idx_lt hk, w64 (x := (k : Int) + 1) (by omega)]; rfl) (fun s => by simp [laws_sumOf_l0])]; rfl
    have hnn : ∀ (l : List Int), (∀ c ∈ l, 0 ≤ c ∧ c ≤ (40 : Int)) → 0 ≤ sumL l := by
      intro l
      induction l with
      | nil => simp [sumL]
      | cons x xs ih =>
        intro h
        have := h x (by simp)
        have := ih (fun c hc => h c (by simp [hc]))
        simp only [sumL]; omega
    rw [hsum cs n2 hcs]
    simp only [cond_true, Option.bind_some]
    by_cases h40 : sumL cs ≤ 40
    · obtain ⟨k, hk2⟩ := Int.eq_ofNat_of_zero_le (hnn cs hcs)
      rw [dec_t h40, hk2, iArr (by omega)]
      have e1 : arrLF ws k = (arrF ws k (zeros ws), lastL ws (arrF ws k (zeros ws)), true) := by
        unfold arrLF
        rw [hw, inB_iff.2 ⟨by omega, by omega⟩]; rfl
      obtain ⟨g1, g2⟩ := greedy (T := lastL ws cs) hw hl (Int.le_refl _) k (by omega)
      have hin := arr_in ws k (zeros ws) 0 (zeros_in ws)
      rw [e1, eL]
      generalize arrF ws k (zeros ws) = g at hin g1 g2 ⊢
      have hgl : g.length = ws.length := by rw [hin.1]; simp [zeros]
      have hg40 : ∀ c ∈ g, 0 ≤ c ∧ c ≤ 40 := fun c hc => by have := hin.2 c hc; omega
      simp only [cond_true, Option.bind_some]
      rw [iLastA (by omega) (by omega), hsum g (by omega) hg40, g2]
      have eG : lastLF ws g = (lastL ws g, true) := by
        unfold lastLF
        rw [hw, dec_t hgl, List.all_eq_true.2 (fun c hc => inB_iff.2 (hg40 c hc))]; rfl
      rw [eG]
      simp only [Option.bind_some, Bool.not_true, cond_false, bne_self_eq_false]
      rw [dec_f (by omega)]
      simp only [Option.bind_some, cond_false]
      exact hlast
    · rw [dec_f h40]
      simp only [cond_false, Option.bind_some]
      exact hlast
end Go.VxW
