/-
  The plain law and all that it needs.
-/
import Derived.Test.YtcgnkhdeckgaaaaVhF
import Derived.Test.YtcgnkhdeckgaaaaVaF


open Go Go.VS
namespace Go.VxW
def inB (n a b : Int) : Bool := decide (a ≤ n) && decide (n ≤ b)
theorem sIn (n a b : Int) : spec_l1In n a b = some (inB n a b) := by
  unfold spec_l1In inB; cases decide (a ≤ n) <;> rfl
theorem iIn (n a b : Int) : impl_in n a b = some (inB n a b) := by
  unfold impl_in inB; cases decide (a ≤ n) <;> rfl
theorem inB_iff {n a b : Int} : inB n a b = true ↔ a ≤ n ∧ n ≤ b := by simp [inB]
theorem idx_some {α : Type} {l : List α} {i : Int} {x : α} : idx l i = some x ↔ 0 ≤ i ∧ i < l.length ∧ l[i.toNat]? = some x := by
  unfold idx
  constructor
  · intro h
    split at h
    · rename_i h0
      have := (List.getElem?_eq_some_iff.1 h).1
      exact ⟨h0, by omega, h⟩
    · simp at h
  · rintro ⟨h0, h1, h2⟩
    rw [if_pos h0]; exact h2
theorem idx_inB {α : Type} (l : List α) (i : Int) : (inB i 0 ((l.length : Int) - 1) = true ∧ ∃ x, idx l i = some x) ∨ (inB i 0 ((l.length : Int) - 1) = false ∧ idx l i = none) := by
  by_cases h : 0 ≤ i ∧ i < l.length
  · exact .inl ⟨by rw [inB_iff]; omega, _, idx_in h.1 h.2⟩
  · refine .inr ⟨by cases hb : inB i 0 ((l.length : Int) - 1); rfl; rw [inB_iff] at hb; omega, ?_⟩
    cases hx : idx l i with
    | none => rfl
    | some x => have := idx_some.1 hx; omega
theorem beq_t {a b : Int} (h : a = b) : (a == b) = true := by simp [h]
theorem beq_f {a b : Int} (h : a ≠ b) : (a == b) = false := by simpa using h
theorem bne_t {a b : Int} (h : a ≠ b) : (a != b) = true := by simpa using h
theorem bne_f {a b : Int} (h : a = b) : (a != b) = false := by simp [h]
/-- What a step may do to a case. -/
structure Cur (c : L1Cur) (b : Int) : Prop where
  len : c.Code.length ≤ 1048576
  bytes : ∀ x ∈ c.Code, 0 ≤ x ∧ x ≤ 255
  lo : 0 ≤ c.At
  hi : c.At ≤ b
theorem Cur.mono {c : L1Cur} {b d : Int} (h : Cur c b) (hd : b ≤ d) : Cur c d := ⟨h.len, h.bytes, h.lo, by have := h.hi; omega⟩
theorem and255 (k : Int) : 0 ≤ andL .u64 k 255 ∧ andL .u64 k 255 ≤ 255 := by
  have h : (BitVec.ofInt IntKind.u64.bits k &&& BitVec.ofInt IntKind.u64.bits 255).toNat ≤ 255 := by
    rw [BitVec.toNat_and]
    exact Nat.and_le_right
  unfold andL
  rw [IntWalk.u64_in _ (by omega)]
  omega
theorem next_ok {c : L1Cur} {b : Int} (h : Cur c b) (hb : b ≤ 4611686018427387904) : ∃ x d, spec_l1Cur_next c = some (x, d) ∧ (0 ≤ x ∧ x ≤ 255) ∧ Cur d (b + 1) := by
  obtain ⟨h1, h2, h3, h4⟩ := h
  unfold spec_l1Cur_next
  rw [w64 (x := c.At + 1) (by omega)]
  have e : ∃ x5, (bif (decide (c.At < (c.Code.length : Int))) then (idx c.Code c.At).bind fun b10 => some ((IntKind.i64.wrap b10)) else some (0)) = some x5 ∧ 0 ≤ x5 ∧ x5 ≤ 255 := by
    by_cases hc : c.At < c.Code.length
    · rw [show decide (c.At < (c.Code.length : Int)) = true by simpa using hc]
      obtain ⟨n, hn⟩ := Int.eq_ofNat_of_zero_le h3
      rw [hn, idx_lt (show n < c.Code.length by omega)]
      have := h2 _ (List.getElem_mem (show n < c.Code.length by omega))
      simp only [cond_true, Option.bind_some]
      rw [w64 (by omega)]
      exact ⟨_, rfl, this⟩
    · rw [show decide (c.At < (c.Code.length : Int)) = false by simpa using hc]
      exact ⟨0, rfl, by omega, by omega⟩
  obtain ⟨x5, e1, e2⟩ := e
  rw [e1, Option.bind_some]
  cases decide (c.At + 1 ≤ (c.Code.length : Int))
  · refine ⟨_, _, rfl, ?_, ⟨h1, h2, by simp only; omega, by simp only; omega⟩⟩
    have := and255 (shrL .u64 (IntKind.u64.wrap ((IntKind.u64.wrap ((IntKind.u64.wrap (c.Seed * 6364136223846793005)) + (IntKind.u64.wrap x5))) + 1442695040888963407)) 40)
    rw [w64 (by omega)]
    exact this
  · exact ⟨_, _, rfl, e2, ⟨h1, h2, by simp only; omega, by simp only; omega⟩⟩
theorem md_ok {x n : Int} (hx : 0 ≤ x) (hn : 1 < n) : ∃ r, md x n = some r ∧ 0 ≤ r ∧ r < n := by
  unfold md
  rw [if_neg (by omega)]
  refine ⟨_, rfl, ?_, ?_⟩
  · rw [Int.tmod_eq_emod_of_nonneg hx]; exact Int.emod_nonneg _ (by omega)
  · rw [Int.tmod_eq_emod_of_nonneg hx]; exact Int.emod_lt_of_pos _ (by omega)
theorem pick_ok {c : L1Cur} {b n : Int} (h : Cur c b) (hb : b ≤ 4000000000000000000) : ∃ x d, spec_l1Cur_pick c n = some (x, d) ∧ (0 ≤ x ∧ (1 ≤ n → x < n)) ∧ Cur d (b + 2) := by
  unfold spec_l1Cur_pick
  by_cases hn : n ≤ 1
  · rw [show decide (n ≤ 1) = true by simpa using hn]
    exact ⟨0, c, rfl, ⟨by omega, by omega⟩, h.mono (by omega)⟩
  · rw [show decide (n ≤ 1) = false by simpa using hn]
    obtain ⟨x, d, e1, e2, e3⟩ := next_ok h (by omega)
    simp only [cond_false]
    rw [e1, Option.bind_some]
    cases decide (200 < n)
    · simp only [cond_false, Option.bind_some]
      obtain ⟨r, r1, r2, r3⟩ := md_ok (x := x) e2.1 (show 1 < n by omega)
      rw [r1]
      exact ⟨r, _, rfl, ⟨r2, fun _ => r3⟩, e3.mono (by omega)⟩
    · simp only [cond_true]
      obtain ⟨y, d', f1, f2, f3⟩ := next_ok e3 (by omega)
      rw [f1]
      simp only [Option.bind_some]
      rw [w64 (x := x * 256) (by omega), w64 (by omega)]
      obtain ⟨r, r1, r2, r3⟩ := md_ok (x := x * 256 + y) (by omega) (show 1 < n by omega)
      rw [r1]
      exact ⟨r, _, rfl, ⟨r2, fun _ => r3⟩, f3.mono (by omega)⟩
theorem one_ok {c : L1Cur} {b n : Int} (h : Cur c b) (hb : b ≤ 4000000000000000000) : ∃ x d, spec_l1Cur_one c n = some (x, d) ∧ Cur d (b + 2) := by
  obtain ⟨x, d, e1, _, e3⟩ := pick_ok (n := n) h hb
  unfold spec_l1Cur_one
  rw [e1]
  exact ⟨_, _, rfl, e3⟩
theorem among_ok {c : L1Cur} {b : Int} {l : List Int} (h : Cur c b) (hb : b ≤ 4000000000000000000) (hl : l ≠ []) : ∃ x d, spec_l1Cur_among c l = some (x, d) ∧ x ∈ l ∧ Cur d (b + 2) := by
  obtain ⟨x, d, e1, e2, e3⟩ := pick_ok (n := (l.length : Int)) h hb
  have hl' : 1 ≤ l.length := by cases l with | nil => exact absurd rfl hl | cons _ _ => simp
  unfold spec_l1Cur_among
  rw [e1]
  obtain ⟨n, rfl⟩ := Int.eq_ofNat_of_zero_le e2.1
  have hn : n < l.length := by have := e2.2 (by omega); omega
  simp only [Option.bind_some]
  rw [idx_lt hn]
  exact ⟨_, _, rfl, List.getElem_mem hn, e3⟩
theorem cur0 {l : List Int} (hl : l.length ≤ 1048576) (hb : ∀ x ∈ l, 0 ≤ x ∧ x ≤ 255) : Cur ⟨l, 0, 0⟩ 0 := ⟨hl, hb, by simp, by simp⟩
theorem sameBs {l : List Bool} (hl : l.length ≤ 1048576) : laws_sameBools l l = some true := by
  unfold laws_sameBools
  rw [eqS_go (l := l) (fun k hk => by
    simp only [laws_sameBools_l0]
    rw [dec_t (by omega), idx_lt hk, w64 (by omega)]
    simp) (by simp [laws_sameBools_l0])]
  simp
def goesG (g : Greet) (h : Hello) : Greet := if g.Line.length < 30 then { g with Line := g.Line ++ [h] } else g
def takeG (g : Greet) (h : Hello) : Greet :=
  if h.Kind = 1 then (if g.StateB ≠ 2 ∧ g.LastY < 1000 then goesG { g with StateB := 1, OfX := h.X, Y := g.LastY + 1, LastY := g.LastY + 1 } ⟨2, h.X, g.LastY + 1⟩ else g)
  else if h.Kind = 2 then (if g.StateA = 1 ∧ g.X = h.X then goesG { g with StateA := 2, OfY := h.Y, OpenedA := g.OpenedA ++ [⟨3, h.X, h.Y⟩] } ⟨3, h.X, h.Y⟩
    else if g.StateA = 2 ∧ g.X = h.X ∧ g.OfY = h.Y then goesG g ⟨3, h.X, h.Y⟩ else g)
  else (if g.StateB = 1 ∧ g.OfX = h.X ∧ g.Y = h.Y then { g with StateB := 2, OpenedB := g.OpenedB ++ [⟨3, h.X, h.Y⟩] } else g)
def cutG (g : Greet) (k : Int) : Greet := { g with Line := g.Line.take k.toNat ++ g.Line.drop (k.toNat + 1) }
def stepG (g : Greet) (s : GreetStep) : Bool × Greet :=
  if s.Kind = 1 then (if s.K ≠ 0 ∨ g.LastX = 1000 then (false, g) else (true, goesG { g with LastX := g.LastX + 1, StateA := 1, X := g.LastX + 1, OfY := 0 } ⟨1, g.LastX + 1, 0⟩))
  else if s.Kind = 2 then (match idx g.Line s.K with | some h => (true, takeG (cutG g s.K) h) | none => (false, g))
  else if s.Kind = 3 then (match idx g.Line s.K with | some _ => (true, cutG g s.K) | none => (false, g))
  else if s.Kind = 4 then (match idx g.Line s.K with | some h => if g.Line.length = 30 then (false, g) else (true, { g with Line := g.Line ++ [h] }) | none => (false, g))
  else if s.Kind = 5 then (if s.K ≠ 0 ∨ g.StateB ≠ 1 then (false, g) else (true, { g with StateB := 0, OfX := 0, Y := 0 }))
  else if s.Kind = 6 then (if s.K = 0 then (true, { g with StateA := 0, X := 0, OfY := 0 }) else if s.K = 1 then (true, { g with StateB := 0, OfX := 0, Y := 0 }) else (false, g))
  else (false, g)
/-- What holds of a greeting after n steps: who was given which number (f), and who is open with whom. -/
structure GI (n : Nat) (g : Greet) : Prop where
  lx : 0 ≤ g.LastX ∧ g.LastX ≤ 100 + n
  ly : 0 ≤ g.LastY ∧ g.LastY ≤ n
  la : g.OpenedA.length ≤ n
  lb : g.OpenedB.length ≤ n
  ll : g.Line.length ≤ 30
  sa : (g.StateA = 0 ∧ g.X = 0 ∧ g.OfY = 0) ∨ (g.StateA = 1 ∧ 1 ≤ g.X ∧ g.X = g.LastX ∧ g.OfY = 0) ∨ (g.StateA = 2 ∧ 1 ≤ g.X ∧ g.X = g.LastX ∧ 1 ≤ g.OfY ∧ g.OfY ≤ g.LastY ∧ (⟨3, g.X, g.OfY⟩ : Hello) ∈ g.OpenedA)
  sb : (g.StateB = 0 ∧ g.OfX = 0 ∧ g.Y = 0) ∨ ((g.StateB = 1 ∨ g.StateB = 2) ∧ 1 ≤ g.OfX ∧ g.OfX ≤ g.LastX ∧ 1 ≤ g.Y ∧ g.Y = g.LastY)
  gv : ∃ f : Int → Int, (∀ h ∈ g.Line, 1 ≤ h.X ∧ h.X ≤ g.LastX ∧ ((h.Kind = 1 ∧ h.Y = 0) ∨ ((h.Kind = 2 ∨ h.Kind = 3) ∧ 1 ≤ h.Y ∧ h.Y ≤ g.LastY ∧ h.X = f h.Y ∧ (h.Kind = 3 → h ∈ g.OpenedA)))) ∧
    (∀ h ∈ g.OpenedA, h.Kind = 3 ∧ 1 ≤ h.X ∧ h.X ≤ g.LastX ∧ 1 ≤ h.Y ∧ h.Y ≤ g.LastY ∧ h.X = f h.Y ∧ (g.StateA = 1 → h.X < g.X))
  pa : g.OpenedA.Pairwise fun x y => x.X < y.X
  ob : ∀ h ∈ g.OpenedB, h ∈ g.OpenedA ∧ (g.StateB = 1 → h.Y < g.Y)
  pb : g.OpenedB.Pairwise fun x y => x.Y < y.Y
theorem goesG_line {g : Greet} {h x : Hello} (hx : x ∈ (goesG g h).Line) : x ∈ g.Line ∨ x = h := by
  unfold goesG at hx
  split at hx
  · simpa using hx
  · exact .inl hx
theorem goesG_len {g : Greet} (h : Hello) (hl : g.Line.length ≤ 30) : (goesG g h).Line.length ≤ 30 := by
  unfold goesG
  split
  · simp; omega
  · exact hl
theorem goesG_eq (g : Greet) (h : Hello) : goesG g h = { g with Line := (goesG g h).Line } := by
  unfold goesG
  split <;> rfl
/-- Only the line is put anew. -/
theorem GI.line {n m : Nat} {g : Greet} (i : GI n g) (hm : n ≤ m) {l : List Hello} (hl : l.length ≤ 30) (h : ∀ x ∈ l, x ∈ g.Line) : GI m { g with Line := l } := by
  obtain ⟨f, f1, f2⟩ := i.gv
  have := i.lx; have := i.ly; have := i.la; have := i.lb
  exact ⟨⟨by simp only; omega, by simp only; omega⟩, ⟨by simp only; omega, by simp only; omega⟩, by simp only; omega, by simp only; omega, hl, i.sa, i.sb, ⟨f, fun x hx => f1 x (h x hx), f2⟩, i.pa, i.ob, i.pb⟩
theorem GI.up {n m : Nat} {g : Greet} (i : GI n g) (hm : n ≤ m) : GI m g := i.line hm i.ll fun _ h => h
theorem cutG_ok {n : Nat} {g : Greet} (i : GI n g) (k : Int) : GI n (cutG g k) := by
  refine i.line (Nat.le_refl _) (by have := i.ll; simp; omega) fun x hx => ?_
  rcases List.mem_append.1 hx with h | h
  · exact List.mem_of_mem_take h
  · exact List.mem_of_mem_drop h
theorem closeA_ok {n : Nat} {g : Greet} (i : GI n g) : GI n { g with StateA := 0, X := 0, OfY := 0 } := by
  obtain ⟨f, f1, f2⟩ := i.gv
  exact ⟨i.lx, i.ly, i.la, i.lb, i.ll, .inl ⟨rfl, rfl, rfl⟩, i.sb, ⟨f, f1, fun h hh => by obtain ⟨a1, a2, a3, a4, a5, a6, _⟩ := f2 h hh; exact ⟨a1, a2, a3, a4, a5, a6, fun h' => by simp at h'⟩⟩, i.pa, i.ob, i.pb⟩
theorem closeB_ok {n : Nat} {g : Greet} (i : GI n g) : GI n { g with StateB := 0, OfX := 0, Y := 0 } :=
  ⟨i.lx, i.ly, i.la, i.lb, i.ll, i.sa, .inl ⟨rfl, rfl, rfl⟩, i.gv, i.pa, fun h hh => ⟨(i.ob h hh).1, fun h' => by simp at h'⟩, i.pb⟩
theorem begin_ok {n : Nat} {g : Greet} (i : GI n g) : GI (n + 1) (goesG { g with LastX := g.LastX + 1, StateA := 1, X := g.LastX + 1, OfY := 0 } ⟨1, g.LastX + 1, 0⟩) := by
  obtain ⟨f, f1, f2⟩ := i.gv
  have hx := i.lx; have hy := i.ly; have := i.la; have := i.lb
  rw [goesG_eq]
  refine ⟨⟨by simp only; omega, by simp only; omega⟩, ⟨by simp only; omega, by simp only; omega⟩, by simp only; omega, by simp only; omega, goesG_len _ i.ll, .inr (.inl ⟨rfl, by simp only; omega, rfl, rfl⟩), ?_, ⟨f, fun x hx' => ?_, fun h hh => ?_⟩, i.pa, i.ob, i.pb⟩
  · rcases i.sb with h | ⟨h1, h2, h3, h4, h5⟩
    · exact .inl h
    · exact .inr ⟨h1, h2, by simp only; omega, h4, h5⟩
  · rcases goesG_line hx' with h | rfl
    · obtain ⟨a1, a2, a3⟩ := f1 x h
      exact ⟨a1, by simp only; omega, a3⟩
    · exact ⟨by simp only; omega, by simp only; omega, .inl ⟨rfl, rfl⟩⟩
  · obtain ⟨a1, a2, a3, a4, a5, a6, _⟩ := f2 h hh
    exact ⟨a1, a2, by simp only; omega, a4, a5, a6, fun _ => by simp only; omega⟩
theorem takeG_ok {n : Nat} {g : Greet} (i : GI n g) {l : List Hello} (hl : l.length ≤ 30) (hm : ∀ x ∈ l, x ∈ g.Line) {h : Hello} (hh : h ∈ g.Line) : GI (n + 1) (takeG { g with Line := l } h) := by
  have i' := i.line (Nat.le_succ n) hl hm
  obtain ⟨f, f1, f2⟩ := i.gv
  obtain ⟨b1, b2, b3⟩ := f1 h hh
  have hx := i.lx; have hy := i.ly; have hla := i.la; have hlb := i.lb
  unfold takeG
  by_cases k1 : h.Kind = 1
  · rw [if_pos k1]
    by_cases hc : g.StateB ≠ 2 ∧ g.LastY < 1000
    · rw [if_pos hc, goesG_eq]
      refine ⟨⟨by simp only; omega, by simp only; omega⟩, ⟨by simp only; omega, by simp only; omega⟩, by simp only; omega, by simp only; omega, goesG_len _ hl, ?_, .inr ⟨.inl rfl, b1, b2, by simp only; omega, rfl⟩, ⟨fun y => if y = g.LastY + 1 then h.X else f y, fun x hx' => ?_, fun x hx' => ?_⟩, i.pa, fun x hx' => ⟨(i.ob x hx').1, fun _ => ?_⟩, i.pb⟩
      · rcases i.sa with h' | h' | ⟨h1, h2, h3, h4, h5, h6⟩
        · exact .inl h'
        · exact .inr (.inl h')
        · exact .inr (.inr ⟨h1, h2, h3, h4, by simp only; omega, h6⟩)
      · rcases goesG_line hx' with h' | rfl
        · obtain ⟨a1, a2, a3⟩ := f1 x (hm x h')
          refine ⟨a1, a2, ?_⟩
          rcases a3 with a3 | ⟨c1, c2, c3, c4, c5⟩
          · exact .inl a3
          · exact .inr ⟨c1, c2, by simp only; omega, by simp only; rw [if_neg (by omega)]; exact c4, c5⟩
        · exact ⟨b1, b2, .inr ⟨.inl rfl, by simp only; omega, by simp only; omega, by simp only; rw [if_pos trivial], fun h' => by simp at h'⟩⟩
      · obtain ⟨a1, a2, a3, a4, a5, a6, a7⟩ := f2 x hx'
        exact ⟨a1, a2, a3, a4, by simp only; omega, by simp only; rw [if_neg (by omega)]; exact a6, a7⟩
      · have := f2 x (i.ob x hx').1
        simp only; omega
    · rw [if_neg hc]; exact i'
  rw [if_neg k1]
  rcases b3 with b3 | ⟨c1, c2, c3, c4, c5⟩
  · exact absurd b3.1 k1
  by_cases k2 : h.Kind = 2
  · rw [if_pos k2]
    by_cases hc : g.StateA = 1 ∧ g.X = h.X
    · rw [if_pos hc, goesG_eq]
      refine ⟨⟨by simp only; omega, by simp only; omega⟩, ⟨by simp only; omega, by simp only; omega⟩, by simp <;> omega, by simp only; omega, goesG_len _ hl, ?_, i.sb, ⟨f, fun x hx' => ?_, fun x hx' => ?_⟩, ?_, fun x hx' => ⟨by simp only; exact List.mem_append_left _ (i.ob x hx').1, (i.ob x hx').2⟩, i.pb⟩
      · rcases i.sa with h' | ⟨h1, h2, h3, h4⟩ | ⟨h1, _⟩
        · omega
        · exact .inr (.inr ⟨rfl, h2, h3, c2, c3, by simp only; rw [hc.2]; exact List.mem_append_right _ (by simp)⟩)
        · omega
      · rcases goesG_line hx' with h' | rfl
        · obtain ⟨a1, a2, a3⟩ := f1 x (hm x h')
          refine ⟨a1, a2, ?_⟩
          rcases a3 with a3 | ⟨d1, d2, d3, d4, d5⟩
          · exact .inl a3
          · exact .inr ⟨d1, d2, d3, d4, fun h3 => List.mem_append_left _ (d5 h3)⟩
        · exact ⟨b1, b2, .inr ⟨.inr rfl, c2, c3, c4, fun _ => List.mem_append_right _ (by simp)⟩⟩
      · rcases List.mem_append.1 hx' with h' | h'
        · obtain ⟨a1, a2, a3, a4, a5, a6, a7⟩ := f2 x h'
          exact ⟨a1, a2, a3, a4, a5, a6, fun h' => by simp at h'⟩
        · simp at h'; subst h'
          exact ⟨rfl, b1, b2, c2, c3, c4, fun h' => by simp at h'⟩
      · simp only
        rw [List.pairwise_append]
        refine ⟨i.pa, by simp, fun x hx' y hy' => ?_⟩
        simp at hy'; subst hy'
        have := (f2 x hx').2.2.2.2.2.2 hc.1
        simp only; omega
    · rw [if_neg hc]
      by_cases hd : g.StateA = 2 ∧ g.X = h.X ∧ g.OfY = h.Y
      · rw [if_pos hd, goesG_eq]
        have ha2 : (⟨3, h.X, h.Y⟩ : Hello) ∈ g.OpenedA := by
          rcases i.sa with h' | h' | ⟨_, _, _, _, _, h6⟩
          · omega
          · omega
          · rw [← hd.2.1, ← hd.2.2]; exact h6
        refine ⟨⟨by simp only; omega, by simp only; omega⟩, ⟨by simp only; omega, by simp only; omega⟩, by simp only; omega, by simp only; omega, goesG_len _ hl, i.sa, i.sb, ⟨f, fun x hx' => ?_, f2⟩, i.pa, i.ob, i.pb⟩
        rcases goesG_line hx' with h' | rfl
        · exact f1 x (hm x h')
        · exact ⟨b1, b2, .inr ⟨.inr rfl, c2, c3, c4, fun _ => ha2⟩⟩
      · rw [if_neg hd]; exact i'
  · rw [if_neg k2]
    have k3 : h.Kind = 3 := by omega
    by_cases hc : g.StateB = 1 ∧ g.OfX = h.X ∧ g.Y = h.Y
    · rw [if_pos hc]
      have hin := c5 k3
      have heq : (⟨3, h.X, h.Y⟩ : Hello) = h := by cases h; simp only at k3; subst k3; rfl
      refine ⟨⟨by simp only; omega, by simp only; omega⟩, ⟨by simp only; omega, by simp only; omega⟩, by simp only; omega, by simp <;> omega, hl, i.sa, ?_, ⟨f, fun x hx' => f1 x (hm x hx'), f2⟩, i.pa, fun x hx' => ?_, ?_⟩
      · rcases i.sb with h' | ⟨_, h2⟩
        · omega
        · exact .inr ⟨.inr rfl, h2⟩
      · rcases List.mem_append.1 hx' with h' | h'
        · exact ⟨(i.ob x h').1, fun h' => by simp at h'⟩
        · simp at h'; rw [heq] at h'; subst h'
          exact ⟨hin, fun h' => by simp at h'⟩
      · simp only
        rw [List.pairwise_append]
        refine ⟨i.pb, by simp, fun x hx' y hy' => ?_⟩
        simp at hy'; subst hy'
        have := (i.ob x hx').2 hc.1
        simp only; omega
    · rw [if_neg hc]; exact i'
theorem stepG_ok {n : Nat} {g : Greet} (i : GI n g) (s : GreetStep) : GI (n + 1) (stepG g s).2 := by
  have same : GI (n + 1) g := i.up (Nat.le_succ n)
  unfold stepG
  split
  · split
    · exact same
    · exact begin_ok i
  split
  · split
    · rename_i h hh
      have hl : (g.Line.take s.K.toNat ++ g.Line.drop (s.K.toNat + 1)).length ≤ 30 := by have := i.ll; simp; omega
      refine takeG_ok i hl (fun x hx => ?_) (List.mem_of_getElem? (idx_some.1 hh).2.2)
      rcases List.mem_append.1 hx with h | h
      · exact List.mem_of_mem_take h
      · exact List.mem_of_mem_drop h
    · exact same
  split
  · split
    · exact (cutG_ok i _).up (Nat.le_succ n)
    · exact same
  split
  · split
    · rename_i h hh
      split
      · exact same
      · refine i.line (Nat.le_succ n) (by have := i.ll; simp; omega) fun x hx => ?_
        rcases List.mem_append.1 hx with h' | h'
        · exact h'
        · simp at h'; subst h'; exact List.mem_of_getElem? (idx_some.1 hh).2.2
    · exact same
  split
  · split
    · exact same
    · exact (closeB_ok i).up (Nat.le_succ n)
  split
  · split
    · exact (closeA_ok i).up (Nat.le_succ n)
    · split
      · exact (closeB_ok i).up (Nat.le_succ n)
      · exact same
  · exact same
theorem stepG_no {g : Greet} (s : GreetStep) (h : (stepG g s).1 = false) : (stepG g s).2 = g := by
  unfold stepG at h ⊢
  repeat' split
  all_goals first | rfl | simp_all
theorem iGoesG (g : Greet) (h : Hello) : impl_Greet_goes g h = some (goesG g h) := by
  unfold impl_Greet_goes goesG
  by_cases hl : g.Line.length < 30
  · rw [dec_t (by omega), if_pos hl, cond_true, app_of (by simp <;> omega) (by omega)]; rfl
  · rw [dec_f (by omega), if_neg hl]; rfl
theorem sGoesG (g : Greet) (h : Hello) : spec_l15Write g h = some (goesG g h) := by
  unfold spec_l15Write goesG
  by_cases hl : g.Line.length < 30
  · rw [dec_t (by omega), if_pos hl, cond_true, app_of (by simp <;> omega) (by omega)]; rfl
  · rw [dec_f (by omega), if_neg hl]; rfl
theorem iTakeG {g : Greet} (ha : g.OpenedA.length ≤ 200) (hb : g.OpenedB.length ≤ 200) (hy : 0 ≤ g.LastY ∧ g.LastY ≤ 1000) {h : Hello} (hk : h.Kind = 1 ∨ h.Kind = 2 ∨ h.Kind = 3) : impl_Greet_take g h = some (takeG g h) := by
  unfold impl_Greet_take takeG
  rw [w64 (by omega)]
  by_cases k1 : h.Kind = 1
  · rw [beq_t k1, if_pos k1, cond_true]
    by_cases h2 : g.StateB = 2
    · rw [bne_f h2, if_neg (by omega)]; rfl
    · rw [bne_t h2]
      by_cases h3 : g.LastY < 1000
      · simp only [cond_true, Option.bind_some, dec_t h3, iGoesG]
        rw [if_pos ⟨h2, h3⟩]
      · simp only [cond_true, cond_false, Option.bind_some, dec_f h3]
        rw [if_neg (fun h => h3 h.2)]
  rw [beq_f k1, if_neg k1, cond_false]
  by_cases k2 : h.Kind = 2
  · rw [beq_t k2, if_pos k2, cond_true]
    by_cases c1 : g.StateA = 1
    · by_cases c2 : g.X = h.X
      · rw [beq_t c1, beq_t c2, if_pos ⟨c1, c2⟩]
        simp only [cond_true, Option.bind_some]
        rw [app_of (by simp <;> omega) (by omega), Option.bind_some, iGoesG]; rfl
      · rw [beq_t c1, beq_f c2, if_neg (fun h => c2 h.2), if_neg (by omega), beq_f (show g.StateA ≠ 2 by omega)]; rfl
    · rw [beq_f c1, if_neg (fun h => c1 h.1)]
      by_cases d1 : g.StateA = 2
      · by_cases d2 : g.X = h.X
        · by_cases d3 : g.OfY = h.Y
          · rw [beq_t d1, beq_t d2, beq_t d3, if_pos ⟨d1, d2, d3⟩]
            simp only [cond_true, cond_false, Option.bind_some, iGoesG]
          · rw [beq_t d1, beq_t d2, beq_f d3, if_neg (fun h => d3 h.2.2)]; rfl
        · rw [beq_t d1, beq_f d2, if_neg (fun h => d2 h.2.1)]; rfl
      · rw [beq_f d1, if_neg (fun h => d1 h.1)]; rfl
  have k3 : h.Kind = 3 := by omega
  rw [beq_f k2, if_neg k2, beq_t k3, cond_false, cond_true]
  by_cases d1 : g.StateB = 1
  · by_cases d2 : g.OfX = h.X
    · by_cases d3 : g.Y = h.Y
      · rw [beq_t d1, beq_t d2, beq_t d3, if_pos ⟨d1, d2, d3⟩]
        simp only [cond_true, Option.bind_some]
        rw [app_of (by simp <;> omega) (by omega)]; rfl
      · rw [beq_t d1, beq_t d2, beq_f d3, if_neg (fun h => d3 h.2.2)]; rfl
    · rw [beq_t d1, beq_f d2, if_neg (fun h => d2 h.2.1)]; rfl
  · rw [beq_f d1, if_neg (fun h => d1 h.1)]; rfl
theorem sOpenedG {l : List Hello} (hl : l.length ≤ 200) (x y : Int) : spec_l15Opened l x y = some (l ++ [⟨3, x, y⟩]) := by
  unfold spec_l15Opened
  rw [beq_f (by omega), cond_false, app_of (by simp <;> omega) (by omega)]; rfl
theorem sTakeG {g : Greet} (ha : g.OpenedA.length ≤ 200) (hb : g.OpenedB.length ≤ 200) (hy : 0 ≤ g.LastY ∧ g.LastY ≤ 1000) {h : Hello} (_hk : h.Kind = 1 ∨ h.Kind = 2 ∨ h.Kind = 3) : spec_l15Take g h = some (takeG g h) := by
  unfold spec_l15Take takeG
  rw [w64 (by omega)]
  by_cases k1 : h.Kind = 1
  · rw [beq_t k1, if_pos k1, cond_true]
    by_cases h2 : g.StateB = 2
    · rw [beq_t h2, if_neg (by omega)]; rfl
    · rw [beq_f h2]
      by_cases h3 : g.LastY = 1000
      · rw [beq_t h3, if_neg (by omega)]; rfl
      · rw [beq_f h3, if_pos ⟨h2, by omega⟩]
        simp only [cond_false, Option.bind_some, sGoesG]
  rw [beq_f k1, if_neg k1, cond_false]
  by_cases k2 : h.Kind = 2
  · rw [beq_t k2, if_pos k2, cond_true]
    by_cases c1 : g.StateA = 1
    · by_cases c2 : g.X = h.X
      · rw [beq_t c1, beq_t c2, if_pos ⟨c1, c2⟩]
        simp only [cond_true, Option.bind_some, sOpenedG ha, beq_self_eq_true, sGoesG]
      · rw [beq_t c1, beq_f c2, if_neg (fun h => c2 h.2), if_neg (by omega)]
        simp only [cond_true, cond_false, Option.bind_some, beq_f (show g.StateA ≠ 2 by omega)]
    · rw [beq_f c1, if_neg (fun h => c1 h.1)]
      simp only [cond_false, Option.bind_some]
      by_cases d1 : g.StateA = 2
      · by_cases d2 : g.X = h.X
        · by_cases d3 : g.OfY = h.Y
          · rw [beq_t d1, beq_t d2, beq_t d3, if_pos ⟨d1, d2, d3⟩]
            simp only [cond_true, Option.bind_some, sGoesG]
          · rw [beq_t d1, beq_t d2, beq_f d3, if_neg (fun h => d3 h.2.2)]; rfl
        · rw [beq_t d1, beq_f d2, if_neg (fun h => d2 h.2.1)]; rfl
      · rw [beq_f d1, if_neg (fun h => d1 h.1)]; rfl
  rw [beq_f k2, if_neg k2, cond_false]
  by_cases d1 : g.StateB = 1
  · by_cases d2 : g.OfX = h.X
    · by_cases d3 : g.Y = h.Y
      · rw [beq_t d1, beq_t d2, beq_t d3, if_pos ⟨d1, d2, d3⟩]
        simp only [cond_true, Option.bind_some, sOpenedG hb]
      · rw [beq_t d1, beq_t d2, beq_f d3, if_neg (fun h => d3 h.2.2)]; rfl
    · rw [beq_t d1, beq_f d2, if_neg (fun h => d2 h.2.1)]; rfl
  · rw [beq_f d1, if_neg (fun h => d1 h.1)]; rfl
theorem delG {l : List Hello} {i : Int} {h : Hello} (hx : idx l i = some h) (hl : l.length ≤ 1048576) : slices_Delete_impl_Hello l i (i + 1) = some (l.take i.toNat ++ l.drop (i.toNat + 1)) ∧ slc l 0 i = some (l.take i.toNat) ∧ slc l (i + 1) (l.length : Int) = some (l.drop (i.toNat + 1)) := by
  obtain ⟨a1, a2, _⟩ := idx_some.1 hx
  obtain ⟨k, rfl⟩ := Int.eq_ofNat_of_zero_le a1
  have s1 : slc l 0 (k : Int) = some (l.take k) := by simp [slc]; omega
  have s2 : slc l ((k : Int) + 1) (l.length : Int) = some (l.drop (k + 1)) := by
    simp only [slc]
    rw [if_pos (by omega)]
    congr 1
    rw [show ((k : Int) + 1).toNat = k + 1 by omega]
    simp only [Int.toNat_natCast]
    exact List.take_of_length_le (by simp)
  have s3 : ∃ z, slc l (k : Int) ((k : Int) + 1) = some z := by
    simp only [slc]
    rw [if_pos (by omega)]
    exact ⟨_, rfl⟩
  obtain ⟨z, s3⟩ := s3
  refine ⟨?_, s1, s2⟩
  unfold slices_Delete_impl_Hello
  rw [s3, Option.bind_some, beq_f (by omega), cond_false, s1, Option.bind_some, s2, Option.bind_some, app_of (by simp <;> omega) (by omega)]
  rfl
theorem line_kind {n : Nat} {g : Greet} (i : GI n g) {h : Hello} (hh : h ∈ g.Line) : h.Kind = 1 ∨ h.Kind = 2 ∨ h.Kind = 3 := by
  obtain ⟨f, f1, _⟩ := i.gv
  have := (f1 h hh).2.2
  omega
theorem iStepG {n : Nat} (hn : n ≤ 150) {g : Greet} (i : GI n g) (s : GreetStep) : impl_Greet_step g s = some (stepG g s) := by
  have i2 := stepG_ok i s
  have hla := i2.la; have hlb := i2.lb
  have ha := i.la; have hb := i.lb; have hll := i.ll; have hy := i.ly; have hx := i.lx
  have e2 : IntKind.i64.wrap ((g.Line.length : Int) - 1) = (g.Line.length : Int) - 1 := w64 (by omega)
  unfold impl_Greet_step
  unfold stepG at hla hlb ⊢
  simp only [iIn, e2, Option.bind_some]
  by_cases k1 : s.Kind = 1
  · simp only [if_pos k1] at hla hlb ⊢
    simp only [beq_t k1, cond_true, Option.bind_some]
    by_cases hk : s.K = 0
    · rw [bne_f hk]
      by_cases h3 : g.LastX = 1000
      · rw [if_pos (.inr h3)]
        simp only [cond_false, Option.bind_some, beq_t h3, cond_true]
      · rw [if_neg (by omega)] at hla hlb ⊢
        simp only [cond_false, Option.bind_some, beq_f h3, iGoesG]
        rw [w64 (by omega)]
        rw [dec_t (by simp only at hla; omega), dec_t (by simp only at hlb; omega)]
        rfl
    · rw [bne_t hk, if_pos (.inl hk)]; rfl
  simp only [if_neg k1] at hla hlb ⊢
  by_cases k2 : s.Kind = 2
  · simp only [if_pos k2] at hla hlb ⊢
    simp only [beq_f k1, beq_t k2, beq_f (show s.Kind ≠ 5 by omega), cond_true, cond_false, Option.bind_some]
    rcases idx_inB g.Line s.K with ⟨a1, h, a2⟩ | ⟨a1, a2⟩
    · obtain ⟨b1, b2, b3⟩ := idx_some.1 a2
      simp only [a1, a2, Bool.not_true, cond_false, Option.bind_some] at hla hlb ⊢
      rw [w64 (x := s.K + 1) (by omega), (delG a2 (by omega)).1]
      simp only [Option.bind_some]
      rw [show (⟨g.StateA, g.StateB, g.X, g.Y, g.OfX, g.OfY, g.LastX, g.LastY, g.Line.take s.K.toNat ++ g.Line.drop (s.K.toNat + 1), g.OpenedA, g.OpenedB⟩ : Greet) = cutG g s.K from rfl, iTakeG (g := cutG g s.K) (by simp only [cutG]; omega) (by simp only [cutG]; omega) (by simp only [cutG]; omega) (line_kind i (List.mem_of_getElem? b3))]
      simp only [Option.bind_some]
      rw [dec_t (by omega), dec_t (by omega)]
      rfl
    · simp only [a1, a2, Bool.not_false, cond_true, Option.bind_some]
  simp only [if_neg k2] at hla hlb ⊢
  by_cases k3 : s.Kind = 3
  · simp only [if_pos k3] at hla hlb ⊢
    simp only [beq_f k1, beq_f k2, beq_t k3, beq_f (show s.Kind ≠ 5 by omega), cond_true, cond_false, Option.bind_some]
    rcases idx_inB g.Line s.K with ⟨a1, h, a2⟩ | ⟨a1, a2⟩
    · obtain ⟨b1, b2, b3⟩ := idx_some.1 a2
      simp only [a1, a2, Bool.not_true, cond_false, Option.bind_some]
      rw [w64 (x := s.K + 1) (by omega), (delG a2 (by omega)).1]
      simp only [Option.bind_some]
      rw [dec_t (by omega), dec_t (by omega)]
      rfl
    · simp only [a1, a2, Bool.not_false, cond_true, Option.bind_some]
  simp only [if_neg k3] at hla hlb ⊢
  by_cases k4 : s.Kind = 4
  · simp only [if_pos k4] at hla hlb ⊢
    simp only [beq_f k1, beq_f k2, beq_f k3, beq_t k4, beq_f (show s.Kind ≠ 5 by omega), cond_true, cond_false, Option.bind_some]
    rcases idx_inB g.Line s.K with ⟨a1, h, a2⟩ | ⟨a1, a2⟩
    · simp only [a1, a2, Bool.not_true, cond_false, Option.bind_some]
      by_cases hl : g.Line.length = 30
      · rw [beq_t (show (g.Line.length : Int) = 30 by omega), if_pos hl]; rfl
      · rw [beq_f (show (g.Line.length : Int) ≠ 30 by omega), if_neg hl, cond_false, app_of (by simp <;> omega) (by omega)]
        simp only [Option.bind_some]
        rw [dec_t (by omega), dec_t (by omega)]
        rfl
    · simp only [a1, a2, Bool.not_false, cond_true, Option.bind_some]
  simp only [if_neg k4] at hla hlb ⊢
  by_cases k5 : s.Kind = 5
  · simp only [if_pos k5] at hla hlb ⊢
    simp only [beq_f k1, beq_f k2, beq_f k3, beq_f k4, beq_t k5, cond_true, cond_false, Option.bind_some]
    by_cases hk : s.K = 0
    · rw [bne_f hk]
      by_cases h3 : g.StateB = 1
      · rw [if_neg (by omega), bne_f h3]
        simp only [cond_false, Option.bind_some]
        rw [dec_t (by omega), dec_t (by omega)]
        rfl
      · rw [if_pos (.inr h3), bne_t h3]
        simp only [cond_false, cond_true, Option.bind_some]
    · rw [bne_t hk, if_pos (.inl hk)]; rfl
  simp only [if_neg k5] at hla hlb ⊢
  by_cases k6 : s.Kind = 6
  · simp only [if_pos k6] at hla hlb ⊢
    simp only [beq_f k1, beq_f k2, beq_f k3, beq_f k4, beq_f k5, beq_t k6, cond_true, cond_false, Option.bind_some]
    by_cases hk : s.K = 0
    · rw [beq_t hk, if_pos hk]
      simp only [cond_true, Option.bind_some]
      rw [dec_t (by omega), dec_t (by omega)]
      rfl
    · rw [beq_f hk, if_neg hk]
      by_cases h1 : s.K = 1
      · rw [beq_t h1, if_pos h1]
        simp only [cond_true, cond_false, Option.bind_some]
        rw [dec_t (by omega), dec_t (by omega)]
        rfl
      · rw [beq_f h1, if_neg h1]; rfl
  simp only [if_neg k6, beq_f k1, beq_f k2, beq_f k3, beq_f k4, beq_f k5, beq_f k6, cond_false, Option.bind_some]
theorem sStepG {n : Nat} (hn : n ≤ 150) {g : Greet} (i : GI n g) (s : GreetStep) : spec_l15Step g s = some ((stepG g s).2, (stepG g s).1) := by
  have ha := i.la; have hb := i.lb; have hll := i.ll; have hy := i.ly; have hx := i.lx
  unfold spec_l15Step stepG
  by_cases k1 : s.Kind = 1
  · rw [if_pos k1, beq_t k1, cond_true]
    by_cases hk : s.K = 0
    · rw [bne_f hk]
      by_cases h3 : g.LastX = 1000
      · rw [if_pos (.inr h3), beq_t h3]; rfl
      · rw [if_neg (by omega), beq_f h3]
        simp only [cond_false, Option.bind_some]
        rw [w64 (by omega), sGoesG]; rfl
    · rw [bne_t hk, if_pos (.inl hk)]; rfl
  rw [if_neg k1, beq_f k1, cond_false]
  by_cases k5 : s.Kind = 5
  · rw [if_neg (by omega), if_neg (by omega), if_neg (by omega), if_pos k5, beq_t k5, cond_true]
    by_cases hk : s.K = 0
    · rw [bne_f hk]
      by_cases h3 : g.StateB = 1
      · rw [if_neg (by omega), bne_f h3]; rfl
      · rw [if_pos (.inr h3), bne_t h3]; rfl
    · rw [bne_t hk, if_pos (.inl hk)]; rfl
  rw [beq_f k5, cond_false]
  by_cases k6 : s.Kind = 6
  · rw [if_neg (by omega), if_neg (by omega), if_neg (by omega), if_neg k5, if_pos k6, beq_t k6, cond_true]
    by_cases hk : s.K = 0
    · rw [beq_t hk, if_pos hk]; rfl
    · rw [beq_f hk, if_neg hk]
      by_cases h1 : s.K = 1
      · rw [beq_t h1, if_pos h1]; rfl
      · rw [beq_f h1, if_neg h1]; rfl
  rw [beq_f k6, cond_false, sIn, if_neg k5, if_neg k6]
  simp only [Option.bind_some]
  rcases idx_inB g.Line s.K with ⟨a1, h, a2⟩ | ⟨a1, a2⟩
  · obtain ⟨b1, b2, b3⟩ := idx_some.1 a2
    obtain ⟨d1, d2, d3⟩ := delG a2 (by omega)
    have o1 : app 24 ([] : List Hello) (g.Line.take s.K.toNat) = some (g.Line.take s.K.toNat) := by rw [app_of (by simp <;> omega) (by omega)]; rfl
    have o2 : app 24 (g.Line.take s.K.toNat) (g.Line.drop (s.K.toNat + 1)) = some (g.Line.take s.K.toNat ++ g.Line.drop (s.K.toNat + 1)) := app_of (by simp <;> omega) (by omega)
    rw [dec_f (by omega), dec_f (by omega), w64 (x := s.K + 1) (by omega)]
    simp only [a2, cond_false, Option.bind_some]
    by_cases k2 : s.Kind = 2
    · rw [if_pos k2, k2]
      simp only [show inB 2 2 4 = true from by decide, Bool.not_true, cond_false, cond_true, beq_f (show (2 : Int) ≠ 4 by omega), beq_self_eq_true, d2, d3, o1, o2, Option.bind_some]
      rw [show (⟨g.StateA, g.StateB, g.X, g.Y, g.OfX, g.OfY, g.LastX, g.LastY, g.Line.take s.K.toNat ++ g.Line.drop (s.K.toNat + 1), g.OpenedA, g.OpenedB⟩ : Greet) = cutG g s.K from rfl, sTakeG (g := cutG g s.K) (by simp only [cutG]; omega) (by simp only [cutG]; omega) (by simp only [cutG]; omega) (line_kind i (List.mem_of_getElem? b3))]
      rfl
    rw [if_neg k2]
    by_cases k3 : s.Kind = 3
    · rw [if_pos k3, k3]
      simp only [show inB 3 2 4 = true from by decide, Bool.not_true, cond_false, beq_f (show (3 : Int) ≠ 4 by omega), beq_f (show (3 : Int) ≠ 2 by omega), d2, d3, o1, o2, Option.bind_some]
      rfl
    rw [if_neg k3]
    by_cases k4 : s.Kind = 4
    · rw [if_pos k4, k4]
      simp only [show inB 4 2 4 = true from by decide, Bool.not_true, cond_false, cond_true, beq_self_eq_true]
      by_cases hl : g.Line.length = 30
      · rw [beq_t (show (g.Line.length : Int) = 30 by omega), if_pos hl]; rfl
      · rw [beq_f (show (g.Line.length : Int) ≠ 30 by omega), if_neg hl, cond_false, sGoesG, Option.bind_some]
        unfold goesG
        rw [if_pos (by omega)]
    rw [if_neg k4]
    have : inB s.Kind 2 4 = false := by
      cases hb : inB s.Kind 2 4
      · rfl
      · rw [inB_iff] at hb; omega
    simp only [this, Bool.not_false, cond_true]
  · have hno : s.K < 0 ∨ ¬ s.K < 0 ∧ (g.Line.length : Int) ≤ s.K := by
      have : ¬ (inB s.K 0 ((g.Line.length : Int) - 1) = true) := by simp [a1]
      rw [inB_iff] at this; omega
    have e : (bif (decide (s.K < 0)) then some (true) else (bif (decide ((g.Line.length : Int) ≤ s.K)) then some (true) else some (!inB s.Kind 2 4))) = some true := by
      rcases hno with a1 | ⟨a1, a1'⟩
      · rw [dec_t a1]; rfl
      · rw [dec_f a1, dec_t a1']; rfl
    rw [e, a2]
    simp only [cond_true, Option.bind_some]
    split
    · rfl
    · split
      · rfl
      · split <;> rfl
def playG : Greet → List GreetStep → Greet × List Bool
  | g, [] => (g, [])
  | g, s :: l => ((playG (stepG g s).2 l).1, (stepG g s).1 :: (playG (stepG g s).2 l).2)
theorem playG_ok : ∀ (l : List GreetStep) (n : Nat) (g : Greet), GI n g → GI (n + l.length) (playG g l).1 ∧ (playG g l).2.length = l.length
  | [], n, g, i => ⟨i, rfl⟩
  | s :: l, n, g, i => by
    obtain ⟨h1, h2⟩ := playG_ok l (n + 1) _ (stepG_ok i s)
    simp only [playG, List.length_cons]
    rw [show n + (l.length + 1) = n + 1 + l.length by omega]
    exact ⟨h1, by rw [h2]⟩
theorem copyG {n : Nat} (hn : n ≤ 150) {g : Greet} (i : GI n g) : impl_Greet_copied g = some g := by
  have := i.ll; have := i.la; have := i.lb
  unfold impl_Greet_copied slices_Clone_impl_Hello
  rw [app_of (by simp <;> omega) (by omega), Option.bind_some, app_of (by simp <;> omega) (by omega), Option.bind_some, app_of (by simp <;> omega) (by omega), Option.bind_some]
  rfl
theorem ownG {n : Nat} (hn : n ≤ 150) {g : Greet} (i : GI n g) : spec_l15Own g = some g := by
  have := i.ll; have := i.la; have := i.lb
  unfold spec_l15Own
  rw [app_of (by simp <;> omega) (by omega), Option.bind_some, app_of (by simp <;> omega) (by omega), Option.bind_some, app_of (by simp <;> omega) (by omega), Option.bind_some]
  rfl
theorem iPlayGGo {L : List GreetStep} (hL : L.length ≤ 120) : ∀ (n k : Nat), k + n = L.length → ∀ (g : Greet) (d : List Bool), GI k g → d.length = k →
    whl (impl_PlayGreet_l0 L) (d, (k : Int), g.StateA, g.StateB, g.X, g.Y, g.OfX, g.OfY, g.LastX, g.LastY, g.Line, g.OpenedA, g.OpenedB) = some (d ++ (playG g (L.drop k)).2, (playG g (L.drop k)).1.StateA, (playG g (L.drop k)).1.StateB, (playG g (L.drop k)).1.X, (playG g (L.drop k)).1.Y, (playG g (L.drop k)).1.OfX, (playG g (L.drop k)).1.OfY, (playG g (L.drop k)).1.LastX, (playG g (L.drop k)).1.LastY, (playG g (L.drop k)).1.Line, (playG g (L.drop k)).1.OpenedA, (playG g (L.drop k)).1.OpenedB)
  | 0, k, hk, g, d, i, hd => by
    rw [whl_eq]
    simp only [impl_PlayGreet_l0]
    rw [dec_f (by omega), List.drop_eq_nil_of_le (by omega)]
    simp [playG]
  | n + 1, k, hk, g, d, i, hd => by
    have hlt : k < L.length := by omega
    rw [whl_eq]
    simp only [impl_PlayGreet_l0]
    rw [dec_t (by omega), idx_lt hlt]
    simp only [cond_true, Option.bind_some]
    rw [show (⟨g.StateA, g.StateB, g.X, g.Y, g.OfX, g.OfY, g.LastX, g.LastY, g.Line, g.OpenedA, g.OpenedB⟩ : Greet) = g from rfl, copyG (by omega) i, Option.bind_some, iStepG (by omega) i]
    simp only [Option.bind_some]
    have e : (bif (stepG g L[k]).1 then some ((stepG g L[k]).2.StateA, (stepG g L[k]).2.StateB, (stepG g L[k]).2.X, (stepG g L[k]).2.Y, (stepG g L[k]).2.OfX, (stepG g L[k]).2.OfY, (stepG g L[k]).2.LastX, (stepG g L[k]).2.LastY, (stepG g L[k]).2.Line, (stepG g L[k]).2.OpenedA, (stepG g L[k]).2.OpenedB) else some (g.StateA, g.StateB, g.X, g.Y, g.OfX, g.OfY, g.LastX, g.LastY, g.Line, g.OpenedA, g.OpenedB)) = some ((stepG g L[k]).2.StateA, (stepG g L[k]).2.StateB, (stepG g L[k]).2.X, (stepG g L[k]).2.Y, (stepG g L[k]).2.OfX, (stepG g L[k]).2.OfY, (stepG g L[k]).2.LastX, (stepG g L[k]).2.LastY, (stepG g L[k]).2.Line, (stepG g L[k]).2.OpenedA, (stepG g L[k]).2.OpenedB) := by
      cases h : (stepG g L[k]).1
      · rw [stepG_no _ h]; rfl
      · rfl
    rw [e, Option.bind_some]
    dsimp only
    rw [app_of (by simp <;> omega) (by omega), Option.bind_some, w64 (by omega)]
    have := iPlayGGo hL n (k + 1) (by omega) (stepG g L[k]).2 (d ++ [(stepG g L[k]).1]) (stepG_ok i _) (by simp [hd])
    rw [show ((k : Int) + 1) = ((k + 1 : Nat) : Int) by omega, Option.bind_some]
    dsimp only
    rw [this, List.drop_eq_getElem_cons hlt]
    simp [playG]
theorem sPlayGGo {L : List GreetStep} (hL : L.length ≤ 120) : ∀ (n k : Nat), k + n = L.length → ∀ (g : Greet) (d : List Bool), GI k g → d.length = k →
    whl (spec_PlayGreet_l0 L) (d, (k : Int), g.StateA, g.StateB, g.X, g.Y, g.OfX, g.OfY, g.LastX, g.LastY, g.Line, g.OpenedA, g.OpenedB) = some (d ++ (playG g (L.drop k)).2, (playG g (L.drop k)).1.StateA, (playG g (L.drop k)).1.StateB, (playG g (L.drop k)).1.X, (playG g (L.drop k)).1.Y, (playG g (L.drop k)).1.OfX, (playG g (L.drop k)).1.OfY, (playG g (L.drop k)).1.LastX, (playG g (L.drop k)).1.LastY, (playG g (L.drop k)).1.Line, (playG g (L.drop k)).1.OpenedA, (playG g (L.drop k)).1.OpenedB)
  | 0, k, hk, g, d, i, hd => by
    rw [whl_eq]
    simp only [spec_PlayGreet_l0]
    rw [dec_f (by omega), List.drop_eq_nil_of_le (by omega)]
    simp [playG]
  | n + 1, k, hk, g, d, i, hd => by
    have hlt : k < L.length := by omega
    rw [whl_eq]
    simp only [spec_PlayGreet_l0]
    rw [dec_t (by omega), idx_lt hlt]
    simp only [cond_true, Option.bind_some]
    rw [show (⟨g.StateA, g.StateB, g.X, g.Y, g.OfX, g.OfY, g.LastX, g.LastY, g.Line, g.OpenedA, g.OpenedB⟩ : Greet) = g from rfl, ownG (by omega) i, Option.bind_some, sStepG (by omega) i]
    simp only [Option.bind_some]
    have e : (bif (stepG g L[k]).1 then some ((stepG g L[k]).2.StateA, (stepG g L[k]).2.StateB, (stepG g L[k]).2.X, (stepG g L[k]).2.Y, (stepG g L[k]).2.OfX, (stepG g L[k]).2.OfY, (stepG g L[k]).2.LastX, (stepG g L[k]).2.LastY, (stepG g L[k]).2.Line, (stepG g L[k]).2.OpenedA, (stepG g L[k]).2.OpenedB) else some (g.StateA, g.StateB, g.X, g.Y, g.OfX, g.OfY, g.LastX, g.LastY, g.Line, g.OpenedA, g.OpenedB)) = some ((stepG g L[k]).2.StateA, (stepG g L[k]).2.StateB, (stepG g L[k]).2.X, (stepG g L[k]).2.Y, (stepG g L[k]).2.OfX, (stepG g L[k]).2.OfY, (stepG g L[k]).2.LastX, (stepG g L[k]).2.LastY, (stepG g L[k]).2.Line, (stepG g L[k]).2.OpenedA, (stepG g L[k]).2.OpenedB) := by
      cases h : (stepG g L[k]).1
      · rw [stepG_no _ h]; rfl
      · rfl
    rw [e, Option.bind_some]
    dsimp only
    rw [app_of (by simp <;> omega) (by omega), Option.bind_some, w64 (by omega)]
    have := sPlayGGo hL n (k + 1) (by omega) (stepG g L[k]).2 (d ++ [(stepG g L[k]).1]) (stepG_ok i _) (by simp [hd])
    rw [show ((k : Int) + 1) = ((k + 1 : Nat) : Int) by omega, Option.bind_some]
    dsimp only
    rw [this, List.drop_eq_getElem_cons hlt]
    simp [playG]
def newG : Greet := ⟨0, 0, 0, 0, 0, 0, 100, 0, [], [], []⟩
def noG : Greet := ⟨0, 0, 0, 0, 0, 0, 0, 0, [], [], []⟩
theorem newG_ok : GI 0 newG :=
  ⟨by simp [newG], by simp [newG], by simp [newG], by simp [newG], by simp [newG], .inl ⟨rfl, rfl, rfl⟩, .inl ⟨rfl, rfl, rfl⟩, ⟨fun _ => 0, by simp [newG], by simp [newG]⟩, by simp [newG], by simp [newG], by simp [newG]⟩
def playGF (l : List GreetStep) : Greet × List Bool × Bool := if l.length ≤ 120 then ((playG newG l).1, (playG newG l).2, true) else (noG, [], false)
theorem iPlayG (l : List GreetStep) : impl_PlayGreet l = some (playGF l) := by
  unfold impl_PlayGreet playGF
  by_cases hl : l.length ≤ 120
  · rw [dec_f (by omega), if_pos hl, cond_false]
    have := iPlayGGo hl l.length 0 (by omega) newG [] newG_ok rfl
    simp only [List.drop_zero, List.nil_append] at this
    unfold impl_NewGreet
    rw [Option.bind_some]
    change (whl (impl_PlayGreet_l0 l) ([], ((0 : Nat) : Int), newG.StateA, newG.StateB, newG.X, newG.Y, newG.OfX, newG.OfY, newG.LastX, newG.LastY, newG.Line, newG.OpenedA, newG.OpenedB)).bind _ = _
    rw [this]
    rfl
  · rw [dec_t (by omega), if_neg hl]; rfl
theorem sPlayG (l : List GreetStep) : spec_PlayGreet l = some (playGF l) := by
  unfold spec_PlayGreet playGF
  by_cases hl : l.length ≤ 120
  · rw [dec_f (by omega), if_pos hl, cond_false]
    have := sPlayGGo hl l.length 0 (by omega) newG [] newG_ok rfl
    simp only [List.drop_zero, List.nil_append] at this
    unfold spec_NewGreet
    rw [Option.bind_some]
    change (whl (spec_PlayGreet_l0 l) ([], ((0 : Nat) : Int), newG.StateA, newG.StateB, newG.X, newG.Y, newG.OfX, newG.OfY, newG.LastX, newG.LastY, newG.Line, newG.OpenedA, newG.OpenedB)).bind _ = _
    rw [this, Option.bind_some]
    dsimp only
    rw [show (⟨(playG newG l).1.StateA, (playG newG l).1.StateB, (playG newG l).1.X, (playG newG l).1.Y, (playG newG l).1.OfX, (playG newG l).1.OfY, (playG newG l).1.LastX, (playG newG l).1.LastY, (playG newG l).1.Line, (playG newG l).1.OpenedA, (playG newG l).1.OpenedB⟩ : Greet) = (playG newG l).1 from rfl, ownG (n := 0 + l.length) (by omega) (playG_ok l 0 newG newG_ok).1]
    rfl
  · rw [dec_t (by omega), if_neg hl]; rfl
theorem concatG {a b : List Hello} (ha : a.length ≤ 200) (hb : b.length ≤ 200) : slices_Concat_impl_Hello [a, b] = some (a ++ b) := by
  have e1 : whl (slices_Concat_impl_Hello_l0 [a, b]) (0, 0) = some ((a.length : Int) + b.length) := by
    rw [whl_eq]
    simp only [slices_Concat_impl_Hello_l0]
    rw [dec_t (by simp), show idx [a, b] (0 : Int) = some a from by simp [idx]]
    simp only [cond_true, Option.bind_some]
    rw [w64 (x := 0 + (a.length : Int)) (by omega), dec_f (by omega), w64 (x := (0 : Int) + 1) (by omega)]
    simp only [cond_false, Option.bind_some]
    rw [whl_eq]
    simp only [slices_Concat_impl_Hello_l0]
    rw [dec_t (by simp), show idx [a, b] (0 + 1 : Int) = some b from by simp [idx]]
    simp only [cond_true, Option.bind_some]
    rw [w64 (x := 0 + (a.length : Int) + b.length) (by omega), dec_f (by omega), w64 (x := (0 : Int) + 1 + 1) (by omega)]
    simp only [cond_false, Option.bind_some]
    rw [whl_eq]
    simp only [slices_Concat_impl_Hello_l0]
    rw [dec_f (by simp)]
    simp
  have e2 : slices_Grow_impl_Hello_nil ((a.length : Int) + b.length) = some [] := by
    unfold slices_Grow_impl_Hello_nil
    rw [dec_f (by omega), w64 (x := 0 - 0) (by omega), w64 (x := (a.length : Int) + b.length - (0 - 0)) (by omega)]
    simp only [cond_false, Option.bind_some]
    by_cases h : (0 : Int) < (a.length : Int) + b.length - (0 - 0)
    · rw [dec_t h, cond_true, show (a.length : Int) + b.length - (0 - 0) = ((a.length + b.length : Nat) : Int) by omega, mkL_of (by omega) (by omega), Option.bind_some]
      simp [slc]; omega
    · rw [dec_f h]; rfl
  have e3 : whl (slices_Concat_impl_Hello_l1 [a, b]) ([], 0) = some (a ++ b) := by
    rw [whl_eq]
    simp only [slices_Concat_impl_Hello_l1]
    rw [dec_t (by simp), show idx [a, b] (0 : Int) = some a from by simp [idx]]
    simp only [cond_true, Option.bind_some]
    rw [app_of (by simp <;> omega) (by omega), Option.bind_some, w64 (x := (0 : Int) + 1) (by omega), Option.bind_some]
    dsimp only
    rw [whl_eq]
    simp only [slices_Concat_impl_Hello_l1]
    rw [dec_t (by simp), show idx [a, b] (0 + 1 : Int) = some b from by simp [idx]]
    simp only [cond_true, Option.bind_some]
    rw [app_of (by simp <;> omega) (by omega), Option.bind_some, w64 (x := (0 : Int) + 1 + 1) (by omega), Option.bind_some]
    dsimp only
    rw [whl_eq]
    simp only [slices_Concat_impl_Hello_l1]
    rw [dec_f (by simp)]
    simp
  unfold slices_Concat_impl_Hello
  rw [e1, Option.bind_some, e2, Option.bind_some, e3, Option.bind_some]
theorem noneG {l : List Hello} (hl : l.length ≤ 1048576) {p : Hello → Option Bool} (h : ∀ x ∈ l, p x = some false) : slices_ContainsFunc_impl_Hello l p = some false := by
  unfold slices_ContainsFunc_impl_Hello slices_IndexFunc_impl_Hello
  have key : whl (slices_IndexFunc_impl_Hello_l0 l p) 0 = some (.next ()) := by
    refine whl_to (fun i : Int => l.length - i.toNat) (fun i => 0 ≤ i ∧ i ≤ l.length) _ ?_ _ ⟨by omega, by omega⟩
    rintro i ⟨i0, i1⟩
    simp only [slices_IndexFunc_impl_Hello_l0]
    by_cases hi : i < l.length
    · rw [dec_t hi, idx_in i0 hi]
      simp only [cond_true, Option.bind_some, h _ (List.getElem_mem _), cond_false]
      rw [w64 (by omega)]
      exact ⟨_, rfl, ⟨by omega, by omega⟩, by omega⟩
    · rw [dec_f hi]
      exact ⟨_, rfl, rfl⟩
  rw [key]; rfl
theorem inT {a l h : Int} (h1 : l ≤ a) (h2 : a ≤ h) : inB a l h = true := inB_iff.2 ⟨h1, h2⟩
theorem goodG {n : Nat} (hn : n ≤ 150) {g : Greet} (i : GI n g) : impl_GoodGreet g = some true := by
  have hx := i.lx; have hy := i.ly; have ha := i.la; have hb := i.lb; have hl := i.ll
  obtain ⟨f, f1, f2⟩ := i.gv
  have given : ∀ a b : Int, 1 ≤ a → a ≤ g.LastX → 1 ≤ b → b ≤ g.LastY → impl_Greet_isGiven g a b = some true := fun a b h1 h2 h3 h4 => by
    unfold impl_Greet_isGiven
    rw [iIn, iIn, Option.bind_some, inT h1 h2, inT h3 h4]; rfl
  have hello : ∀ h ∈ g.Line, impl_Greet_isHello g h = some true := fun h hh => by
    obtain ⟨a1, a2, a3⟩ := f1 h hh
    unfold impl_Greet_isHello
    rcases a3 with ⟨b1, b2⟩ | ⟨b1, b2, b3, _⟩
    · rw [beq_t b1, iIn, cond_true, inT a1 a2, Option.bind_some, cond_true, beq_t b2]
    · rw [beq_f (show h.Kind ≠ 1 by omega), given _ _ a1 a2 b2 b3]
      rcases b1 with b1 | b1
      · rw [beq_t b1]; rfl
      · rw [beq_f (show h.Kind ≠ 2 by omega), beq_t b1]; rfl
  have opened : ∀ h ∈ g.OpenedA, h.Kind = 3 ∧ impl_Greet_isHello g h = some true := fun h hh => by
    obtain ⟨a1, a2, a3, a4, a5, _⟩ := f2 h hh
    refine ⟨a1, ?_⟩
    unfold impl_Greet_isHello
    rw [beq_f (show h.Kind ≠ 1 by omega), beq_f (show h.Kind ≠ 2 by omega), beq_t a1, given _ _ a2 a3 a4 a5]; rfl
  have c1 : slices_ContainsFunc_impl_Hello g.Line (fun y0 => impl_GoodGreet_1 y0 g) = some false := noneG (by omega) fun h hh => by
    unfold impl_GoodGreet_1
    rw [hello h hh]; rfl
  have c2 : slices_ContainsFunc_impl_Hello (g.OpenedA ++ g.OpenedB) (fun y0 => impl_GoodGreet_2 y0 g) = some false := noneG (by simp <;> omega) fun h hh => by
    have hh' : h ∈ g.OpenedA := by
      rcases List.mem_append.1 hh with h' | h'
      · exact h'
      · exact (i.ob h h').1
    obtain ⟨a1, a2⟩ := opened h hh'
    unfold impl_GoodGreet_2
    rw [bne_f a1, a2]; rfl
  unfold impl_GoodGreet
  rw [iIn, iIn, inT hx.1 (by omega), inT hy.1 (by omega), dec_f (by omega), dec_f (by omega), dec_f (by omega), concatG (by omega) (by omega)]
  have eA : ((bif (g.StateA == 0) then ((bif (g.X == 0) then some ((g.OfY == 0)) else some (false))).bind fun x28 => some (x28) else ((bif (g.StateA == 1) then ((impl_in g.X 1 g.LastX).bind fun b44 => (bif b44 then some ((g.OfY == 0)) else some (false))).bind fun x39 => some (x39) else ((bif (g.StateA == 2) then (impl_Greet_isGiven g g.X g.OfY).bind fun b51 => some (b51) else some (false))).bind fun x46 => some (x46))).bind fun x34 => some (x34))).bind (fun x23 => some (x23)) = some true := by
    rcases i.sa with ⟨h1, h2, h3⟩ | ⟨h1, h2, h3, h4⟩ | ⟨h1, h2, h3, h4, h5, _⟩
    · rw [beq_t h1, beq_t h2, beq_t h3]; rfl
    · rw [beq_f (show g.StateA ≠ 0 by omega), beq_t h1, iIn, inT h2 (by omega), beq_t h4]; rfl
    · rw [beq_f (show g.StateA ≠ 0 by omega), beq_f (show g.StateA ≠ 1 by omega), beq_t h1, given _ _ h2 (by omega) h4 h5]; rfl
  have eB : ((bif (g.StateB == 0) then ((bif (g.OfX == 0) then some ((g.Y == 0)) else some (false))).bind fun x65 => some (x65) else ((bif (g.StateB == 1) then some ((g.StateB == 1)) else some ((g.StateB == 2)))).bind fun x72 => ((bif x72 then (impl_Greet_isGiven g g.OfX g.Y).bind fun b82 => some (b82) else some (false))).bind fun x77 => some (x77))).bind (fun x60 => some (x60)) = some true := by
    rcases i.sb with ⟨h1, h2, h3⟩ | ⟨h1, h2, h3, h4, h5⟩
    · rw [beq_t h1, beq_t h2, beq_t h3]; rfl
    · rw [beq_f (show g.StateB ≠ 0 by omega), given _ _ h2 h3 h4 (by omega)]
      rcases h1 with h1 | h1
      · rw [beq_t h1]; rfl
      · rw [beq_f (show g.StateB ≠ 1 by omega), beq_t h1]; rfl
  simp only [Bool.not_true, cond_false, Option.bind_some]
  rw [eA, Option.bind_some, eB, Option.bind_some]
  simp only [cond_true, c1, c2, Option.bind_some, Bool.not_false]
theorem gsteps_ok {c : L1Cur} (h : Cur c 0) : Tot (spec_l1Cur_greetSteps c) fun r => r.1.length ≤ 200 := by
  unfold spec_l1Cur_greetSteps
  obtain ⟨x, d, e1, e2, e3⟩ := pick_ok (n := 30) h (by omega)
  have e2' := e2.2 (by omega)
  rw [e1, Option.bind_some]
  simp only
  obtain ⟨b, d2, g1, g2⟩ := one_ok (n := 12) e3 (by omega)
  rw [g1, Option.bind_some]
  simp only
  have start : ∃ (n : Int) (e : L1Cur), 0 ≤ n ∧ n ≤ 121 ∧ Cur e 2000 ∧ (bif b then (spec_l1Cur_pick d2 3).bind fun (b21, b22) => some ((IntKind.i64.wrap (119 + b21)), b22.Code, b22.At, b22.Seed) else some (x, d2.Code, d2.At, d2.Seed)) = some (n, e.Code, e.At, e.Seed) := by
    cases b
    · exact ⟨x, d2, by omega, by omega, g2.mono (by omega), rfl⟩
    · obtain ⟨y, d3, m1, m2, m3⟩ := pick_ok (n := 3) g2 (by omega)
      have := m2.2 (by omega)
      refine ⟨119 + y, d3, by omega, by omega, m3.mono (by omega), ?_⟩
      rw [cond_true, m1, Option.bind_some]
      simp only
      rw [w64 (by omega)]
  obtain ⟨n, e, n0, n1, ce, e4⟩ := start
  rw [e4, Option.bind_some]
  simp only
  have key : Tot (whl spec_l1Cur_greetSteps_l0 ([], n, e.Code, e.At, e.Seed)) fun y => y.1.length ≤ 121 ∧ Cur ⟨y.2.1, y.2.2.1, y.2.2.2⟩ 5000 := by
    refine Tot.whl (fun x => x.2.1.toNat) (fun x => 0 ≤ x.2.1 ∧ (x.1.length : Int) + x.2.1 ≤ 121 ∧ Cur ⟨x.2.2.1, x.2.2.2.1, x.2.2.2.2⟩ (5000 - 10 * x.2.1)) ?_ ⟨n0, by simp only [List.length_nil]; omega, ce.mono (by simp only; omega)⟩
    rintro ⟨l, n, C, A, S⟩ ⟨i1, i3, i4⟩
    simp only at i1 i3 i4
    simp only [spec_l1Cur_greetSteps_l0]
    by_cases hn : 0 < n
    · rw [dec_t hn]
      obtain ⟨y, d', f1, f2, f3⟩ := among_ok (l := [1, 2, 2, 2, 2, 2, 2, 3, 4, 4, 5, 6]) i4 (by omega) (by simp)
      simp only [cond_true, f1, Option.bind_some, sIn]
      have h2 : ∃ (e : L1Cur) (z : Int), Cur e (5000 - 10 * n + 4) ∧ (bif inB y 2 4 then (spec_l1Cur_pick d' 4).bind fun (b68, b69) => some (b69.Code, b69.At, b69.Seed, b68) else some (d'.Code, d'.At, d'.Seed, 0)) = some (e.Code, e.At, e.Seed, z) := by
        cases inB y 2 4
        · exact ⟨d', 0, f3.mono (by omega), rfl⟩
        · obtain ⟨z, e, m1, m2, m3⟩ := pick_ok (n := 4) f3 (by omega)
          refine ⟨e, z, m3.mono (by omega), ?_⟩
          rw [cond_true, m1]; rfl
      obtain ⟨e', z, v1, v2⟩ := h2
      rw [v2, Option.bind_some]
      simp only
      have h3 : ∃ (e : L1Cur) (w : Int), Cur e (5000 - 10 * n + 6) ∧ (bif (y == 6) then (spec_l1Cur_pick (⟨e'.Code, e'.At, e'.Seed⟩ : L1Cur) 2).bind fun (b81, b82) => some (b82.Code, b82.At, b82.Seed, b81) else some (e'.Code, e'.At, e'.Seed, z)) = some (e.Code, e.At, e.Seed, w) := by
        cases y == 6
        · exact ⟨e', z, v1.mono (by omega), rfl⟩
        · obtain ⟨w, e, m1, m2, m3⟩ := pick_ok (n := 2) v1 (by omega)
          refine ⟨e, w, m3.mono (by omega), ?_⟩
          rw [cond_true, show (⟨e'.Code, e'.At, e'.Seed⟩ : L1Cur) = e' from rfl, m1]; rfl
      obtain ⟨e2, w, u1, u2⟩ := h3
      rw [u2, Option.bind_some]
      simp only
      rw [app_of (by simp <;> omega) (by omega), Option.bind_some, w64 (x := n - 1) (by omega)]
      exact ⟨_, rfl, ⟨by simp only; omega, by simp <;> omega, u1.mono (by simp only; omega)⟩, by simp only; omega⟩
    · rw [dec_f hn]
      exact ⟨_, rfl, by simp only; omega, i4.mono (by omega)⟩
  refine Tot.then key ?_
  rintro ⟨l, C, A, S⟩ ⟨k1, k3⟩
  simp only at k1 k3 ⊢
  by_cases hl : 0 < l.length
  · rw [dec_t (by omega)]
    obtain ⟨b', d4, o1, o2⟩ := one_ok (n := 20) k3 (by omega)
    simp only [cond_true, o1, Option.bind_some]
    cases b'
    · exact ⟨_, rfl, by simp only; omega⟩
    · obtain ⟨y, d5, m1, m2, m3⟩ := pick_ok (n := 8) o2 (by omega)
      obtain ⟨z, d6, q1, q2, q3⟩ := pick_ok (n := 4) m3 (by omega)
      simp only [cond_true, m1, q1, Option.bind_some]
      rw [idx_in (by omega) (by omega), Option.bind_some]
      exact ⟨_, rfl, by simp <;> omega⟩
  · rw [dec_f (by omega)]
    exact ⟨_, rfl, by simp only; omega⟩
theorem drawG {l : List Int} (hl : l.length ≤ 1048576) (hb : ∀ x ∈ l, 0 ≤ x ∧ x ≤ 255) : Tot (spec_DrawPlayGreet l) fun r => r.length ≤ 200 := by
  unfold spec_DrawPlayGreet
  refine Tot.then (gsteps_ok (cur0 hl hb)) ?_
  rintro ⟨s, d'⟩ h3
  exact ⟨_, rfl, h3⟩
theorem sameHs {l : List Hello} (hl : l.length ≤ 1048576) : laws_sameHellos l l = some true := by
  unfold laws_sameHellos
  rw [eqS_go (l := l) (fun k hk => by
    simp only [laws_sameHellos_l0]
    rw [dec_t (by omega), idx_lt hk, w64 (by omega)]
    simp) (by simp [laws_sameHellos_l0])]
  simp
theorem sameG {g : Greet} (h1 : g.Line.length ≤ 1048576) (h2 : g.OpenedA.length ≤ 1048576) (h3 : g.OpenedB.length ≤ 1048576) : laws_sameGreets g g = some true := by
  unfold laws_sameGreets
  simp only [beq_self_eq_true, cond_true, sameHs h1, sameHs h2, sameHs h3, Option.bind_some]
theorem containsG {l : List Hello} (hl : l.length ≤ 1048576) (x : Hello) : ∃ b, slices_Contains_impl_Hello l x = some b ∧ (b = true ↔ x ∈ l) := by
  unfold slices_Contains_impl_Hello slices_Index_impl_Hello
  have key : Tot (whl (slices_Index_impl_Hello_l0 l x) 0) fun y => match y with | .next () => x ∉ l | .done i => 0 ≤ i ∧ x ∈ l := by
    refine Tot.whl (fun i : Int => l.length - i.toNat) (fun i => 0 ≤ i ∧ i ≤ l.length ∧ ∀ y ∈ l.take i.toNat, y ≠ x) ?_ ⟨by omega, by omega, by simp⟩
    rintro i ⟨i0, i1, i2⟩
    simp only [slices_Index_impl_Hello_l0]
    by_cases hi : i < l.length
    · have hlt : i.toNat < l.length := by omega
      rw [dec_t hi, idx_in i0 hi]
      simp only [cond_true, Option.bind_some]
      by_cases he : x = l[i.toNat]
      · have : ((x.Kind == l[i.toNat].Kind) && ((x.X == l[i.toNat].X) && ((x.Y == l[i.toNat].Y) && true))) = true := by rw [← he]; simp
        rw [this]
        exact ⟨_, rfl, i0, by rw [he]; exact List.getElem_mem _⟩
      · have : ((x.Kind == l[i.toNat].Kind) && ((x.X == l[i.toNat].X) && ((x.Y == l[i.toNat].Y) && true))) = false := by
          cases hb : ((x.Kind == l[i.toNat].Kind) && ((x.X == l[i.toNat].X) && ((x.Y == l[i.toNat].Y) && true)))
          · rfl
          · simp only [Bool.and_eq_true, beq_iff_eq, and_true] at hb
            exact absurd (by
              generalize l[i.toNat] = y at hb
              cases x; cases y; simp only at hb; obtain ⟨rfl, rfl, rfl⟩ := hb; rfl) he
        rw [this, cond_false, w64 (by omega)]
        refine ⟨_, rfl, ⟨by omega, by omega, fun y hy => ?_⟩, by omega⟩
        rw [show (i + 1).toNat = i.toNat + 1 by omega, List.take_succ_eq_append_getElem hlt] at hy
        rcases List.mem_append.1 hy with h' | h'
        · exact i2 y h'
        · simp at h'; rw [h']; exact fun h => he h.symm
    · rw [dec_f hi]
      refine ⟨_, rfl, fun hx => ?_⟩
      rw [List.take_of_length_le (by omega)] at i2
      exact i2 x hx rfl
  obtain ⟨y, e1, e2⟩ := key
  rw [e1, Option.bind_some]
  rcases y with ⟨⟩ | i
  · exact ⟨_, rfl, by simpa using e2⟩
  · exact ⟨_, rfl, by simp [e2.1, e2.2]⟩
theorem hasG {l : List Hello} (hl : l.length ≤ 300) (x : Hello) : (x ∈ l → impl_HasHello l x = some (true, true)) ∧ (x ∉ l → impl_HasHello l x = some (false, true)) := by
  unfold impl_HasHello
  obtain ⟨b, e1, e2⟩ := containsG (l := l) (by omega) x
  rw [dec_f (by omega), cond_false, e1]
  cases b
  · exact ⟨fun h => absurd (e2.2 h) (by simp), fun _ => rfl⟩
  · exact ⟨fun _ => rfl, fun h => absurd (e2.1 rfl) h⟩
theorem take_lt {α : Type} {R : α → α → Prop} {l : List α} (h : l.Pairwise R) {k : Nat} (hk : k < l.length) : ∀ y ∈ l.take k, R y l[k] := fun y hy => by
  obtain ⟨j, hj, rfl⟩ := List.mem_iff_getElem.1 hy
  rw [List.length_take] at hj
  rw [List.getElem_take]
  exact (List.pairwise_iff_getElem.1 h) j k (by omega) hk (by omega)
theorem slcT {α : Type} {l : List α} {i : Int} (h0 : 0 ≤ i) (h : i ≤ l.length) : slc l 0 i = some (l.take i.toNat) := by
  simp [slc]; omega
theorem open_l0 {n : Nat} (hn : n ≤ 150) {g : Greet} (i : GI n g) : whl (laws_FnOpened_l0 g) 0 = some (.next ()) := by
  have ha := i.la; have hb := i.lb
  refine whl_to (fun k : Int => g.OpenedB.length - k.toNat) (fun k => 0 ≤ k ∧ k ≤ g.OpenedB.length) _ ?_ _ ⟨by omega, by omega⟩
  rintro k ⟨i0, i1⟩
  simp only [laws_FnOpened_l0]
  by_cases hi : k < g.OpenedB.length
  · have hlt : k.toNat < g.OpenedB.length := by omega
    have hm := (i.ob _ (List.getElem_mem hlt)).1
    have hno : g.OpenedB[k.toNat] ∉ g.OpenedB.take k.toNat := fun h => by
      have := take_lt i.pb hlt _ h
      omega
    rw [dec_t hi, idx_in i0 hi]
    simp only [cond_true, Option.bind_some]
    rw [(hasG (by omega) _).1 hm, Option.bind_some]
    dsimp only
    rw [slcT i0 (by omega), Option.bind_some, (hasG (by rw [List.length_take]; omega) _).2 hno, Option.bind_some]
    simp only [Bool.not_true, cond_false, Option.bind_some]
    rw [w64 (by omega)]
    exact ⟨_, rfl, ⟨by omega, by omega⟩, by omega⟩
  · rw [dec_f hi]
    exact ⟨_, rfl, rfl⟩
theorem open_l1 {l : List Hello} (hl : l.length ≤ 1000) {x : Hello} (h : ∀ y ∈ l, x.X ≠ y.X ∧ x.Y ≠ y.Y) : whl (laws_FnOpened_l1 x l) 0 = some (.next ()) := by
  refine whl_to (fun k : Int => l.length - k.toNat) (fun k => 0 ≤ k ∧ k ≤ l.length) _ ?_ _ ⟨by omega, by omega⟩
  rintro k ⟨i0, i1⟩
  simp only [laws_FnOpened_l1]
  by_cases hi : k < l.length
  · obtain ⟨h1, h2⟩ := h _ (List.getElem_mem (l := l) (n := k.toNat) (by omega))
    rw [dec_t hi, idx_in i0 hi]
    simp only [cond_true, Option.bind_some, beq_f h1, beq_f h2, cond_false]
    rw [w64 (by omega)]
    exact ⟨_, rfl, ⟨by omega, by omega⟩, by omega⟩
  · rw [dec_f hi]
    exact ⟨_, rfl, rfl⟩
theorem open_l2 {n : Nat} (hn : n ≤ 150) {g : Greet} (i : GI n g) : whl (laws_FnOpened_l2 g) 0 = some (.next ()) := by
  have ha := i.la
  obtain ⟨f, _, f2⟩ := i.gv
  refine whl_to (fun k : Int => g.OpenedA.length - k.toNat) (fun k => 0 ≤ k ∧ k ≤ g.OpenedA.length) _ ?_ _ ⟨by omega, by omega⟩
  rintro k ⟨i0, i1⟩
  simp only [laws_FnOpened_l2]
  by_cases hi : k < g.OpenedA.length
  · have hlt : k.toNat < g.OpenedA.length := by omega
    rw [dec_t hi, idx_in i0 hi]
    simp only [cond_true, Option.bind_some]
    rw [slcT i0 (by omega), Option.bind_some, open_l1 (by rw [List.length_take]; omega) (fun y hy => ?_), Option.bind_some]
    · dsimp only
      rw [w64 (by omega)]
      exact ⟨_, rfl, ⟨by omega, by omega⟩, by omega⟩
    · have h1 := take_lt i.pa hlt y hy
      have e1 := (f2 y (List.mem_of_mem_take hy)).2.2.2.2.2.1
      have e2 := (f2 _ (List.getElem_mem hlt)).2.2.2.2.2.1
      refine ⟨by omega, fun he => ?_⟩
      rw [he, ← e1] at e2
      omega
  · rw [dec_f hi]
    exact ⟨_, rfl, rfl⟩
theorem st1 (a b : Int) (A B : List Hello) (h : a ≠ 1000) : stepG ⟨0, 0, 0, 0, 0, 0, a, b, [], A, B⟩ ⟨1, 0⟩ = (true, ⟨1, 0, a + 1, 0, 0, 0, a + 1, b, [⟨1, a + 1, 0⟩], A, B⟩) := by
  simp [stepG, goesG, h]
theorem st2 (a b : Int) (A B : List Hello) (h : b < 1000) : stepG ⟨1, 0, a, 0, 0, 0, a, b, [⟨1, a, 0⟩], A, B⟩ ⟨2, 0⟩ = (true, ⟨1, 1, a, b + 1, a, 0, a, b + 1, [⟨2, a, b + 1⟩], A, B⟩) := by
  simp [stepG, takeG, goesG, cutG, idx, h]
theorem st3 (a b : Int) (A B : List Hello) : stepG ⟨1, 1, a, b, a, 0, a, b, [⟨2, a, b⟩], A, B⟩ ⟨2, 0⟩ = (true, ⟨2, 1, a, b, a, b, a, b, [⟨3, a, b⟩], A ++ [⟨3, a, b⟩], B⟩) := by
  simp [stepG, takeG, goesG, cutG, idx]
theorem st4 (a b : Int) (A B : List Hello) : stepG ⟨2, 1, a, b, a, b, a, b, [⟨3, a, b⟩], A, B⟩ ⟨2, 0⟩ = (true, ⟨2, 2, a, b, a, b, a, b, [], A, B ++ [⟨3, a, b⟩]⟩) := by
  simp [stepG, takeG, cutG, idx]
def endG (g : Greet) : Greet := ⟨2, 2, g.LastX + 1, g.LastY + 1, g.LastX + 1, g.LastY + 1, g.LastX + 1, g.LastY + 1, [], g.OpenedA ++ [⟨3, g.LastX + 1, g.LastY + 1⟩], g.OpenedB ++ [⟨3, g.LastX + 1, g.LastY + 1⟩]⟩
theorem settleG {n : Nat} (hn : n ≤ 120) {g : Greet} (i : GI n g) : impl_SettleGreet g = some (endG g, true) ∧ GI (n + 4) (endG g) := by
  have hx := i.lx; have hy := i.ly
  have iA := closeA_ok i
  have iB := closeB_ok iA
  have i0 : GI n ⟨0, 0, 0, 0, 0, 0, g.LastX, g.LastY, [], g.OpenedA, g.OpenedB⟩ := iB.line (Nat.le_refl _) (l := []) (by simp) (by simp)
  have e1 := st1 g.LastX g.LastY g.OpenedA g.OpenedB (by omega)
  have e2 := st2 (g.LastX + 1) g.LastY g.OpenedA g.OpenedB (by omega)
  have e3 := st3 (g.LastX + 1) (g.LastY + 1) g.OpenedA g.OpenedB
  have e4 := st4 (g.LastX + 1) (g.LastY + 1) (g.OpenedA ++ [⟨3, g.LastX + 1, g.LastY + 1⟩]) g.OpenedB
  have i1 := stepG_ok i0 ⟨1, 0⟩
  rw [e1] at i1
  have i2 := stepG_ok i1 ⟨2, 0⟩
  rw [e2] at i2
  have i3 := stepG_ok i2 ⟨2, 0⟩
  rw [e3] at i3
  have i4 := stepG_ok i3 ⟨2, 0⟩
  rw [e4] at i4
  have s1 := iStepG (by omega) i0 ⟨1, 0⟩
  have s2 := iStepG (by omega) i1 ⟨2, 0⟩
  have s3 := iStepG (by omega) i2 ⟨2, 0⟩
  have s4 := iStepG (by omega) i3 ⟨2, 0⟩
  rw [e1] at s1; rw [e2] at s2; rw [e3] at s3; rw [e4] at s4
  refine ⟨?_, i4⟩
  have sA : impl_Greet_step g ⟨6, 0⟩ = some (true, { g with StateA := 0, X := 0, OfY := 0 }) := by rw [iStepG (by omega) i]; simp [stepG]
  have sB : impl_Greet_step { g with StateA := 0, X := 0, OfY := 0 } ⟨6, 1⟩ = some (true, { g with StateA := 0, X := 0, OfY := 0, StateB := 0, OfX := 0, Y := 0 }) := by rw [iStepG (by omega) iA]; simp [stepG]
  have run : whl impl_SettleGreet_l0 (0, 0, 0, 0, 0, 0, 0, g.LastX, g.LastY, [], g.OpenedA, g.OpenedB) = some (.next ((endG g).StateA, (endG g).StateB, (endG g).X, (endG g).Y, (endG g).OfX, (endG g).OfY, (endG g).LastX, (endG g).LastY, (endG g).Line, (endG g).OpenedA, (endG g).OpenedB)) := by
    rw [whl_eq]
    simp only [impl_SettleGreet_l0]
    rw [dec_t (by simp), show idx ([⟨1, 0⟩, ⟨2, 0⟩, ⟨2, 0⟩, ⟨2, 0⟩] : List GreetStep) 0 = some ⟨1, 0⟩ from by simp [idx]]
    simp only [cond_true, Option.bind_some, s1, Bool.not_true, cond_false]
    rw [w64 (by omega), whl_eq]
    simp only [impl_SettleGreet_l0]
    rw [dec_t (by simp), show idx ([⟨1, 0⟩, ⟨2, 0⟩, ⟨2, 0⟩, ⟨2, 0⟩] : List GreetStep) (0 + 1) = some ⟨2, 0⟩ from by simp [idx]]
    simp only [cond_true, Option.bind_some, s2, Bool.not_true, cond_false]
    rw [w64 (by omega), whl_eq]
    simp only [impl_SettleGreet_l0]
    rw [dec_t (by simp), show idx ([⟨1, 0⟩, ⟨2, 0⟩, ⟨2, 0⟩, ⟨2, 0⟩] : List GreetStep) (0 + 1 + 1) = some ⟨2, 0⟩ from by simp [idx]]
    simp only [cond_true, Option.bind_some, s3, Bool.not_true, cond_false]
    rw [w64 (by omega), whl_eq]
    simp only [impl_SettleGreet_l0]
    rw [dec_t (by simp), show idx ([⟨1, 0⟩, ⟨2, 0⟩, ⟨2, 0⟩, ⟨2, 0⟩] : List GreetStep) (0 + 1 + 1 + 1) = some ⟨2, 0⟩ from by simp [idx]]
    simp only [cond_true, Option.bind_some, s4, Bool.not_true, cond_false]
    rw [w64 (by omega), whl_eq]
    simp only [impl_SettleGreet_l0]
    rw [dec_f (by simp)]
    rfl
  unfold impl_SettleGreet
  rw [copyG (by omega) i, Option.bind_some, goodG (by omega) i, Option.bind_some]
  simp only [Bool.not_true, cond_false, sA, sB, Option.bind_some, run]
theorem pureOpened (a : List Int) (ha : a.length < 2 ^ 47) (ba : ∀ x ∈ a, 0 ≤ x ∧ x ≤ 255) : laws_FnOpened a = some true := by
  unfold laws_FnOpened
  by_cases hz : 1048576 < (a.length : Int)
  · rw [dec_t hz]; rfl
  rw [dec_f hz]
  obtain ⟨l, e1, h1⟩ := drawG (l := a) (by omega) ba
  rw [cond_false, e1, Option.bind_some, iPlayG, Option.bind_some]
  dsimp only
  rw [sPlayG, Option.bind_some]
  simp only [beq_self_eq_true, Bool.not_true, cond_false]
  by_cases hl : l.length ≤ 120
  · have ep : playGF l = ((playG newG l).1, (playG newG l).2, true) := by unfold playGF; rw [if_pos hl]
    rw [ep]
    obtain ⟨i, hlen⟩ := playG_ok l 0 newG newG_ok
    simp only
    generalize (playG newG l).1 = g at i
    generalize (playG newG l).2 = d at hlen
    have hla := i.la; have hlb := i.lb; have hll := i.ll
    obtain ⟨s1, s2⟩ := settleG (by omega) i
    rw [sameBs (by omega), Option.bind_some, sameG (by omega) (by omega) (by omega)]
    simp only [Bool.not_true, cond_false, cond_true, Option.bind_some, goodG (n := 0 + l.length) (by omega) i]
    rw [open_l0 (n := 0 + l.length) (by omega) i, Option.bind_some]
    dsimp only
    rw [open_l2 (n := 0 + l.length) (by omega) i, Option.bind_some]
    dsimp only
    rw [s1, Option.bind_some]
    dsimp only
    have hbo : impl_BothOpen (endG g) = some (true, true) := by
      unfold impl_BothOpen
      rw [goodG (by omega) s2, Option.bind_some]
      simp [endG]
    have hx := i.lx; have hy := i.ly
    rw [hbo, Option.bind_some]
    dsimp only
    rw [w64 (x := g.LastX + 1) (by omega), w64 (x := g.LastY + 1) (by omega), bne_f (show (endG g).LastX = g.LastX + 1 from rfl), bne_f (show (endG g).LastY = g.LastY + 1 from rfl)]
    rfl
  · have ep : playGF l = (noG, [], false) := by unfold playGF; rw [if_neg hl]
    rw [ep]
    rw [sameBs (by simp), Option.bind_some, sameG (by simp [noG]) (by simp [noG]) (by simp [noG])]
    rfl
end Go.VxW
