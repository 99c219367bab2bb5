import Derived.Test.YtdgiianbihfkoaaVaD
/-
  VS, part 50: slices.Clone, of what nobody writes: nil or not, what comes is owned.
-/
namespace Go.VS

/-- The code of slices.Clone at a slice type. -/
def cloneC (t b : TypeId) : Code :=
  (Go.Code.seq
    (Go.Code.region 0 #[{ dst := some 2, op := Go.Op.assign (Go.Operand.const (Go.Value.slice none 0 0)), type := t, pos := "slices.go:355", after := #[], guard := none }] false)
    (Go.Code.seq
      (Go.Code.seq
        (Go.Code.region 1
          #[{ dst := some 3, op := Go.Op.move (Go.Operand.tmp 0), type := t, pos := "slices.go:357", after := #[], guard := none },
            { dst := some 4, op := Go.Op.binOp Go.BinOp.eql t (Go.Operand.tmp 3) (Go.Operand.const (Go.Value.slice none 0 0)) t, type := b, pos := "slices.go:357", after := #[{ on := 0, ground := Go.Ground.data }], guard := none }]
          false)
        (Go.Code.cond (Go.Operand.tmp 4)
          (Go.Code.seq
            (Go.Code.region 2 #[{ dst := some 2, op := Go.Op.assign (Go.Operand.const (Go.Value.slice none 0 0)), type := t, pos := "slices.go:358", after := #[], guard := none }] false)
            Go.Code.ret)
          Go.Code.skip))
      (Go.Code.seq
        (Go.Code.region 3
          #[{ dst := some 5, op := Go.Op.buildSlice t 0 #[], type := t, pos := "slices.go:362", after := #[], guard := none },
            { dst := some 6, op := Go.Op.move (Go.Operand.tmp 0), type := t, pos := "slices.go:362", after := #[], guard := none },
            { dst := some 7, op := Go.Op.call { callee := Go.Callee.builtin Go.Builtin.append, args := #[Go.Operand.tmp 5, Go.Operand.tmp 6], argTypes := #[t, t] }, type := t, pos := "slices.go:362", after := #[{ on := 0, ground := Go.Ground.data }, { on := 1, ground := Go.Ground.data }], guard := none },
            { dst := some 2, op := Go.Op.assign (Go.Operand.tmp 7), type := t, pos := "slices.go:362",
              after := #[{ on := 2, ground := Go.Ground.data }, { on := 2, ground := Go.Ground.chain }, { on := 0, ground := Go.Ground.phase }, { on := 1, ground := Go.Ground.phase }, { on := 2, ground := Go.Ground.phase }], guard := none }]
          false)
        Go.Code.ret)))

def noX : CallRel := fun _ _ _ _ => False
def noC (E : TEnv) : Ctx := ⟨E, fun _ => {}, fun _ => none, noX⟩

theorem fz_nil {w : World} {H : Heap} {φ : Phi} {A : Avoid} {xs : List AV} {v : Value} (h : R w H φ A (.fz xs) v) : ∃ a cap, v = .slice a xs.length cap := by
  cases h.fz_inv with
  | fz0 a cap => exact ⟨a, cap, rfl⟩
  | fz _ c off cap n arr T fr => exact ⟨_, _, rfl⟩

/-- Is a slice nil? It is or not. -/
theorem nil_or {P : Program} {w : World} {t e : TypeId} {a : Option Addr} {n cap : Nat} (h : (underlying t).run P w = .ok (.slice e) w) (d : Nat) : ∃ b, (Op.equalIn (d + 1) t (.slice a n cap) (.slice none 0 0)).run P w = .ok b w ∧ (b = true → a = none) := by
  cases a with
  | none => exact ⟨true, by simp [Op.equalIn, h], fun _ => rfl⟩
  | some a => exact ⟨false, equalIn_nil2 h d, by simp⟩

theorem noOrd : ∀ c : Code, ordsOK {} c = true := by
  intro c
  induction c with
  | seq a b iha ihb => simp [ordsOK, iha, ihb]
  | cond c a b iha ihb => simp [ordsOK, iha, ihb]
  | block id a ih => simp [ordsOK, ih]
  | loop a ih => simp [ordsOK, ih]
  | region id ops draw => simp [ordsOK]
  | _ => simp [ordsOK]
section
variable {P : Program} {E : TEnv}
theorem cloneSim (hm : P.follows .mixedOrders = true) (hE : ∀ t ti, E t = some ti → TyOK P t ti) {f : FuncId} {fn : Func} {t b e : TypeId} {ti te : TI} (hf : P.funcs[f]? = some fn) (hname : (fn.name == "runtime.NumGoroutine") = false)
    (hb : fn.body = some (cloneC t b)) (hr : fn.results = #[.tmp 2]) (hn : fn.ntmps = 8) (ht : E t = some ti) (hu : ti.und = .sl e) (he : E e = some te) (xs : List AV) (H : Heap) (hz : szAll te.sz xs = true) (h0 : te.sz ≠ 0) (hro : roomy xs.length te.bytes = true) :
    Sim P f [.fz xs] H (fun v H' => v = (if xs = [] then .e0 else .ref H.bs.length H.st 0 xs.length) ∧ H' = (if xs = [] then H else H.new te.sz false xs)) := by
  have hXe : Exact noX := fun _ _ _ _ h => h.elim
  have hX : ∀ f ys H K, noX f ys H K → Sim P f ys H K := fun _ _ _ _ h => h.elim
  have hD : DrawSim P (noC E) noX := drawSim (C := noC E) hXe hm hE hX
  have sim := fun (c : Code) s H K Q w φ A a h => codeSim (P := P) (C := noC E) (X := noX) hm hE hX hD {} c 0 s H K Q w φ A a (noOrd c) h
  refine ⟨⟨fn, hf, hname, by simp [hb]⟩, fun w A φ us hst hl hrel => ?_⟩
  refine calls_of_wp hf hb ?_
  rw [hn]
  obtain ⟨v, rfl⟩ : ∃ v, us = #[v] := by
    match us, hl with
    | ⟨[v]⟩, _ => exact ⟨v, rfl⟩
  have hv : R w H φ A (.fz xs) v := hrel 0 _ _ rfl rfl
  -- the frame
  have hs0 : SF w H φ A [.fz xs, .undef, .undef, .undef, .undef, .undef, .undef, .undef] { tmps := #[v] ++ Array.replicate (8 - 1) undef, defers := [] } := by
    refine ⟨rfl, fun i x u hx hu => ?_, rfl⟩
    match i with
    | 0 => simp at hx hu; subst hx; subst hu; exact hv
    | i + 1 =>
      have : x = .undef := by
        match i with
        | 0 | 1 | 2 | 3 | 4 | 5 | 6 => simpa using hx.symm
        | i + 7 => simp at hx
      subst this
      exact .fr _ _ (.undef _)
  -- the end, from a frame whose slot 2 is the result
  have fin : ∀ (s' : Frm) (H' : Heap) (φ' : Phi) (A' : Avoid) (a' : Act) (w' : World) (x : AV), Out w H φ A w' H' φ' A' → SF w' H' φ' A' s' a' → s'.getD 2 .undef = x → (∀ u, R w' H' φ' A' x u → ∃ y, R w' H' φ' A' y u ∧ (y = (if xs = [] then .e0 else .ref H.bs.length H.st 0 xs.length) ∧ H' = (if xs = [] then H else H.new te.sz false xs))) →
      a'.defers = [] ∧ ∃ v, (results fn a'.tmps).run P w' = .ok v w' ∧ CRes w H φ A (fun v H' => v = (if xs = [] then .e0 else .ref H.bs.length H.st 0 xs.length) ∧ H' = (if xs = [] then H else H.new te.sz false xs)) (.returned v) w' := by
    intro s' H' φ' A' a' w' x h1 h2 hx hy
    refine ⟨h2.dfr, ?_⟩
    obtain ⟨rus, k1, k2, k3⟩ := results_ok (P := P) (C := noC E) hE h1.st h2 (fn := fn) (rs := [x]) (by rw [hr]; simp only [resVals, hx, Option.map_some])
    obtain ⟨u, rfl⟩ : ∃ u, rus = [u] := by
      match rus, k2 with
      | [u], _ => exact ⟨u, rfl⟩
    obtain ⟨y, hy1, hy2⟩ := hy u (k3 0 x u rfl rfl)
    exact ⟨_, k1, y, H', φ', A', h1, by simpa [oneVal] using hy1, hy2⟩
  -- the first region
  refine wp_seq (sim _ _ H (fun e s1 H1 => e = .normal ∧ s1 = [.fz xs, .undef, .nil, .undef, .undef, .undef, .undef, .undef] ∧ H1 = H) _ w φ A _ ?_ hst hs0 ?_)
  · simp [annot, withFrz, regOf, ordOf, wpC, wpOpsN, frzSlots, wpOp, quietOp, evalOp, ev, ofValue, setA, noC]
  rintro e1 s1 H1 φ1 A1 a1 w1 o1 hs1 ⟨rfl, rfl, rfl⟩
  show (Code.seq _ _).wp P _ a1 w1
  have hst1 := o1.st
  refine wp_seq (wp_seq (wp_region_list ?_))
  -- is it nil?
  simp only [wpList]
  rw [if_pos (by simp [Region.wanted])]
  refine .inl (opSim (C := noC E) (X := noX) hE hX hst1 (s := [.fz xs, .undef, .nil, .undef, .undef, .undef, .undef, .undef]) (fun x _ => hs1.ev x) (th := false) (K := fun x H' => x = .fz xs ∧ H' = H1) (by simp [wpOp, quietOp, evalOp, ev]) ?_)
  rintro x3 v3 w3 H3 φ3 A3 o3 hx3 ⟨rfl, rfl⟩
  have hs3 := (hs1.mono o3.evo).set (some 3) hx3
  have hst3 := o3.st
  rw [if_pos (by simp [Region.wanted])]
  have hv3 : (a1.put (some 3) v3).eval (.tmp 3) = v3 := by
    have : a1.tmps.size = 8 := by have := hs1.len; simpa using this.symm
    simp [Act.eval, Act.put, this]
  obtain ⟨a0, cap, rfl⟩ := fz_nil hx3
  obtain ⟨bb, hbb, hbn⟩ := nil_or (a := a0) (n := xs.length) (cap := cap) ((hE t ti ht).sl w3 hu) 9999
  have hm4 : MRes w3 H3 φ3 A3 H3 ((execOp (a1.put (some 3) (.slice a0 xs.length cap)).eval { dst := some 4, op := Go.Op.binOp Go.BinOp.eql t (Go.Operand.tmp 3) (Go.Operand.const (Go.Value.slice none 0 0)) t, type := b, pos := "slices.go:357", after := #[{ on := 0, ground := Go.Ground.data }], guard := none }).run P w3) (.bool bb) := by
    have hg := eqGuard_plain P w3 .eql t (.tmp 3) (.const (.slice none 0 0)) (.slice a0 xs.length cap) (.slice none 0 0) (by simp) rfl
    have hbin : binOp .eql t (.slice a0 xs.length cap) (.slice none 0 0) = (do pure (.bool (← Op.equal t (.slice a0 xs.length cap) (.slice none 0 0)))) := rfl
    rw [← equal_def] at hbb
    refine MRes.of_q hst3 (.inl rfl) (QRes.ofVal hst3 ⟨.bool bb, ?_, .fr _ _ (.bool _)⟩)
    rw [hv3]
    show (do eqGuard .eql t (.tmp 3) (.const (.slice none 0 0)) (.slice a0 xs.length cap) (.slice none 0 0); binOp .eql t (.slice a0 xs.length cap) (.slice none 0 0) : Sem Value).run P w3 = _
    simp [hg, hbin, hbb]
  refine .inl (hm4.upon fun v4 w4 φ4 A4 o4 hx4 => ?_)
  have hs4 := (hs3.mono o4.evo).set (some 4) hx4
  have hst4 := o4.st
  have o34 : Out w H3 φ A w4 H3 φ4 A4 := o1.trans hst (o3.trans hst1 (o4.trans hst3 (.refl hst4)))
  simp only [setA, List.set_cons_succ, List.set_cons_zero] at hs4
  simp only [Exit.then]
  -- the condition
  refine sim _ [.fz xs, .undef, .nil, .fz xs, .bool bb, .undef, .undef, .undef] H3 (fun e s' H' => H' = H3 ∧ if bb = true then e = .ret ∧ s' = [.fz xs, .undef, .nil, .fz xs, .bool bb, .undef, .undef, .undef] else e = .normal ∧ s' = [.fz xs, .undef, .nil, .fz xs, .bool bb, .undef, .undef, .undef]) _ w4 φ4 A4 _ ?_ hst4 hs4 ?_
  · cases bb
    · simp [annot, withKill, wpC, ev, noC]
    · simp [annot, withKill, withFrz, regOf, ordOf, wpC, wpOpsN, frzSlots, wpOp, quietOp, evalOp, ev, ofValue, setA, noC]
      exact ⟨_, _, ⟨rfl, rfl⟩, rfl, rfl⟩
  rintro e5 s5 H5 φ5 A5 a5 w5 o5 hs5 ⟨rfl, hk5⟩
  cases bb with
  | true =>
    simp only [if_true] at hk5
    obtain ⟨rfl, rfl⟩ := hk5
    obtain rfl := hbn rfl
    have hxs : xs = [] := by
      cases hv3' : hx3.fz_inv with
      | fz0 => rfl
    subst hxs
    show (bodyPost P fn _) .ret a5 w5
    refine fin _ _ _ _ _ _ .nil (o34.trans hst o5) hs5 rfl fun u hu => ⟨.e0, ?_, by simp⟩
    have := hu.nil_inv
    subst this
    exact .fr _ _ (.e0 none)
  | false =>
    simp only [Bool.false_eq_true, if_false] at hk5
    obtain ⟨rfl, rfl⟩ := hk5
    show (Code.seq _ _).wp P _ a5 w5
    refine sim _ [.fz xs, .undef, .nil, .fz xs, .bool false, .undef, .undef, .undef] H5 (fun e s' H' => e = .ret ∧ s'.getD 2 .undef = (if xs = [] then .e0 else .ref H5.bs.length H5.st 0 xs.length) ∧ H' = (if xs = [] then H5 else H5.new te.sz false xs)) _ w5 φ5 A5 a5 ?_ o5.st hs5 ?_
    · by_cases hxs : xs = []
      · subst hxs
        simp [annot, withFrz, regOf, ordOf, wpC, wpOpsN, frzSlots, wpOp, quietOp, evalOp, ev, setA, noC, elTI, ht, hu, he, evalBuiltin, appendA, elemsOf, szAll, h0]
        refine ⟨_, _, ⟨rfl, rfl⟩, _, _, ⟨rfl, rfl⟩, _, _, ⟨rfl, rfl⟩, ?_⟩
        simp
      · have hlen : ¬ xs.length = 0 := by simpa using hxs
        simp [annot, withFrz, regOf, ordOf, wpC, wpOpsN, frzSlots, wpOp, quietOp, evalOp, ev, setA, noC, elTI, ht, hu, he, evalBuiltin, appendA, elemsOf, h0, hxs]
        refine ⟨_, _, ⟨rfl, rfl⟩, _, _, ⟨rfl, rfl⟩, _, _, ⟨rfl, rfl⟩, ?_⟩
        simp [hz, hro, hxs]
    · rintro e6 s6 H6 φ6 A6 a6 w6 o6 hs6 ⟨rfl, hx6, rfl⟩
      show (bodyPost P fn _) .ret a6 w6
      exact fin _ _ _ _ _ _ _ (o34.trans hst (o5.trans hst4 o6)) hs6 hx6 fun u hu => ⟨_, hu, rfl, rfl⟩

/-- What is said of slices.Clone: of function f, at elements of a size, of so many bytes. -/
def cloneExt (ids : List (FuncId × Nat × Nat)) : CallRel := fun f ys H K => ∃ sz b xs, (f, sz, b) ∈ ids ∧ ys = [.fz xs] ∧ szAll sz xs = true ∧ sz ≠ 0 ∧ roomy xs.length b = true ∧ K (if xs = [] then .e0 else .ref H.bs.length H.st 0 xs.length) (if xs = [] then H else H.new sz false xs)
structure CloneOK (P : Program) (E : TEnv) (f : FuncId) (sz b : Nat) : Prop where
  out : ∃ fn t bt e ti te, P.funcs[f]? = some fn ∧ (fn.name == "runtime.NumGoroutine") = false ∧ fn.body = some (cloneC t bt) ∧ fn.results = #[.tmp 2] ∧ fn.ntmps = 8 ∧ E t = some ti ∧ ti.und = .sl e ∧ E e = some te ∧ te.sz = sz ∧ te.bytes = b
theorem clone_hext (hm : P.follows .mixedOrders = true) (hE : ∀ t ti, E t = some ti → TyOK P t ti) {ids : List (FuncId × Nat × Nat)} (hids : ∀ x ∈ ids, CloneOK P E x.1 x.2.1 x.2.2) :
    ∀ f ys H K, cloneExt ids f ys H K → ∃ v H', Sim P f ys H (fun v1 H1 => v1 = v ∧ H1 = H') ∧ K v H' := by
  rintro f ys H K ⟨sz, b, xs, h1, rfl, h2, h3, h4, h5⟩
  obtain ⟨fn, t, bt, e, ti, te, k1, k2, k3, k4, k5, k6, k7, k8, rfl, rfl⟩ := (hids _ h1).out
  exact ⟨_, _, cloneSim hm hE k1 k2 k3 k4 k5 k6 k7 k8 xs H h2 h3 h4, h5⟩
theorem clone_good {C : Ctx} {ids : List (FuncId × Nat × Nat)} (h : C.ext = cloneExt ids) : Good C := by
  constructor
  · rintro f ys H K K' hK hx
    rw [h] at hx ⊢
    obtain ⟨sz, b, xs, h1, h2, h3, h4, h5, h6⟩ := hx
    exact ⟨sz, b, xs, h1, h2, h3, h4, h5, hK _ _ h6⟩
  · rintro f ys H K hx
    rw [h] at hx ⊢
    obtain ⟨sz, b, xs, h1, h2, h3, h4, h5, h6⟩ := hx
    exact ⟨_, _, ⟨sz, b, xs, h1, h2, h3, h4, h5, rfl, rfl⟩, h6⟩
/-- slices.Clone, as it is walked. -/
theorem clone_w {C : Ctx} {ids : List (FuncId × Nat × Nat)} (hx : C.ext = cloneExt ids) {α : Type} {f : FuncId} {sz b : Nat} (hid : (f, sz, b) ∈ ids) {c : α → AV} (hc : ∀ x, (c x).cells.length = sz) (h0 : sz ≠ 0) {l r : List α} (h : app b [] l = some r) {F : List It} {H : Heap} (hS : Own H F)
    {P : AV → Heap → Prop} (hP : ∀ v, isSl v → ∀ H', Own H' (⟨v, sz, r.map c⟩ :: F) → P v H') : ACall C f [.fz (l.map c)] H P := by
  unfold app at h
  split at h
  · rename_i hr
    simp only [List.nil_append, Option.some.injEq] at h
    subst h
    simp only [List.length_nil, Nat.zero_add] at hr
    refine ACall.ext ?_
    rw [hx]
    refine ⟨sz, b, l.map c, hid, rfl, szAll_map hc l, h0, by simpa using hr, ?_⟩
    cases l with
    | nil => exact hP _ isSl_e0 _ (by simpa using hS.e0_ sz)
    | cons x l =>
      rw [if_neg (by simp), if_neg (by simp)]
      exact hP _ (isSl_ref ..) _ (hS.newSl (all := (x :: l).map c) (List.take_of_length_le (Nat.le_refl _)) rfl (szAll_map hc _))
  · simp at h
end
theorem ev_ow {E : TEnv} {s : Frm} {H : Heap} {L : List It} {α β : Type} {t : TypeId} {x i : Operand} {ti te : TI} {e : TypeId} (j : Nat) (hS : Own H L) {v w : AV} {l : List α} {c : α → AV} {sz : Nat} (hj : L[j]? = some ⟨v, sz, l.map c⟩)
    (ht : E t = some ti) (hu : ti.und = .sl e) (he : E e = some te) (hsz : sz = te.sz) {k : IntKind} {n : Int} {l0 : List β} {y : β} {id ver off : Nat} (hv : v = .ref id ver off l0.length) (hb : idx l0 n = some y)
    (hx : ev s x = v) (hi : ev s i = .int k n) (hw : w = .ptr id ver (off + n.toNat) 0) {op : Op} (hop : op = .indexAddr t x i) : evalOp E op s H = some (w, H) := by
  subst hop
  obtain ⟨h0, h2, h1⟩ := idx_some hb
  subst hv
  obtain ⟨_, h3, b, hb, h4, _, h5, h6⟩ := hS.ok j _ hj
  simp only at h3 h4 h5
  simp only [evalOp, ht, hi, hu, he, hx, hb]
  rw [if_pos ⟨by rw [h4, hsz], h0, h2, h5⟩, hw]
theorem ev_le {E : TEnv} {s : Frm} {H : Heap} {L : List It} {α : Type} {t : TypeId} {x : Operand} {ti : TI} (j : Nat) (hS : Own H L) {v w : AV} {l : List α} {c : α → AV} {sz : Nat} (hj : L[j]? = some ⟨v, sz, l.map c⟩)
    (ht : E t = some ti) {n : Int} {y : α} {id ver off k o : Nat} (hv : v = .ref id ver off k) (hb : idx l n = some y)
    (hx : ev s x = .ptr id ver (off + n.toNat) o) (hw : rdAt ti (c y) o = some w) {op : Op} (hop : op = .load t x) : evalOp E op s H = some (w, H) := by
  subst hop
  obtain ⟨b, h1, h2⟩ := hS.elem j hj hv hb
  simp only [evalOp, ht, hx, h1, h2, hw]
end Go.VS

/-
  VS, part 52: slices whose elements bear slices that are owned, too.
-/
namespace Go.VS

/-- Slices' values, so many. -/
structure isSls (w : List AV) (n : Nat) : Prop where
  len : w.length = n
  sl : ∀ a ∈ w, isSl a
/-- What lies inside: of each element a slice. -/
def inn {α β : Type} (p : α → List β) (c : β → AV) (z : Nat) (w : List AV) (l : List α) : List It := List.zipWith (fun a x => ⟨a, z, (p x).map c⟩) w l
/-- What lies outside. -/
def ouw {α : Type} (m : AV → α → AV) (w : List AV) (l : List α) : List AV := List.zipWith m w l
/-- Inside, but for one. -/
def inx {α β : Type} (p : α → List β) (c : β → AV) (z : Nat) (w : List AV) (l : List α) (i : Nat) : List It := (inn p c z w l).eraseIdx i

/-! Blocks of what is owned. -/
def catI : List (List It) → List It → List It
  | [], F => F
  | a :: as, F => a ++ catI as F
theorem perm_swap3 {α : Type} (a b c : List α) : (a ++ (b ++ c)).Perm (b ++ (a ++ c)) := by
  rw [← List.append_assoc, ← List.append_assoc]
  exact List.Perm.append_right _ List.perm_append_comm
theorem catI_perm {as bs : List (List It)} (h : as.Perm bs) (F : List It) : (catI as F).Perm (catI bs F) := by
  induction h with
  | nil => exact .refl _
  | cons x _ ih => exact List.Perm.append_left _ ih
  | swap x y l => exact perm_swap3 _ _ _
  | trans _ _ h1 h2 => exact h1.trans h2
theorem catI_app (as bs : List (List It)) (F : List It) : catI (as ++ bs) F = catI as (catI bs F) := by
  induction as with
  | nil => rfl
  | cons a as ih => simp only [List.cons_append, catI, ih]
theorem catI_flat (as : List (List It)) (F : List It) : catI as F = as.flatten ++ F := by
  induction as with
  | nil => rfl
  | cons a as ih => simp only [catI, ih, List.flatten_cons, List.append_assoc]
theorem sub_perm : ∀ (js L : List Nat), js.Nodup → (∀ j ∈ js, j ∈ L) → ∃ rest, L.Perm (js ++ rest)
  | [], L, _, _ => ⟨L, .refl _⟩
  | j :: js, L, hn, hm => by
    have hn' := List.nodup_cons.1 hn
    obtain ⟨rest, hr⟩ := sub_perm js (L.erase j) hn'.2 (fun k hk => (List.mem_erase_of_ne (fun (e : k = j) => hn'.1 (e ▸ hk))).2 (hm k (by simp [hk])))
    exact ⟨rest, (List.perm_cons_erase (hm j (by simp))).trans (hr.cons j)⟩
section
variable {H : Heap} {L F R : List It}
theorem Own.app_drop {A B : List It} (h : Own H (A ++ (B ++ F))) : Own H (A ++ F) := by
  have h1 : Own H (B ++ (A ++ F)) := h.perm (perm_swap3 _ _ _)
  clear h
  induction B with
  | nil => exact h1
  | cons b B ih => exact ih h1.tl
/-- A choice of blocks, in an order of its own. -/
theorem Own.catI_ {as : List (List It)} (h : Own H (catI as F)) (n : Nat) (hn : as.length = n) (js : List Nat) (hj : js.Nodup ∧ ∀ j ∈ js, j < n) : Own H (catI (js.filterMap (as[·]?)) F) := by
  subst hn
  obtain ⟨rest, hr⟩ := sub_perm js (List.range as.length) hj.1 (fun j hm => List.mem_range.2 (hj.2 j hm))
  have e : (List.range as.length).filterMap (as[·]?) = as := by
    refine List.ext_getElem? fun k => ?_
    have : (List.range as.length).filterMap (as[·]?) = (List.range as.length).map (fun k => as.getD k []) := by
      have : ∀ (l : List Nat), (∀ k ∈ l, k < as.length) → l.filterMap (as[·]?) = l.map (fun k => as.getD k []) := by
        intro l
        induction l with
        | nil => intro _; rfl
        | cons k l ih =>
          intro hl
          have hk := hl k (by simp)
          rw [List.filterMap_cons, List.getElem?_eq_getElem hk, List.map_cons, ih (fun k h => hl k (by simp [h]))]
          simp [List.getD, List.getElem?_eq_getElem hk]
      exact this _ (fun k h => List.mem_range.1 h)
    rw [this, List.getElem?_map]
    by_cases hk : k < as.length
    · rw [List.getElem?_eq_getElem (by simpa using hk), List.getElem?_eq_getElem hk]
      simp [List.getD, List.getElem?_eq_getElem hk]
    · rw [List.getElem?_eq_none (by simpa using hk), List.getElem?_eq_none (by omega)]; rfl
  have hp := hr.filterMap (as[·]?)
  rw [e, List.filterMap_append] at hp
  have h2 := h.perm (catI_perm hp F)
  rw [catI_app] at h2
  rw [catI_flat] at h2 ⊢
  rw [catI_flat] at h2
  exact h2.app_drop

variable {α β : Type} {p : α → List β} {c : β → AV} {z : Nat} {w : List AV} {l : List α} {m : AV → α → AV} {v : AV} {sz : Nat}

theorem isSls.nil : isSls [] 0 := ⟨rfl, by simp⟩
theorem isSls.get (h : isSls w l.length) {i : Int} {b : α} (hi : idx l i = some b) : ∃ a, w[i.toNat]? = some a ∧ isSl a := by
  obtain ⟨_, _, h1⟩ := idx_some hi
  have := (List.getElem?_eq_some_iff.1 h1).1
  have hw : i.toNat < w.length := by rw [h.len]; exact this
  exact ⟨_, List.getElem?_eq_getElem hw, h.sl _ (List.getElem_mem hw)⟩
theorem isSls.set (h : isSls w l.length) {a : AV} (ha : isSl a) (i : Nat) (y : α) : isSls (w.set i a) (l.set i y).length := by
  refine ⟨by simpa using h.len, fun x hx => ?_⟩
  rcases List.mem_or_eq_of_mem_set hx with h1 | rfl
  · exact h.sl _ h1
  · exact ha
theorem isSls.app {w' : List AV} {l' : List α} (h : isSls w l.length) (h' : isSls w' l'.length) : isSls (w ++ w') (l ++ l').length := by
  refine ⟨by simp [h.len, h'.len], fun x hx => ?_⟩
  rcases List.mem_append.1 hx with h1 | h1
  · exact h.sl _ h1
  · exact h'.sl _ h1
theorem ouw_len (h : isSls w l.length) : (ouw m w l).length = l.length := by simp [ouw, h.len]
theorem ouw_get {i : Nat} {a : AV} {b : α} (ha : w[i]? = some a) (hb : l[i]? = some b) : (ouw m w l)[i]? = some (m a b) := by
  simp [ouw, List.getElem?_zipWith, ha, hb]
theorem inn_get {i : Nat} {a : AV} {b : α} (ha : w[i]? = some a) (hb : l[i]? = some b) : (inn p c z w l)[i]? = some ⟨a, z, (p b).map c⟩ := by
  simp [inn, List.getElem?_zipWith, ha, hb]
theorem zip_set {γ δ ε : Type} (f : γ → δ → ε) : ∀ (a : List γ) (b : List δ) (i : Nat) (x : γ) (y : δ), List.zipWith f (a.set i x) (b.set i y) = (List.zipWith f a b).set i (f x y)
  | [], _, i, x, y => by simp
  | a :: as, [], i, x, y => by cases i <;> simp
  | a :: as, b :: bs, 0, x, y => rfl
  | a :: as, b :: bs, i + 1, x, y => by simp [zip_set f as bs i x y]
theorem zip_app {γ δ ε : Type} (f : γ → δ → ε) {a a' : List γ} {b b' : List δ} (h : a.length = b.length) : List.zipWith f (a ++ a') (b ++ b') = List.zipWith f a b ++ List.zipWith f a' b' := List.zipWith_append h
theorem set_id {γ : Type} {l : List γ} {i : Nat} {x : γ} (h : l[i]? = some x) : l.set i x = l := List.ext_getElem? fun k => by
  rw [List.getElem?_set]
  split
  · rename_i e; subst e
    have := (List.getElem?_eq_some_iff.1 h).1
    simp only [this, if_true]; exact h.symm
  · rfl
theorem erase_perm {γ : Type} {l : List γ} {i : Nat} {x : γ} (h : l[i]? = some x) : l.Perm (x :: l.eraseIdx i) := by
  have he := (List.getElem?_eq_some_iff.1 h).2
  have : l = l.take i ++ x :: l.drop (i + 1) := by rw [← he, List.getElem_cons_drop, List.take_append_drop]
  rw [List.eraseIdx_eq_take_drop_succ]
  conv => lhs; rw [this]
  exact List.perm_middle
theorem erase_set {γ : Type} (l : List γ) (i : Nat) (x : γ) : (l.set i x).eraseIdx i = l.eraseIdx i := by
  induction l generalizing i with
  | nil => rfl
  | cons a l ih => cases i with
    | zero => rfl
    | succ i => simp [ih]

/-- One element comes to lie open. -/
theorem openN {i : Int} {b : α} (hS : Own H (⟨v, sz, ouw m w l⟩ :: (inn p c z w l ++ R))) (hq : isSls w l.length) (hi : idx l i = some b) :
    ∃ a, isSl a ∧ Own H (⟨a, z, (p b).map c⟩ :: ⟨v, sz, (ouw m w l).set i.toNat (m a b)⟩ :: (inx p c z w l i.toNat ++ R)) := by
  obtain ⟨a, ha, hs⟩ := hq.get hi
  obtain ⟨_, _, hb⟩ := idx_some hi
  refine ⟨a, hs, ?_⟩
  rw [set_id (ouw_get ha hb)]
  have h1 := erase_perm (inn_get (p := p) (c := c) (z := z) ha hb)
  have h2 : (⟨v, sz, ouw m w l⟩ :: (inn p c z w l ++ R)).Perm (⟨a, z, (p b).map c⟩ :: ⟨v, sz, ouw m w l⟩ :: (inx p c z w l i.toNat ++ R)) := by
    refine List.Perm.trans ?_ (List.Perm.swap _ _ _)
    exact List.Perm.cons _ ((List.Perm.append_right R h1))
  exact hS.perm h2
/-- And is closed again. -/
theorem closeN {i : Int} {b y : α} {a : AV} (hS : Own H (⟨a, z, (p y).map c⟩ :: ⟨v, sz, (ouw m w l).set i.toNat (m a y)⟩ :: (inx p c z w l i.toNat ++ R))) (hq : isSls w l.length) (ha : isSl a) (hi : idx l i = some b) :
    ∃ w', isSls w' (l.set i.toNat y).length ∧ Own H (⟨v, sz, ouw m w' (l.set i.toNat y)⟩ :: (inn p c z w' (l.set i.toNat y) ++ R)) := by
  obtain ⟨a0, ha0, hs⟩ := hq.get hi
  obtain ⟨_, _, hb⟩ := idx_some hi
  refine ⟨w.set i.toNat a, hq.set ha _ _, ?_⟩
  have e1 : ouw m (w.set i.toNat a) (l.set i.toNat y) = (ouw m w l).set i.toNat (m a y) := zip_set _ _ _ _ _ _
  have e2 : inn p c z (w.set i.toNat a) (l.set i.toNat y) = (inn p c z w l).set i.toNat ⟨a, z, (p y).map c⟩ := zip_set _ _ _ _ _ _
  have hlt : i.toNat < (inn p c z w l).length := (List.getElem?_eq_some_iff.1 (inn_get (p := p) (c := c) (z := z) ha0 hb)).1
  have h1 := erase_perm (l := (inn p c z w l).set i.toNat ⟨a, z, (p y).map c⟩) (i := i.toNat) (x := ⟨a, z, (p y).map c⟩) (by simp [hlt])
  rw [erase_set] at h1
  rw [e1, e2]
  refine hS.perm (List.Perm.trans (List.Perm.swap _ _ _) (List.Perm.cons _ ?_))
  exact (List.Perm.append_right R h1.symm)
/-- Joined. -/
theorem joinN {w' : List AV} {l' : List α} {v' : AV} (hS : Own H (⟨v', sz, ouw m w l ++ ouw m w' l'⟩ :: (inn p c z w l ++ (inn p c z w' l' ++ R)))) (hq : isSls w l.length) (hq' : isSls w' l'.length) :
    ∃ w2, isSls w2 (l ++ l').length ∧ Own H (⟨v', sz, ouw m w2 (l ++ l')⟩ :: (inn p c z w2 (l ++ l') ++ R)) := by
  refine ⟨w ++ w', hq.app hq', ?_⟩
  have hl := hq.len
  have e1 : ouw m (w ++ w') (l ++ l') = ouw m w l ++ ouw m w' l' := zip_app _ hl
  have e2 : inn p c z (w ++ w') (l ++ l') = inn p c z w l ++ inn p c z w' l' := zip_app _ hl
  rw [e1, e2, List.append_assoc]; exact hS
/-- None. -/
theorem noneN (hS : Own H (⟨v, sz, []⟩ :: R)) : ∃ w, isSls w ([] : List α).length ∧ Own H (⟨v, sz, ouw m w ([] : List α)⟩ :: (inn p c z w ([] : List α) ++ R)) := ⟨[], isSls.nil, hS⟩
/-- One. -/
theorem oneN {a : AV} {b : α} (hS : Own H (⟨v, sz, [m a b]⟩ :: ⟨a, z, (p b).map c⟩ :: R)) (ha : isSl a) : ∃ w, isSls w [b].length ∧ Own H (⟨v, sz, ouw m w [b]⟩ :: (inn p c z w [b] ++ R)) :=
  ⟨[a], ⟨rfl, by simpa using ha⟩, hS⟩
theorem repN {n : Nat} {d : α} (hd : p d = []) (hS : Own H (⟨v, sz, List.replicate n (m .nil d)⟩ :: R)) : ∃ w, isSls w (List.replicate n d).length ∧ Own H (⟨v, sz, ouw m w (List.replicate n d)⟩ :: (inn p c z w (List.replicate n d) ++ R)) := by
  refine ⟨List.replicate n .nil, ⟨by simp, fun a h => by rw [(List.mem_replicate.1 h).2]; exact isSl_nil⟩, ?_⟩
  have e1 : ouw m (List.replicate n AV.nil) (List.replicate n d) = List.replicate n (m .nil d) := by simp [ouw]
  have e2 : inn p c z (List.replicate n AV.nil) (List.replicate n d) = List.replicate n ⟨.nil, z, []⟩ := by simp [inn, hd]
  rw [e1, e2]
  have : ∀ n, Own H (List.replicate n ⟨.nil, z, []⟩ ++ (⟨v, sz, List.replicate n.succ (m .nil d)⟩ :: R)) → True := fun _ _ => trivial
  clear this e1 e2
  have h1 : ∀ (k : Nat) (x : It), Own H (x :: R) → Own H (x :: (List.replicate k ⟨.nil, z, []⟩ ++ R)) := by
    intro k x hx
    induction k with
    | zero => exact hx
    | succ k ih => exact (ih.nil_ z).perm (List.Perm.swap _ _ _)
  exact h1 n _ hS

/-- An element of what is owned, by its place. -/
theorem w_owE {E : TEnv} {t : TypeId} {ti te : TI} {e : TypeId} {K : AV → Heap → Prop} (j : Nat) (hS : Own H L) {el : List AV} {x : AV} (hj : L[j]? = some ⟨v, sz, el⟩) (ht : E t = some ti) (hu : ti.und = .sl e) (he : E e = some te) (hsz : sz = te.sz) {k : IntKind} {n : Int}
    (h0 : 0 ≤ n) (hx : el[n.toNat]? = some x) (hp : isSl v) (hk : ∀ id ver off, v = .ref id ver off el.length → (∃ b, H.blk id ver = some b ∧ b.el[off + n.toNat]? = some x) → K (.ptr id ver (off + n.toNat) 0) H) : iaK E t v (.int k n) H K := by
  have hok := (hS.ok j _ hj).2
  have hlt := (List.getElem?_eq_some_iff.1 hx).1
  simp only at hok
  have hne : el ≠ [] := by intro e; subst e; simp at hx
  split at hok
  · exact absurd hok hne
  · exact absurd hok hne
  · rename_i id ver off len
    obtain ⟨h3, b, hb, h4, _, h5, h6⟩ := hok
    subst h3
    simp only [iaK, ht, hu, he, hb]
    rw [if_pos ⟨by rw [h4, hsz], h0, by omega, h5⟩]
    refine hk id ver off rfl ⟨b, hb, ?_⟩
    have := congrArg (·[n.toNat]?) h6
    simp only [hx, subL] at this
    rw [← this, List.getElem?_take, List.getElem?_drop, if_pos (by omega)]
  · rename_i id ver ix off
    obtain ⟨rfl, rfl, _⟩ := hok
    exact absurd rfl (hp.ne id ver)
  · exact hok.elim
/-- It is written. -/
theorem w_stE {C : Ctx} {th : Bool} {s : Frm} {K : AV → Heap → Prop} {t : TypeId} {x xw : Operand} {ti : TI} {id ver off n o : Nat} {a y y' : AV} {el el' : List AV} {i : Nat} (j : Nat) (hS : Own H L) (hj : L[j]? = some ⟨v, sz, el⟩) (hv : v = .ref id ver off n) (hi : el[i]? = some y) (ht : C.E t = some ti) (hx : ev s x = .ptr id ver (off + i) o) (hw : ev s xw = a)
    (h1 : a.cells.length = ti.sz) (h2 : storA a = true) (hr : wrAt y o a = some y') (h3 : y'.cells.length = sz) (he' : el.set i y' = el') (h : ∀ H', Own H' (L.set j ⟨v, sz, el'⟩) → K (.tup []) H') : wpO (ACall C) C false th (.store t x xw) s H K := by
  rw [wpO_wr _ (by simp)]
  subst hv
  obtain ⟨k0, k1, b, hb, k2, k3, k4, k5⟩ := hS.ok j _ hj
  simp only at k1 k5 k0
  have hlt := (List.getElem?_eq_some_iff.1 hi).1
  have he : b.el[off + i]? = some y := by
    have := congrArg (·[i]?) k5
    simp only [hi, subL] at this
    rw [← this, List.getElem?_take, List.getElem?_drop, if_pos (by omega)]
  simp only [evalOp, ht, hx, hw, hb, he, h1, h2, and_self, if_true, hr, resO]
  have hver := (Heap.blk_get hb).2
  subst he'
  refine h _ (hS.upd hj rfl (fun id' ver' hne _ => blk_upd_ne hne) ⟨?_, by simpa using k1, { b with el := b.el.set (off + i) y' }, ?_, k2, k3, by simpa using k4, ?_⟩ (fun k hk => by simpa [idOf] using hk.symm))
  · simp only [szAll, List.all_eq_true] at k0 ⊢
    intro q hq
    rcases List.mem_or_eq_of_mem_set hq with h' | rfl
    · exact k0 _ h'
    · simpa using h3
  · have := blk_upd (b := { b with el := b.el.set (off + i) y' }) ((hS.ok j _ hj).lt rfl)
    simpa only [hver] using this
  · simp only [subL] at k5 ⊢
    rw [← k5, List.drop_set, if_neg (by omega), List.take_set]
    congr 1
    omega
/-- All is taken. -/
theorem Own.takeN {es : List Sh} {d : α → AV} (hS : Own H (⟨v, es.length, ouw m w l⟩ :: (inn p c z w l ++ R))) (hv : isSl v) (hq : isSls w l.length)
    (hc : ∀ (a : AV) (x : α) (H : Heap) (L : List It), isSl a → Own H (⟨a, z, (p x).map c⟩ :: L) → ∃ H', takeE es (m a x) H = some (d x, H') ∧ Own H' L) : ∃ H', takeE [.sl es] v H = some (.own es.length (l.map d), H') ∧ Own H' R := by
  have key : ∀ (l : List α) (w : List AV) (H : Heap), isSls w l.length → Own H (inn p c z w l ++ R) → ∃ H', mapH (takeE es) (ouw m w l) H = some (l.map d, H') ∧ Own H' R := by
    intro l
    induction l with
    | nil =>
      intro w H hq hS
      have : w = [] := List.eq_nil_of_length_eq_zero hq.len
      subst this
      exact ⟨H, rfl, hS⟩
    | cons x l ih =>
      intro w H hq hS
      cases w with
      | nil => have := hq.len; simp at this
      | cons a w =>
        obtain ⟨H1, h1, h2⟩ := hc a x H (inn p c z w l ++ R) (hq.sl a (by simp)) hS
        obtain ⟨H2, h3, h4⟩ := ih w H1 ⟨by have := hq.len; simpa using this, fun b hb => hq.sl b (by simp [hb])⟩ h2
        refine ⟨H2, ?_, h4⟩
        show mapH (takeE es) (m a x :: ouw m w l) H = _
        simp only [mapH, h1, h3, List.map_cons]
  have hok := hS.ok 0 _ rfl
  obtain ⟨k0, hok⟩ := hok
  have e1 : takeE [.sl es] v H = takeT (.sl es) v H := by
    have hna : ∀ cs, v ≠ .agg cs := by rintro cs rfl; exact hok
    cases v with
    | agg cs => exact absurd rfl (hna cs)
    | _ => simp only [takeE]
  rw [e1]
  simp only at hok
  have hnil : ouw m w l = [] → l = [] ∧ w = [] := by
    intro h
    have h1 := ouw_len (m := m) hq
    rw [h] at h1
    have hl : l = [] := List.eq_nil_of_length_eq_zero h1.symm
    refine ⟨hl, ?_⟩
    have := hq.len
    rw [hl] at this
    exact List.eq_nil_of_length_eq_zero this
  split at hok
  · obtain ⟨rfl, rfl⟩ := hnil hok
    exact ⟨H, by simp only [takeT]; rfl, hS.tl⟩
  · obtain ⟨rfl, rfl⟩ := hnil hok
    exact ⟨H, by simp only [takeT]; rfl, hS.tl⟩
  · rename_i id ver off len
    obtain ⟨k1, b, hb, k2, k3, k4, k5⟩ := hok
    have hd : Own (H.del id) (inn p c z w l ++ R) := hS.tl.del fun i it hi e => by
      have := hS.dis 0 (i + 1) _ it id rfl (by simpa using hi) rfl e
      omega
    obtain ⟨H', h1, h2⟩ := key l w (H.del id) hq hd
    refine ⟨H', ?_, h2⟩
    simp only [takeT, hb]
    rw [if_pos ⟨k2, k4, .inl k3⟩, k5, h1]
  · rename_i id ver ix off
    obtain ⟨rfl, rfl, _⟩ := hok
    exact absurd rfl (hv.ne id ver)
  · exact hok.elim
theorem take_sl {fs : List Sh} {γ : Type} {c : γ → AV} {b : List γ} {a : AV} (hc : ∀ x H, takeE fs (c x) H = some (c x, H)) (ha : isSl a) (hS : Own H (⟨a, fs.length, b.map c⟩ :: L)) : ∃ H', takeE [.sl fs] a H = some (.own fs.length (b.map c), H') ∧ Own H' L := by
  obtain ⟨H', h1, h2⟩ := hS.take 0 rfl ha hc
  exact ⟨H', h1, h2⟩
/-- And is closed again, as it was. -/
theorem closeN0 {i : Int} {b : α} {a : AV} (hS : Own H (⟨a, z, (p b).map c⟩ :: ⟨v, sz, (ouw m w l).set i.toNat (m a b)⟩ :: (inx p c z w l i.toNat ++ R))) (hq : isSls w l.length) (ha : isSl a) (hi : idx l i = some b) :
    ∃ w', isSls w' l.length ∧ Own H (⟨v, sz, ouw m w' l⟩ :: (inn p c z w' l ++ R)) := by
  obtain ⟨w', h1, h2⟩ := closeN hS hq ha hi
  obtain ⟨_, _, hb⟩ := idx_some hi
  rw [set_id hb] at h1 h2
  exact ⟨w', h1, h2⟩
theorem holeG {i : Int} {b : α} {x : AV} (hq : isSls w l.length) (hi : idx l i = some b) : ((ouw m w l).set i.toNat x)[i.toNat]? = some x := by
  obtain ⟨_, h1, _⟩ := idx_some hi
  have : i.toNat < (ouw m w l).length := by rw [ouw_len hq]; omega
  simp [this]
theorem w_lenN {K : AV → Heap → Prop} (j : Nat) (hS : Own H L) (hj : L[j]? = some ⟨v, sz, ouw m w l⟩) (hp : isSl v) (hq : isSls w l.length) {ti : TI} {e : TypeId} (hu : ti.und = .sl e) (h : K (.int .i64 l.length) H) : lenK (some ti) v (lenOf H v) H K :=
  w_len j hS hj hp hu (by rw [ouw_len hq]; exact h)
theorem w_lenX {K : AV → Heap → Prop} (j : Nat) (hS : Own H L) {i : Nat} {x : AV} (hj : L[j]? = some ⟨v, sz, (ouw m w l).set i x⟩) (hp : isSl v) (hq : isSls w l.length) {ti : TI} {e : TypeId} (hu : ti.und = .sl e) (h : K (.int .i64 l.length) H) : lenK (some ti) v (lenOf H v) H K :=
  w_len j hS hj hp hu (by rw [List.length_set, ouw_len hq]; exact h)
theorem szAll_ouw {n : Nat} (hq : isSls w l.length) (hsz : ∀ a x, isSl a → (m a x).cells.length = n) : szAll n (ouw m w l) = true := by
  simp only [szAll, List.all_eq_true, ouw]
  intro y hy
  obtain ⟨k, hk⟩ := List.mem_iff_getElem?.1 hy
  rw [List.getElem?_zipWith] at hk
  split at hk
  · rename_i a x ha _
    simp only [Option.some.injEq] at hk; subst hk
    simp [hsz _ _ (hq.sl _ (List.mem_of_getElem? ha))]
  · simp at hk
theorem w_appN {γ : Type} {E : TEnv} {t u : TypeId} {te tu : TI} {e : TypeId} {x : AV} {w' : List AV} {l' : List α} {f : List α → Option γ} {r : γ} {K : AV → Heap → Prop} (hS : Own H (⟨v, te.sz, ouw m w l⟩ :: ⟨x, sz, ouw m w' l'⟩ :: (inn p c z w l ++ (inn p c z w' l' ++ R)))) (hp : isSl v) (hx : isSl x) (hq : isSls w l.length) (hq' : isSls w' l'.length)
    (ht : elTI E t = some te) (hu : E u = some tu) (hi : tu.und = .sl e) (hsz : ∀ a y, isSl a → (m a y).cells.length = te.sz) (h0 : (te.sz == 0) = false) (hh : (app te.bytes l l').bind f = some r)
    (h : ∀ v' H' lm w2, isSl v' → isSls w2 lm.length → app te.bytes l l' = some lm → f lm = some r → Own H' (⟨v', te.sz, ouw m w2 lm⟩ :: (inn p c z w2 lm ++ R)) → K v' H') : resO (evalBuiltin E .append #[t, u] [v, x] H) K := by
  cases hr : app te.bytes l l' with
  | none => rw [hr] at hh; simp at hh
  | some lm =>
    have hr' := hr
    unfold app at hr
    split at hr
    · rename_i hroom
      simp only [Option.some.injEq] at hr; subst hr
      rw [hr'] at hh
      obtain ⟨v', H', h1, h2, h3⟩ := app_own hS 0 rfl hp (hS.elems 1 rfl hx) (szAll_ouw hq' hsz) (by simpa using h0) (by rw [ouw_len hq, ouw_len hq']; exact hroom)
      have e1 : (#[t, u] : Array TypeId)[0]? = some t := rfl
      have e2 : ((#[t, u] : Array TypeId)[1]?).bind E = E u := rfl
      simp only [evalBuiltin, e1, e2, ht, hu, hi, h1, resO]
      have h4 : Own H' (⟨v', te.sz, ouw m w l ++ ouw m w' l'⟩ :: (inn p c z w l ++ (inn p c z w' l' ++ R))) := h3.drop 1
      obtain ⟨w2, k1, k2⟩ := joinN h4 hq hq'
      exact h v' H' _ w2 h2 k1 hr' hh k2
    · simp at hr
theorem w_makeN {γ : Type} {C : Ctx} {q th : Bool} {s : Frm} {K : AV → Heap → Prop} {t : TypeId} {xo yo : Operand} {te : TI} {z0 : AV} {n : Int} {d : α} {f : List α → Option γ} {r : γ} (hS : Own H L) (ht : elTI C.E t = some te) (hx : ev s xo = .int .i64 n) (hy : ev s yo = .int .i64 n) (hz : zeroE te = some z0) (hd : m .nil d = z0) (hpd : p d = []) (h0 : (te.sz == 0) = false)
    (hh : (mkL te.bytes n d).bind f = some r) (h : ∀ v H' l w, isSl v → isSls w l.length → mkL te.bytes n d = some l → f l = some r → Own H' (⟨v, te.sz, ouw m w l⟩ :: (inn p c z w l ++ L)) → K v H') : wpO (ACall C) C q th (.makeSlice t xo yo) s H K := by
  refine w_make (c := fun _ : α => z0) hS ht hx hy hz rfl h0 hh fun v H' l hv hm hf hS => ?_
  have hm' := hm
  unfold mkL at hm'
  split at hm'
  · simp only [Option.some.injEq] at hm'; subst hm'
    rw [List.map_replicate, ← hd] at hS
    obtain ⟨w, k1, k2⟩ := repN (p := p) (c := c) (z := z) hpd hS
    exact h v H' _ w hv k1 hm hf k2
  · simp at hm'
theorem frzL_mapN {d enc : α → AV} (hz : ∀ x, frzV (d x) = enc x) : ∀ (l : List α), frzL (l.map d) = l.map enc
  | [] => rfl
  | x :: l => by simp only [List.map_cons, frzL, hz x, frzL_mapN hz l]
theorem FZ_ownN {s : Frm} {t : Nat} {ts : List Nat} {es : List Sh} {fl : List (List Nat × List Sh)} {P : Frm → Heap → Prop} {d enc : α → AV} (hS : Own H (⟨v, es.length, ouw m w l⟩ :: (inn p c z w l ++ R))) (hv : isSl v) (hq : isSls w l.length) (hs : s.getD t .undef = v)
    (hc : ∀ (a : AV) (x : α) (H : Heap) (L : List It), isSl a → Own H (⟨a, z, (p x).map c⟩ :: L) → ∃ H', takeE es (m a x) H = some (d x, H') ∧ Own H' L) (hz : ∀ x, frzV (d x) = enc x)
    (h : ∀ H', sameRef v v = true → Own H' R → FZ fl (setSame v (.fz (l.map enc)) ts (s.set t (.fz (l.map enc)))) H' P) : FZ ((t :: ts, [.sl es]) :: fl) s H P := by
  obtain ⟨H', h1, h2⟩ := hS.takeN hv hq hc
  rw [← hs] at h1
  refine FZ_step h1 ?_
  simp only [frzV, frzL_mapN hz, hs]
  exact h H' hv.same h2
theorem TC_owN {es fs : List Sh} {cs : List AV} {K : List AV → Heap → Prop} {d : α → AV} (hS : Own H (⟨v, fs.length, ouw m w l⟩ :: (inn p c z w l ++ R))) (hv : isSl v) (hq : isSls w l.length)
    (hc : ∀ (a : AV) (x : α) (H : Heap) (L : List It), isSl a → Own H (⟨a, z, (p x).map c⟩ :: L) → ∃ H', takeE fs (m a x) H = some (d x, H') ∧ Own H' L)
    (h : ∀ H', Own H' R → TC es cs H' fun ys H' => K (.own fs.length (l.map d) :: ys) H') : TC (.sl fs :: es) (v :: cs) H K := by
  obtain ⟨H', h1, h2⟩ := hS.takeN hv hq hc
  have h3 : takeT (.sl fs) v H = some (.own fs.length (l.map d), H') := by
    have hna : ∀ cs, v ≠ .agg cs := by rintro cs rfl; rcases hv.ok with h | h | ⟨_, _, _, _, h⟩ <;> simp at h
    cases v with
    | agg cs => exact absurd rfl (hna cs)
    | _ => simpa only [takeE] using h1
  exact TC_one h3 (h H' h2)
theorem sn_it {n : Nat} {γ : Type} {g : γ → AV} {b : List γ} {a : AV} (hk : ItOK H ⟨a, z, b.map g⟩) (ha : isSl a) (hg : ∀ x, snapV n H (g x) = some (g x)) : snapV (n + 1) H a = some (.fz (b.map g)) := by
  obtain ⟨k0, hok⟩ := hk
  simp only at hok
  rcases ha.ok with rfl | rfl | ⟨id, ver, off, len, rfl⟩
  · simp only at hok; simp only [snapV, hok]
  · simp only at hok; simp only [snapV, hok]
  · simp only at hok
    obtain ⟨k1, b', hb, k2, k3, k4, k5⟩ := hok
    simp only [snapV, hb]
    rw [if_pos k4, k5, sm_id (b.map g) (by
      intro d hd
      obtain ⟨x, _, rfl⟩ := List.mem_map.1 hd
      exact hg x), Option.map_some]
theorem sn_owN {n : Nat} {enc : α → AV} (hS : Own H L) (j : Nat) (hj : L[j]? = some ⟨v, sz, ouw m w l⟩) (hp : isSl v) (hq : isSls w l.length) (hin : ∀ it ∈ inn p c z w l, it ∈ L) (hc : ∀ a x, isSl a → ItOK H ⟨a, z, (p x).map c⟩ → snapV n H (m a x) = some (enc x)) : snapV (n + 1) H v = some (.fz (l.map enc)) := by
  have key : ∀ (l : List α) (w : List AV), isSls w l.length → (∀ it ∈ inn p c z w l, ItOK H it) → (ouw m w l).mapM (snapV n H) = some (l.map enc) := by
    intro l
    induction l with
    | nil =>
      intro w hq _
      have : w = [] := List.eq_nil_of_length_eq_zero hq.len
      subst this; rfl
    | cons x l ih =>
      intro w hq hk
      cases w with
      | nil => have := hq.len; simp at this
      | cons a w =>
        show (m a x :: ouw m w l).mapM (snapV n H) = _
        exact sm_c (hc a x (hq.sl a (by simp)) (hk _ (by simp [inn]))) (ih w ⟨by have := hq.len; simpa using this, fun b hb => hq.sl b (by simp [hb])⟩ fun it h => hk it (by simp only [inn, List.zipWith_cons_cons, List.mem_cons]; exact .inr h))
  have hk := key l w hq fun it h => by
    obtain ⟨k, hk⟩ := List.mem_iff_getElem?.1 (hin it h)
    exact hS.ok k it hk
  obtain ⟨k0, hok⟩ := hS.ok j _ hj
  simp only at hok
  have hnil : ouw m w l = [] → l = [] := fun h => by
    have h1 := ouw_len (m := m) hq
    rw [h] at h1
    exact List.eq_nil_of_length_eq_zero h1.symm
  rcases hp.ok with rfl | rfl | ⟨id, ver, off, len, rfl⟩
  · simp only at hok; rw [hnil hok]; rfl
  · simp only at hok; rw [hnil hok]; rfl
  · simp only at hok
    obtain ⟨k1, b, hb, k2, k3, k4, k5⟩ := hok
    simp only [snapV, hb]
    rw [if_pos k4, k5, hk, Option.map_some]
end
end Go.VS
