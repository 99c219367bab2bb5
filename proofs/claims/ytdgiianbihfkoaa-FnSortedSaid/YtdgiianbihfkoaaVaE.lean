import Derived.Test.YtdgiianbihfkoaaVaD
/-
  VS, part 50: slices.Clone, of what nobody writes: nil or not, what comes is owned.
-/
namespace Go.VS

/-- The code of slices.Clone at a slice type. -/
def cloneC (t b : TypeId) : Code :=
  (Go.Code.seq
    (Go.Code.region 0 #[{ dst := some 2, op := Go.Op.assign (Go.Operand.const (Go.Value.slice none 0 0)), type := t, pos := "slices.go:355", after := #[], guard := none }] false)
    (Go.Code.seq
      (Go.Code.seq
        (Go.Code.region 1
          #[{ dst := some 3, op := Go.Op.move (Go.Operand.tmp 0), type := t, pos := "slices.go:357", after := #[], guard := none },
            { dst := some 4, op := Go.Op.binOp Go.BinOp.eql t (Go.Operand.tmp 3) (Go.Operand.const (Go.Value.slice none 0 0)) t, type := b, pos := "slices.go:357", after := #[{ on := 0, ground := Go.Ground.data }], guard := none }]
          false)
        (Go.Code.cond (Go.Operand.tmp 4)
          (Go.Code.seq
            (Go.Code.region 2 #[{ dst := some 2, op := Go.Op.assign (Go.Operand.const (Go.Value.slice none 0 0)), type := t, pos := "slices.go:358", after := #[], guard := none }] false)
            Go.Code.ret)
          Go.Code.skip))
      (Go.Code.seq
        (Go.Code.region 3
          #[{ dst := some 5, op := Go.Op.buildSlice t 0 #[], type := t, pos := "slices.go:362", after := #[], guard := none },
            { dst := some 6, op := Go.Op.move (Go.Operand.tmp 0), type := t, pos := "slices.go:362", after := #[], guard := none },
            { dst := some 7, op := Go.Op.call { callee := Go.Callee.builtin Go.Builtin.append, args := #[Go.Operand.tmp 5, Go.Operand.tmp 6], argTypes := #[t, t] }, type := t, pos := "slices.go:362", after := #[{ on := 0, ground := Go.Ground.data }, { on := 1, ground := Go.Ground.data }], guard := none },
            { dst := some 2, op := Go.Op.assign (Go.Operand.tmp 7), type := t, pos := "slices.go:362",
              after := #[{ on := 2, ground := Go.Ground.data }, { on := 2, ground := Go.Ground.chain }, { on := 0, ground := Go.Ground.phase }, { on := 1, ground := Go.Ground.phase }, { on := 2, ground := Go.Ground.phase }], guard := none }]
          false)
        Go.Code.ret)))

def noX : CallRel := fun _ _ _ _ => False
def noC (E : TEnv) : Ctx := ⟨E, fun _ => {}, fun _ => none, noX⟩

theorem fz_nil {w : World} {H : Heap} {φ : Phi} {A : Avoid} {xs : List AV} {v : Value} (h : R w H φ A (.fz xs) v) : ∃ a cap, v = .slice a xs.length cap := by
  cases h.fz_inv with
  | fz0 a cap => exact ⟨a, cap, rfl⟩
  | fz _ c off cap n arr T fr => exact ⟨_, _, rfl⟩

/-- Is a slice nil? It is or not. -/
theorem nil_or {P : Program} {w : World} {t e : TypeId} {a : Option Addr} {n cap : Nat} (h : (underlying t).run P w = .ok (.slice e) w) (d : Nat) : ∃ b, (Op.equalIn (d + 1) t (.slice a n cap) (.slice none 0 0)).run P w = .ok b w ∧ (b = true → a = none) := by
  cases a with
  | none => exact ⟨true, by simp [Op.equalIn, h], fun _ => rfl⟩
  | some a => exact ⟨false, equalIn_nil2 h d, by simp⟩

theorem noOrd : ∀ c : Code, ordsOK {} c = true := by
  intro c
  induction c with
  | seq a b iha ihb => simp [ordsOK, iha, ihb]
  | cond c a b iha ihb => simp [ordsOK, iha, ihb]
  | block id a ih => simp [ordsOK, ih]
  | loop a ih => simp [ordsOK, ih]
  | region id ops draw => simp [ordsOK]
  | _ => simp [ordsOK]
section
variable {P : Program} {E : TEnv}
theorem cloneSim (hm : P.follows .mixedOrders = true) (hE : ∀ t ti, E t = some ti → TyOK P t ti) {f : FuncId} {fn : Func} {t b e : TypeId} {ti te : TI} (hf : P.funcs[f]? = some fn) (hname : (fn.name == "runtime.NumGoroutine") = false)
    (hb : fn.body = some (cloneC t b)) (hr : fn.results = #[.tmp 2]) (hn : fn.ntmps = 8) (ht : E t = some ti) (hu : ti.und = .sl e) (he : E e = some te) (xs : List AV) (H : Heap) (hz : szAll te.sz xs = true) (h0 : te.sz ≠ 0) (hro : roomy xs.length te.bytes = true) :
    Sim P f [.fz xs] H (fun v H' => v = (if xs = [] then .e0 else .ref H.bs.length H.st 0 xs.length) ∧ H' = (if xs = [] then H else H.new te.sz false xs)) := by
  have hXe : Exact noX := fun _ _ _ _ h => h.elim
  have hX : ∀ f ys H K, noX f ys H K → Sim P f ys H K := fun _ _ _ _ h => h.elim
  have hD : DrawSim P (noC E) noX := drawSim (C := noC E) hXe hm hE hX
  have sim := fun (c : Code) s H K Q w φ A a h => codeSim (P := P) (C := noC E) (X := noX) hm hE hX hD {} c 0 s H K Q w φ A a (noOrd c) h
  refine ⟨⟨fn, hf, hname, by simp [hb]⟩, fun w A φ us hst hl hrel => ?_⟩
  refine calls_of_wp hf hb ?_
  rw [hn]
  obtain ⟨v, rfl⟩ : ∃ v, us = #[v] := by
    match us, hl with
    | ⟨[v]⟩, _ => exact ⟨v, rfl⟩
  have hv : R w H φ A (.fz xs) v := hrel 0 _ _ rfl rfl
  -- the frame
  have hs0 : SF w H φ A [.fz xs, .undef, .undef, .undef, .undef, .undef, .undef, .undef] { tmps := #[v] ++ Array.replicate (8 - 1) undef, defers := [] } := by
    refine ⟨rfl, fun i x u hx hu => ?_, rfl⟩
    match i with
    | 0 => simp at hx hu; subst hx; subst hu; exact hv
    | i + 1 =>
      have : x = .undef := by
        match i with
        | 0 | 1 | 2 | 3 | 4 | 5 | 6 => simpa using hx.symm
        | i + 7 => simp at hx
      subst this
      exact .fr _ _ (.undef _)
  -- the end, from a frame whose slot 2 is the result
  have fin : ∀ (s' : Frm) (H' : Heap) (φ' : Phi) (A' : Avoid) (a' : Act) (w' : World) (x : AV), Out w H φ A w' H' φ' A' → SF w' H' φ' A' s' a' → s'.getD 2 .undef = x → (∀ u, R w' H' φ' A' x u → ∃ y, R w' H' φ' A' y u ∧ (y = (if xs = [] then .e0 else .ref H.bs.length H.st 0 xs.length) ∧ H' = (if xs = [] then H else H.new te.sz false xs))) →
      a'.defers = [] ∧ ∃ v, (results fn a'.tmps).run P w' = .ok v w' ∧ CRes w H φ A (fun v H' => v = (if xs = [] then .e0 else .ref H.bs.length H.st 0 xs.length) ∧ H' = (if xs = [] then H else H.new te.sz false xs)) (.returned v) w' := by
    intro s' H' φ' A' a' w' x h1 h2 hx hy
    refine ⟨h2.dfr, ?_⟩
    obtain ⟨rus, k1, k2, k3⟩ := results_ok (P := P) (C := noC E) hE h1.st h2 (fn := fn) (rs := [x]) (by rw [hr]; simp only [resVals, hx, Option.map_some])
    obtain ⟨u, rfl⟩ : ∃ u, rus = [u] := by
      match rus, k2 with
      | [u], _ => exact ⟨u, rfl⟩
    obtain ⟨y, hy1, hy2⟩ := hy u (k3 0 x u rfl rfl)
    exact ⟨_, k1, y, H', φ', A', h1, by simpa [oneVal] using hy1, hy2⟩
  -- the first region
  refine wp_seq (sim _ _ H (fun e s1 H1 => e = .normal ∧ s1 = [.fz xs, .undef, .nil, .undef, .undef, .undef, .undef, .undef] ∧ H1 = H) _ w φ A _ ?_ hst hs0 ?_)
  · simp [annot, withFrz, regOf, ordOf, wpC, wpOpsN, frzSlots, wpOp, quietOp, evalOp, ev, ofValue, setA, noC]
  rintro e1 s1 H1 φ1 A1 a1 w1 o1 hs1 ⟨rfl, rfl, rfl⟩
  show (Code.seq _ _).wp P _ a1 w1
  have hst1 := o1.st
  refine wp_seq (wp_seq (wp_region_list ?_))
  -- is it nil?
  simp only [wpList]
  rw [if_pos (by simp [Region.wanted])]
  refine .inl (opSim (C := noC E) (X := noX) hE hX hst1 (s := [.fz xs, .undef, .nil, .undef, .undef, .undef, .undef, .undef]) (fun x _ => hs1.ev x) (th := false) (K := fun x H' => x = .fz xs ∧ H' = H1) (by simp [wpOp, quietOp, evalOp, ev]) ?_)
  rintro x3 v3 w3 H3 φ3 A3 o3 hx3 ⟨rfl, rfl⟩
  have hs3 := (hs1.mono o3.evo).set (some 3) hx3
  have hst3 := o3.st
  rw [if_pos (by simp [Region.wanted])]
  have hv3 : (a1.put (some 3) v3).eval (.tmp 3) = v3 := by
    have : a1.tmps.size = 8 := by have := hs1.len; simpa using this.symm
    simp [Act.eval, Act.put, this]
  obtain ⟨a0, cap, rfl⟩ := fz_nil hx3
  obtain ⟨bb, hbb, hbn⟩ := nil_or (a := a0) (n := xs.length) (cap := cap) ((hE t ti ht).sl w3 hu) 9999
  have hm4 : MRes w3 H3 φ3 A3 H3 ((execOp (a1.put (some 3) (.slice a0 xs.length cap)).eval { dst := some 4, op := Go.Op.binOp Go.BinOp.eql t (Go.Operand.tmp 3) (Go.Operand.const (Go.Value.slice none 0 0)) t, type := b, pos := "slices.go:357", after := #[{ on := 0, ground := Go.Ground.data }], guard := none }).run P w3) (.bool bb) := by
    have hg := eqGuard_plain P w3 .eql t (.tmp 3) (.const (.slice none 0 0)) (.slice a0 xs.length cap) (.slice none 0 0) (by simp) rfl
    have hbin : binOp .eql t (.slice a0 xs.length cap) (.slice none 0 0) = (do pure (.bool (← Op.equal t (.slice a0 xs.length cap) (.slice none 0 0)))) := rfl
    rw [← equal_def] at hbb
    refine MRes.of_q hst3 (.inl rfl) (QRes.ofVal hst3 ⟨.bool bb, ?_, .fr _ _ (.bool _)⟩)
    rw [hv3]
    show (do eqGuard .eql t (.tmp 3) (.const (.slice none 0 0)) (.slice a0 xs.length cap) (.slice none 0 0); binOp .eql t (.slice a0 xs.length cap) (.slice none 0 0) : Sem Value).run P w3 = _
    simp [hg, hbin, hbb]
  refine .inl (hm4.upon fun v4 w4 φ4 A4 o4 hx4 => ?_)
  have hs4 := (hs3.mono o4.evo).set (some 4) hx4
  have hst4 := o4.st
  have o34 : Out w H3 φ A w4 H3 φ4 A4 := o1.trans hst (o3.trans hst1 (o4.trans hst3 (.refl hst4)))
  simp only [setA, List.set_cons_succ, List.set_cons_zero] at hs4
  simp only [Exit.then]
  -- the condition
  refine sim _ [.fz xs, .undef, .nil, .fz xs, .bool bb, .undef, .undef, .undef] H3 (fun e s' H' => H' = H3 ∧ if bb = true then e = .ret ∧ s' = [.fz xs, .undef, .nil, .fz xs, .bool bb, .undef, .undef, .undef] else e = .normal ∧ s' = [.fz xs, .undef, .nil, .fz xs, .bool bb, .undef, .undef, .undef]) _ w4 φ4 A4 _ ?_ hst4 hs4 ?_
  · cases bb
    · simp [annot, withKill, wpC, ev, noC]
    · simp [annot, withKill, withFrz, regOf, ordOf, wpC, wpOpsN, frzSlots, wpOp, quietOp, evalOp, ev, ofValue, setA, noC]
      exact ⟨_, _, ⟨rfl, rfl⟩, rfl, rfl⟩
  rintro e5 s5 H5 φ5 A5 a5 w5 o5 hs5 ⟨rfl, hk5⟩
  cases bb with
  | true =>
    simp only [if_true] at hk5
    obtain ⟨rfl, rfl⟩ := hk5
    obtain rfl := hbn rfl
    have hxs : xs = [] := by
      cases hv3' : hx3.fz_inv with
      | fz0 => rfl
    subst hxs
    show (bodyPost P fn _) .ret a5 w5
    refine fin _ _ _ _ _ _ .nil (o34.trans hst o5) hs5 rfl fun u hu => ⟨.e0, ?_, by simp⟩
    have := hu.nil_inv
    subst this
    exact .fr _ _ (.e0 none)
  | false =>
    simp only [Bool.false_eq_true, if_false] at hk5
    obtain ⟨rfl, rfl⟩ := hk5
    show (Code.seq _ _).wp P _ a5 w5
    refine sim _ [.fz xs, .undef, .nil, .fz xs, .bool false, .undef, .undef, .undef] H5 (fun e s' H' => e = .ret ∧ s'.getD 2 .undef = (if xs = [] then .e0 else .ref H5.bs.length H5.st 0 xs.length) ∧ H' = (if xs = [] then H5 else H5.new te.sz false xs)) _ w5 φ5 A5 a5 ?_ o5.st hs5 ?_
    · by_cases hxs : xs = []
      · subst hxs
        simp [annot, withFrz, regOf, ordOf, wpC, wpOpsN, frzSlots, wpOp, quietOp, evalOp, ev, setA, noC, elTI, ht, hu, he, evalBuiltin, appendA, elemsOf, szAll, h0]
        refine ⟨_, _, ⟨rfl, rfl⟩, _, _, ⟨rfl, rfl⟩, _, _, ⟨rfl, rfl⟩, ?_⟩
        simp
      · have hlen : ¬ xs.length = 0 := by simpa using hxs
        simp [annot, withFrz, regOf, ordOf, wpC, wpOpsN, frzSlots, wpOp, quietOp, evalOp, ev, setA, noC, elTI, ht, hu, he, evalBuiltin, appendA, elemsOf, h0, hxs]
        refine ⟨_, _, ⟨rfl, rfl⟩, _, _, ⟨rfl, rfl⟩, _, _, ⟨rfl, rfl⟩, ?_⟩
        simp [hz, hro, hxs]
    · rintro e6 s6 H6 φ6 A6 a6 w6 o6 hs6 ⟨rfl, hx6, rfl⟩
      show (bodyPost P fn _) .ret a6 w6
      exact fin _ _ _ _ _ _ _ (o34.trans hst (o5.trans hst4 o6)) hs6 hx6 fun u hu => ⟨_, hu, rfl, rfl⟩

/-- What is said of slices.Clone: of function f, at elements of a size, of so many bytes. -/
def cloneExt (ids : List (FuncId × Nat × Nat)) : CallRel := fun f ys H K => ∃ sz b xs, (f, sz, b) ∈ ids ∧ ys = [.fz xs] ∧ szAll sz xs = true ∧ sz ≠ 0 ∧ roomy xs.length b = true ∧ K (if xs = [] then .e0 else .ref H.bs.length H.st 0 xs.length) (if xs = [] then H else H.new sz false xs)
structure CloneOK (P : Program) (E : TEnv) (f : FuncId) (sz b : Nat) : Prop where
  out : ∃ fn t bt e ti te, P.funcs[f]? = some fn ∧ (fn.name == "runtime.NumGoroutine") = false ∧ fn.body = some (cloneC t bt) ∧ fn.results = #[.tmp 2] ∧ fn.ntmps = 8 ∧ E t = some ti ∧ ti.und = .sl e ∧ E e = some te ∧ te.sz = sz ∧ te.bytes = b
theorem clone_hext (hm : P.follows .mixedOrders = true) (hE : ∀ t ti, E t = some ti → TyOK P t ti) {ids : List (FuncId × Nat × Nat)} (hids : ∀ x ∈ ids, CloneOK P E x.1 x.2.1 x.2.2) :
    ∀ f ys H K, cloneExt ids f ys H K → ∃ v H', Sim P f ys H (fun v1 H1 => v1 = v ∧ H1 = H') ∧ K v H' := by
  rintro f ys H K ⟨sz, b, xs, h1, rfl, h2, h3, h4, h5⟩
  obtain ⟨fn, t, bt, e, ti, te, k1, k2, k3, k4, k5, k6, k7, k8, rfl, rfl⟩ := (hids _ h1).out
  exact ⟨_, _, cloneSim hm hE k1 k2 k3 k4 k5 k6 k7 k8 xs H h2 h3 h4, h5⟩
theorem clone_good {C : Ctx} {ids : List (FuncId × Nat × Nat)} (h : C.ext = cloneExt ids) : Good C := by
  constructor
  · rintro f ys H K K' hK hx
    rw [h] at hx ⊢
    obtain ⟨sz, b, xs, h1, h2, h3, h4, h5, h6⟩ := hx
    exact ⟨sz, b, xs, h1, h2, h3, h4, h5, hK _ _ h6⟩
  · rintro f ys H K hx
    rw [h] at hx ⊢
    obtain ⟨sz, b, xs, h1, h2, h3, h4, h5, h6⟩ := hx
    exact ⟨_, _, ⟨sz, b, xs, h1, h2, h3, h4, h5, rfl, rfl⟩, h6⟩
/-- slices.Clone, as it is walked. -/
theorem clone_w {C : Ctx} {ids : List (FuncId × Nat × Nat)} (hx : C.ext = cloneExt ids) {α : Type} {f : FuncId} {sz b : Nat} (hid : (f, sz, b) ∈ ids) {c : α → AV} (hc : ∀ x, (c x).cells.length = sz) (h0 : sz ≠ 0) {l r : List α} (h : app b [] l = some r) {F : List It} {H : Heap} (hS : Own H F)
    {P : AV → Heap → Prop} (hP : ∀ v, isSl v → ∀ H', Own H' (⟨v, sz, r.map c⟩ :: F) → P v H') : ACall C f [.fz (l.map c)] H P := by
  unfold app at h
  split at h
  · rename_i hr
    simp only [List.nil_append, Option.some.injEq] at h
    subst h
    simp only [List.length_nil, Nat.zero_add] at hr
    refine ACall.ext ?_
    rw [hx]
    refine ⟨sz, b, l.map c, hid, rfl, szAll_map hc l, h0, by simpa using hr, ?_⟩
    cases l with
    | nil => exact hP _ isSl_e0 _ (by simpa using hS.e0_ sz)
    | cons x l =>
      rw [if_neg (by simp), if_neg (by simp)]
      exact hP _ (isSl_ref ..) _ (hS.newSl (all := (x :: l).map c) (List.take_of_length_le (Nat.le_refl _)) rfl (szAll_map hc _))
  · simp at h
end
theorem ev_ow {E : TEnv} {s : Frm} {H : Heap} {L : List It} {α β : Type} {t : TypeId} {x i : Operand} {ti te : TI} {e : TypeId} (j : Nat) (hS : Own H L) {v w : AV} {l : List α} {c : α → AV} {sz : Nat} (hj : L[j]? = some ⟨v, sz, l.map c⟩)
    (ht : E t = some ti) (hu : ti.und = .sl e) (he : E e = some te) (hsz : sz = te.sz) {k : IntKind} {n : Int} {l0 : List β} {y : β} {id ver off : Nat} (hv : v = .ref id ver off l0.length) (hb : idx l0 n = some y)
    (hx : ev s x = v) (hi : ev s i = .int k n) (hw : w = .ptr id ver (off + n.toNat) 0) {op : Op} (hop : op = .indexAddr t x i) : evalOp E op s H = some (w, H) := by
  subst hop
  obtain ⟨h0, h2, h1⟩ := idx_some hb
  subst hv
  obtain ⟨_, h3, b, hb, h4, _, h5, h6⟩ := hS.ok j _ hj
  simp only at h3 h4 h5
  simp only [evalOp, ht, hi, hu, he, hx, hb]
  rw [if_pos ⟨by rw [h4, hsz], h0, h2, h5⟩, hw]
theorem ev_le {E : TEnv} {s : Frm} {H : Heap} {L : List It} {α : Type} {t : TypeId} {x : Operand} {ti : TI} (j : Nat) (hS : Own H L) {v w : AV} {l : List α} {c : α → AV} {sz : Nat} (hj : L[j]? = some ⟨v, sz, l.map c⟩)
    (ht : E t = some ti) {n : Int} {y : α} {id ver off k o : Nat} (hv : v = .ref id ver off k) (hb : idx l n = some y)
    (hx : ev s x = .ptr id ver (off + n.toNat) o) (hw : rdAt ti (c y) o = some w) {op : Op} (hop : op = .load t x) : evalOp E op s H = some (w, H) := by
  subst hop
  obtain ⟨b, h1, h2⟩ := hS.elem j hj hv hb
  simp only [evalOp, ht, hx, h1, h2, hw]
end Go.VS
