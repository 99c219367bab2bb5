import Derived.Test.YtcgnkhdeckgaaaaVaA
/-
  VS, part 12: append, copy, clear at the machine.
-/
namespace Go.VS

theorem nextcap_le (need cap : Nat) (h : cap < need) : Builtin.nextslicecap need cap ≤ 2 * need + 512 := by
  have g : ∀ (r c : Nat), c ≤ 2 * need + 512 → Builtin.growBy need r c ≤ 2 * need + 512 := by
    intro r
    induction r with
    | zero => intro c hc; exact hc
    | succ r ih =>
      intro c hc
      simp only [Builtin.growBy]
      split
      · exact hc
      · exact ih _ (by omega)
  unfold Builtin.nextslicecap
  split
  · omega
  · split
    · omega
    · exact g _ _ (by omega)

section ops
variable {P : Program} {E : TEnv} (hE : ∀ t ti, E t = some ti → TyOK P t ti)
variable {w : World} {G : Heap} {φ : Phi} {A : Avoid}

theorem not_it {t : TypeId} {ti : TI} (h : TyOK P t ti) (hn : ∀ k, ti.und ≠ .it k) (w : World) : ∃ d, (underlying t).run P w = .ok d w ∧ (∀ k, d ≠ .int k) := by
  obtain ⟨i, d, z, _, hd, _, _, _, _, _, _, _, _, hud, _⟩ := h.out
  exact ⟨d, run_underlying hd w, fun k hk => hn k (by rw [← hud, hk]; rfl)⟩

/-- What is appended. -/
structure SrcAt (P : Program) (w : World) (G : Heap) (φ : Phi) (A : Avoid) (xs : List AV) (v : Value) (sz : Nat) (cs : Array Value) : Prop where
  len : (Builtin.lenOf v).run P w = .ok xs.length w
  run : ∀ m, m ≤ xs.length → (Builtin.firstCells sz m v).run P w = .ok (cs.extract 0 (m * sz)) w
  size : cs.size = xs.length * sz
  rel : ∀ (i : Nat) (x : AV) (j : Nat) (y : AV) (u : Value), xs[i]? = some x → x.cells[j]? = some y → cs[i * sz + j]? = some u → R w G φ A y u ∧ u.oneCell' = true
  one : ∀ u ∈ cs.toList, u.oneCell' = true

theorem src_ok {H0 : Heap} (hst : St w G φ A) (hX : Ext H0 G) {x : AV} {v : Value} {xs : List AV} {sz : Nat} (hx : R w G φ A x v) (h : elemsOf H0 x = some xs) (hs : szAll sz xs = true) (hz : 0 < sz) :
    ∃ cs, SrcAt P w G φ A xs v sz cs := by
  by_cases hstr : ∃ s, x = .str s
  · obtain ⟨s, rfl⟩ := hstr
    obtain ⟨b, rfl, rfl⟩ := hx.str_inv
    simp only [elemsOf, Option.some.injEq] at h
    have hxl : xs.length = b.size := by rw [← h, List.length_map]; exact Array.length_toList
    refine ⟨b.data.map fun c => .int .u8 c.toNat, by simp [Builtin.lenOf, hxl], fun m hm => ?_, ?_, fun i x j y u hi hy hu => ?_, fun u hu => ?_⟩
    · have hsz : sz = 1 ∨ xs = [] := by
        rcases xs with _ | ⟨y, ys⟩
        · exact .inr rfl
        · left
          have := szAll_get (i := 0) hs rfl
          have hy : (b.data.toList.map fun c : UInt8 => AV.int .u8 c.toNat)[0]? = some y := by rw [h]; rfl
          simp only [List.getElem?_map, Option.map_eq_some_iff] at hy
          obtain ⟨c, _, rfl⟩ := hy
          exact this.symm
      simp only [Builtin.firstCells, Sem.run_pure]
      congr 1
      rcases hsz with rfl | rfl
      · rw [ByteArray.data_extract, Nat.mul_one]
        apply Array.ext'; simp
      · simp at hm; subst hm
        rw [ByteArray.data_extract]
        apply Array.ext'; simp
    · rcases xs with _ | ⟨y, ys⟩
      · rw [Array.size_map, List.length_nil, Nat.zero_mul]; exact hxl.symm
      · have := szAll_get (i := 0) hs rfl
        have hy : (b.data.toList.map fun c : UInt8 => AV.int .u8 c.toNat)[0]? = some y := by rw [h]; rfl
        simp only [List.getElem?_map, Option.map_eq_some_iff] at hy
        obtain ⟨c, _, rfl⟩ := hy
        have h1 : sz = 1 := this.symm
        subst h1
        rw [Nat.mul_one, hxl, Array.size_map]; rfl
    · rw [← h] at hi
      simp only [List.getElem?_map, Option.map_eq_some_iff] at hi
      obtain ⟨c, hc, rfl⟩ := hi
      have h1 := szAll_get hs (i := i) (x := .int .u8 c.toNat) (by rw [← h]; simp [hc])
      have h1 : sz = 1 := h1.symm
      subst h1
      cases j with
      | zero =>
        simp only [AV.cells, List.getElem?_cons_zero, Option.some.injEq] at hy; subst hy
        simp only [Nat.mul_one, Nat.add_zero, Array.getElem?_map, Option.map_eq_some_iff] at hu
        obtain ⟨c', hc', rfl⟩ := hu
        have : b.data[i]? = some c := by simpa using hc
        rw [this] at hc'
        simp only [Option.some.injEq] at hc'; subst hc'
        exact ⟨.fr _ _ (.int _ _), rfl⟩
      | succ j => simp [AV.cells] at hy
    · simp only [Array.toList_map, List.mem_map] at hu
      obtain ⟨c, _, rfl⟩ := hu; rfl
  · have hel := elems_at hst hX hx h hs (fun s hs => hstr ⟨s, hs⟩)
    obtain ⟨cs, c1, c2, c3, c4⟩ := hel.cells (P := P) hz
    refine ⟨cs, ?_, fun m hm => ?_, c2, c3, c4⟩
    · rcases hel.out with ⟨rfl, a, cap, rfl⟩ | ⟨c, o, cap, arr, T, fr, rfl, _⟩ <;> simp [Builtin.lenOf]
    · rcases hel.out with ⟨rfl, a, cap, rfl⟩ | ⟨c, o, cap, arr, T, fr, rfl, h1, h2, _⟩
      · simp at hm; subst hm
        have : cs = #[] := Array.eq_empty_of_size_eq_zero (by simpa using c2)
        subst this
        cases a with
        | none => simp [Builtin.firstCells]
        | some a => simp [Builtin.firstCells, loadCells, loadCellsFrom]
      · simp only [Builtin.firstCells] at c1 ⊢
        have hle : m * sz ≤ xs.length * sz := Nat.mul_le_mul_right _ hm
        rw [run_loadCells_at P h1 o (xs.length * sz) h2] at c1
        rw [run_loadCells_at P h1 o (m * sz) (by omega)]
        simp only [Result.ok.injEq, and_true] at c1
        congr 1
        rw [← c1]
        simp only [Array.extract_extract]
        congr 1 <;> omega

theorem run_append_grow {t tx e : TypeId} {ti te txi : TI} (ht : TyOK P t ti) (hu : ti.und = .sl e) (hte : TyOK P e te) (htx : TyOK P tx txi) (hnx : ∀ k, txi.und ≠ .it k) (tys : Array TypeId) (h0 : tys[0]? = some t) (h1 : tys[1]? = some tx) (ty : TypeId)
    {base : Option Addr} {sLen sCap : Nat} {x : Value} {n : Nat} {csS csX : Array Value} (hlen : (Builtin.lenOf x).run P w = .ok n w) (hS : (Builtin.firstCells te.sz sLen (.slice base sLen sCap)).run P w.drew = .ok csS w.drew)
    (hX : (Builtin.firstCells te.sz n x).run P w.drew = .ok csX w.drew) (sS : csS.size = sLen * te.sz) (sX : csX.size = n * te.sz) (hneed : sCap < sLen + n) (hroom : roomy (sLen + n) te.bytes = true) :
    ∃ cap arr, sLen + n ≤ cap ∧ (Builtin.append_ tys ty #[.slice base sLen sCap, x]).run P w = .ok (.slice (some ⟨w.heap.size, 0, none⟩) (sLen + n) cap) (w.drew.alloc (.cells arr e)) ∧ arr.size = cap * te.sz ∧
      ∀ j, j < (sLen + n) * te.sz → arr[j]? = (csS ++ csX)[j]? := by
  obtain ⟨d, hd, hdn⟩ := not_it htx hnx w
  obtain ⟨inf, i1, i2, _⟩ := hte.typeInfo w
  obtain ⟨zv, z1, z2, _⟩ := hte.zeroValue w.drew
  simp only [roomy, Bool.and_eq_true, decide_eq_true_eq] at hroom
  obtain ⟨r1, r2⟩ := hroom
  have hnd : (match d with | .int _ => true | _ => false) = false := by cases d <;> first | rfl | exact absurd rfl (hdn _)
  have hb : ¬ (Builtin.nextslicecap (sLen + n) sCap * inf.bytes > 2 ^ 48) := by
    rw [i2]
    have h2 := nextcap_le (sLen + n) sCap hneed
    have h3 : Builtin.nextslicecap (sLen + n) sCap * te.bytes ≤ (2 * (sLen + n) + 512) * te.bytes := Nat.mul_le_mul_right _ h2
    have h4 : (2 * (sLen + n) + 512) * te.bytes ≤ 2 * ((sLen + n + 512) * te.bytes) := by
      rw [← Nat.mul_assoc]; exact Nat.mul_le_mul_right _ (by omega)
    omega
  have hmax : ¬ (((sLen + n : Nat) : Int) > IntKind.i64.max) := by have : IntKind.i64.max = 9223372036854775807 := rfl; omega
  let q : Question := .appendCap (sLen + n) sCap e
  let cap := q.cut (w.tape w.drawn q)
  have hcap : sLen + n ≤ cap := Nat.le_add_right _ _
  let arr := csS ++ csX ++ Builtin.zeroCells zv.cells (cap - (sLen + n))
  have hzs : (Builtin.zeroCells zv.cells (cap - (sLen + n))).size = (cap - (sLen + n)) * te.sz := by simp [Builtin.zeroCells, z2]
  refine ⟨cap, arr, hcap, ?_, ?_, fun j hj => ?_⟩
  · unfold Builtin.append_
    simp only [h0, h1, List.getElem?_toArray, List.getElem?_cons_zero, List.getElem?_cons_succ, Sem.run_bind, ht.sl w hu, Result.andThen_ok, hte.sizeOf, hd, Sem.run_pure]
    have hn1 : ¬ (sLen + n ≤ sCap) := by omega
    obtain ⟨inf', i1', i2', _⟩ := hte.typeInfo w.drew
    simp only [Bool.false_eq_true, if_false, Bool.not_false, if_true, Sem.run_bind, hlen, Result.andThen_ok, hn1, i1, hmax, false_and, hb, run_choose, Question.forced, World.drew_eq, i1', run_askRoom]
    show ((Builtin.firstCells te.sz sLen (.slice base sLen sCap)).run P w.drew).andThen _ = _
    simp only [hS, hX, Result.andThen_ok, z1, Sem.run_bind, newRow, run_newObj, Sem.run_pure, World.alloc_eq]
    rfl
  · simp only [arr, Array.size_append, sS, sX, hzs]
    rw [← Nat.add_mul, ← Nat.add_mul]; congr 1; omega
  · have : j < (csS ++ csX).size := by simp only [Array.size_append, sS, sX]; rw [← Nat.add_mul]; exact hj
    simp only [arr]
    rw [Array.getElem?_append_left this]
end ops
end Go.VS

/-
  VS, part 13: all quiet operations in one theorem.
-/
namespace Go.VS

section ops
variable {P : Program} {E : TEnv} (hE : ∀ t ti, E t = some ti → TyOK P t ti)
variable {w : World} {G : Heap} {φ : Phi} {A : Avoid}

theorem drewOut (hst : St w G φ A) : Out w G φ A w.drew G φ A :=
  have hevo : Evo w G φ A w.drew G φ A := ⟨fun c a t fr hc hn => ⟨⟨fr, hc⟩, hn⟩, Nat.le_refl _, fun i b' hb' _ => ⟨b', hb', rfl, rfl, rfl, rfl, fun loc hl => hl⟩, fun c _ => rfl⟩
  ⟨⟨hst.inj, hst.own, hst.bnd, fun id loc h => by
    obtain ⟨b, hb, hok⟩ := hst.blk id loc h
    refine ⟨b, hb, hok.ver, hok.sized, hok.virt, fun c b0 hl => ?_⟩
    obtain ⟨arr, T, fr, h1, h2, h3, h4⟩ := hok.here c b0 hl
    exact ⟨arr, T, fr, h1, h2, h3, fun i x j y v hx hy hv => ⟨(h4 i x j y v hx hy hv).1.mono hevo, (h4 i x j y v hx hy hv).2⟩⟩⟩,
    ⟨rfl, rfl, rfl, Nat.le_refl _, fun _ _ _ => rfl, fun _ _ => rfl, fun _ h => .inl h⟩, hevo, fun _ h _ => h⟩

theorem QRes.of {H0 H' : Heap} {r : Result Next} {x : AV} {v : Value} {w' : World} {φ' : Phi} {A' : Avoid} (hr : r = .ok (.value v) w') (hx : R w' G φ' A' x v) (ho : Out w G φ A w' G φ' A')
    (hid : ∀ id loc, φ' id = some loc → φ id = some loc ∨ (H0.bs.length ≤ id ∧ id < H'.bs.length)) : QRes w G φ A H0 H' r x := ⟨_, v, w', φ', A', hr, .inl rfl, hx, ho, hid⟩

include hE in
theorem q_appendZ {H0 H' : Heap} (hst : St w G φ A) (hX : Ext H' G) (hnew : H0.bs.length < H'.bs.length → φ H0.bs.length = none) {t tx : TypeId} {tys : Array TypeId} {ty : TypeId} (h0 : tys[0]? = some t) (h1 : tys[1]? = some tx) {te txi : TI} (hte : elTI E t = some te)
    (htx : E tx = some txi) {k : IntKind} (hit : txi.und = .it k) {n : Int} {z : AV} {a b : Value} (hs : R w G φ A .nil a) (hx : R w G φ A (.int .i64 n) b) (h : appendZ te n H0 = some (z, H')) :
    QRes w G φ A H0 H' ((do pure (.value (← Builtin.append_ tys ty #[a, b])) : Sem Next).run P w) z := by
  obtain ⟨ti, e, ht, hu, hee⟩ := elTI_inv hte
  have e1 := hs.nil_inv; have e2 := hx.int_inv; subst e1; subst e2
  unfold appendZ at h
  split at h
  rotate_left
  · simp at h
  rename_i zA hz
  split at h
  rotate_left
  · simp at h
  rename_i hcnd
  obtain ⟨c0, c2, c3⟩ := hcnd
  obtain ⟨inf, i1, i2, _⟩ := (hE _ _ hee).typeInfo w
  simp only [roomy, Bool.and_eq_true, decide_eq_true_eq] at c2
  obtain ⟨r1, r2⟩ := c2
  have hn : IntKind.i64.wrap n = n := IntWalk.i64_in n (by omega)
  have e1 : (n.toNat + 512) * te.bytes = n.toNat * te.bytes + 512 * te.bytes := Nat.add_mul _ _ _
  have hb : ¬ (n * (inf.bytes : Int) > 2 ^ 48) := by
    rw [i2]
    have e2 : n * ((te.bytes : Int)) = ((n.toNat * te.bytes : Nat) : Int) := by
      rw [Int.natCast_mul, Int.toNat_of_nonneg (by omega)]
    rw [e2]; omega
  have hd := (hE _ _ htx).und_it (w := w) hit
  have t1 : ¬ (IntKind.i64.wrap n < 0) := by rw [hn]; omega
  have hb' : ¬ (IntKind.i64.wrap n * (inf.bytes : Int) > 2 ^ 48) := by rw [hn]; exact hb
  by_cases hn0 : n = 0
  · rw [if_pos hn0] at h
    simp only [Option.some.injEq, Prod.mk.injEq] at h
    obtain ⟨rfl, rfl⟩ := h
    subst hn0
    refine QRes.val hst ?_ (.fr _ _ .nil)
    unfold Builtin.append_
    simp only [h0, h1, List.getElem?_toArray, List.getElem?_cons_zero, List.getElem?_cons_succ, Sem.run_bind, (hE _ _ ht).sl w hu, Result.andThen_ok, (hE _ _ hee).sizeOf, hd, Sem.run_pure, asInt, asIntOf]
    simp only [t1, if_true, if_false, Sem.run_bind, Sem.run_pure, Result.andThen_ok, i1, hb']
    rw [hn]
    simp
  · rw [if_neg hn0] at h
    simp only [Option.some.injEq, Prod.mk.injEq] at h
    obtain ⟨rfl, rfl⟩ := h
    have hod := drewOut hst
    obtain ⟨zv, z1, z2, z3, z5⟩ := zeroE_ok (hE _ _ hee) hz w.drew
    obtain ⟨inf', i1', i2', _⟩ := (hE _ _ hee).typeInfo w.drew
    let q : Question := .appendCap n.toNat 0 e
    let cap := q.cut (w.tape w.drawn q)
    have hcap : n.toNat ≤ cap := Nat.le_add_right _ _
    let arr := Builtin.zeroCells zv.cells n.toNat ++ Builtin.zeroCells zv.cells (cap - n.toNat)
    have hzs : ∀ m, (Builtin.zeroCells zv.cells m).size = m * te.sz := fun m => by simp [Builtin.zeroCells, z2]
    have hnc : Builtin.nextslicecap n.toNat 0 = n.toNat := by unfold Builtin.nextslicecap; rw [if_pos (by omega)]
    have hb2 : ¬ (n.toNat * inf.bytes > 2 ^ 48) := by rw [i2]; omega
    have hmax : ¬ ((n.toNat : Int) > IntKind.i64.max) := by have : IntKind.i64.max = 9223372036854775807 := rfl; omega
    have hne : ¬ (n.toNat * te.sz = 0) := by
      intro h0
      rcases Nat.mul_eq_zero.1 h0 with h0 | h0 <;> omega
    have hrun : (Builtin.append_ tys ty #[.slice none 0 0, .int .i64 n]).run P w = .ok (.slice (some ⟨w.heap.size, 0, none⟩) n.toNat cap) (w.drew.alloc (.cells arr e)) := by
      unfold Builtin.append_
      simp only [h0, h1, List.getElem?_toArray, List.getElem?_cons_zero, List.getElem?_cons_succ, Sem.run_bind, (hE _ _ ht).sl w hu, Result.andThen_ok, (hE _ _ hee).sizeOf, hd, Sem.run_pure, asInt, asIntOf]
      simp only [t1, if_true, if_false, Sem.run_bind, Sem.run_pure, Result.andThen_ok, i1, hb']
      rw [hn]
      have hn1 : ¬ (n.toNat ≤ 0) := by omega
      have hb3 : ¬ (Builtin.nextslicecap n.toNat 0 * inf.bytes > 2 ^ 48) := by rw [hnc]; exact hb2
      simp only [Nat.zero_add]
      rw [if_neg hn1]
      simp only [if_false, Sem.run_bind, Sem.run_pure, Result.andThen_ok, i1, hmax, false_and, hb3, run_choose, Question.forced, World.drew_eq, i1', run_askRoom, Builtin.firstCells, hne, z1, newRow, run_newObj, World.alloc_eq, Array.empty_append, Bool.not_true, Bool.false_eq_true]
      rfl
    have harr : arr.size = cap * te.sz := by
      simp only [arr, Array.size_append, hzs]; rw [← Nat.add_mul]; congr 1; omega
    have hs1 : ∀ (i : Nat) (x : AV), (List.replicate n.toNat zA)[i]? = some x → x.cells.length = te.sz := by
      intro i x hx
      simp only [List.getElem?_replicate] at hx
      split at hx
      · simp only [Option.some.injEq] at hx; subst hx; exact z3
      · simp at hx
    have hs2 : ∀ (i : Nat) (x : AV) (j : Nat) (y : AV) (v : Value), (List.replicate n.toNat zA)[i]? = some x → x.cells[j]? = some y → arr[i * te.sz + j]? = some v → R w.drew G φ A y v ∧ v.oneCell' = true := by
      intro i x j y v hx hy hv
      simp only [List.getElem?_replicate] at hx
      split at hx
      · rename_i hi
        simp only [Option.some.injEq] at hx; subst hx
        have hj : j < te.sz := by rw [← z3]; exact (List.getElem?_eq_some_iff.1 hy).1
        have hlt : i * te.sz + j < n.toNat * te.sz := by have := mul_lt_le (n := te.sz) hi; omega
        simp only [arr] at hv
        rw [Array.getElem?_append_left (by rw [hzs]; exact hlt)] at hv
        have hv' : zv.cells[j]? = some v := by
          refine rep_cells z2 hi hj ?_
          rw [← hv]; simp only [Builtin.zeroCells, z2]
        have := z5 w.drew A j y v hy hv'
        exact ⟨.fr _ _ this.1, this.2⟩
      · simp at hx
    obtain ⟨φ', A', hout, hφ, hid⟩ := newOut (arr := arr) e hod.st hX (hnew (by simp [Heap.new])) hs1 (by rw [harr]; simpa using Nat.mul_le_mul_right _ hcap) hs2
    have hg := hX.1 _ _ (Heap.get_new H0 te.sz false (List.replicate n.toNat zA))
    exact QRes.of (by simp only [Sem.run_bind, hrun, Result.andThen_ok, Sem.run_pure]; rfl) (ref_new hg (Nat.lt_of_lt_of_le (Nat.lt_succ_self _) hX.2) hφ (by simp) hcap (by simpa using hcap) (by rw [bsz_new, harr]; exact Nat.le_refl _)) (hod.trans hst hout) hid

include hE in
theorem q_append0 {H0 H' : Heap} (hst : St w G φ A) (hX0 : Ext H0 G) (hX : Ext H' G) (hnew : H0.bs.length < H'.bs.length → φ H0.bs.length = none) {t tx : TypeId} {tys : Array TypeId} {ty : TypeId} (h0 : tys[0]? = some t) (h1 : tys[1]? = some tx) {te txi : TI} (hte : elTI E t = some te)
    (htx : E tx = some txi) (hnx : ∀ k, txi.und ≠ .it k) {s x z : AV} {a b : Value} (hs : R w G φ A s a) (hx : R w G φ A x b) (hq : s = .nil ∨ s = .e0) (h : appendA te s x H0 = some (z, H')) :
    QRes w G φ A H0 H' ((do pure (.value (← Builtin.append_ tys ty #[a, b])) : Sem Next).run P w) z := by
  obtain ⟨ti, e, ht, hu, hee⟩ := elTI_inv hte
  obtain ⟨base, rfl⟩ : ∃ base, a = .slice base 0 0 := by
    rcases hq with rfl | rfl
    · exact ⟨none, hs.nil_inv⟩
    · obtain ⟨a0, rfl⟩ := hs.e0_inv; exact ⟨a0, rfl⟩
  unfold appendA at h
  split at h
  · simp at h
  · rename_i xs hxs
    split at h
    · simp at h
    · rename_i hsz
      simp only [Bool.not_eq_true', Bool.not_eq_false] at hsz
      split at h
      · simp at h
      · rename_i hz
        have hz : 0 < te.sz := by omega
        obtain ⟨cs, hsrc⟩ := src_ok (P := P) hst hX0 hx hxs hsz hz
        have hemp : xs.length = 0 → QRes w G φ A H0 H0 ((do pure (.value (← Builtin.append_ tys ty #[.slice base 0 0, b])) : Sem Next).run P w) s := by
          intro hl
          refine QRes.val hst ?_ hs
          obtain ⟨d, hd, hdn⟩ := not_it (hE _ _ htx) hnx w
          have hc := hsrc.run 0 (by omega)
          have hl2 := hsrc.len
          rw [hl] at hl2
          simp only [Nat.zero_mul, Array.extract_zero] at hc
          unfold Builtin.append_
          simp only [h0, h1, List.getElem?_toArray, List.getElem?_cons_zero, List.getElem?_cons_succ, Sem.run_bind, (hE _ _ ht).sl w hu, Result.andThen_ok, (hE _ _ hee).sizeOf, hd, Sem.run_pure]
          simp only [Bool.false_eq_true, if_false, Bool.not_false, if_true, Sem.run_bind, hl2, Result.andThen_ok, Nat.add_zero, Nat.le_refl, hc]
          cases base with
          | none => simp
          | some p => simp [storeCells]
        have hgrow : ∀ {v : Nat}, 0 < xs.length → roomy xs.length te.bytes = true → Ext (H0.new te.sz false xs) G → φ H0.bs.length = none → v = xs.length →
            QRes w G φ A H0 (H0.new te.sz false xs) ((do pure (.value (← Builtin.append_ tys ty #[.slice base 0 0, b])) : Sem Next).run P w) (.ref H0.bs.length H0.st 0 xs.length) := by
          intro v hl hr hX hnew0 _
          have hod := drewOut hst
          have hc : (Builtin.firstCells te.sz 0 (.slice base 0 0)).run P w.drew = .ok #[] w.drew := by
            cases base with
            | none => simp [Builtin.firstCells]
            | some p => simp [Builtin.firstCells, loadCells, loadCellsFrom]
          obtain ⟨cs', hsrc'⟩ := src_ok (P := P) hod.st hX0 (hx.mono hod.evo) hxs hsz hz
          have hc2 := hsrc'.run xs.length (Nat.le_refl _)
          rw [← hsrc'.size] at hc2
          simp only [Array.extract_size] at hc2
          obtain ⟨cap, arr, k1, k2, k3, k4⟩ := run_append_grow (P := P) (w := w) (hE _ _ ht) hu (hE _ _ hee) (hE _ _ htx) hnx tys h0 h1 ty hsrc.len hc hc2 (by simp) hsrc'.size (by omega) (by simpa using hr)
          simp only [Nat.zero_add] at k1 k2 k4
          have hs1 : ∀ (i : Nat) (x : AV), xs[i]? = some x → x.cells.length = te.sz := fun i x hi => szAll_get hsz hi
          have hle : xs.length * te.sz ≤ cap * te.sz := Nat.mul_le_mul_right _ k1
          obtain ⟨φ', A', hout, hφ, hid⟩ := newOut (arr := arr) e hod.st hX hnew0 hs1 (by rw [k3]; exact hle) (fun i x j y v hi hy hv => by
            have hil : i < xs.length := (List.getElem?_eq_some_iff.1 hi).1
            have hjl : j < x.cells.length := (List.getElem?_eq_some_iff.1 hy).1
            have := hs1 i x hi
            have := mul_lt_le (n := te.sz) hil
            rw [k4 _ (by omega)] at hv
            simp only [Array.empty_append] at hv
            exact hsrc'.rel i x j y v hi hy hv)
          have hg := hX.1 _ _ (Heap.get_new H0 te.sz false xs)
          exact QRes.of (by simp [k2]) (ref_new hg (Nat.lt_of_lt_of_le (Nat.lt_succ_self _) hX.2) hφ (Nat.le_refl _) k1 k1 (by
            have := bsz_new w.drew arr e
            rw [this, k3]; exact Nat.le_refl _)) (hod.trans hst hout) hid
        rcases hq with rfl | rfl
        · simp only at h
          split at h
          · rename_i hl
            simp only [Option.some.injEq, Prod.mk.injEq] at h
            obtain ⟨rfl, rfl⟩ := h
            exact hemp hl
          · rename_i hl
            split at h
            · rename_i hr
              simp only [Option.some.injEq, Prod.mk.injEq] at h
              obtain ⟨rfl, rfl⟩ := h
              exact hgrow (by omega) hr hX (hnew (by simp [Heap.new])) rfl
            · simp at h
        · simp only at h
          split at h
          · rename_i hl
            simp only [Option.some.injEq, Prod.mk.injEq] at h
            obtain ⟨rfl, rfl⟩ := h
            exact hemp hl
          · rename_i hl
            split at h
            · rename_i hr
              simp only [Option.some.injEq, Prod.mk.injEq] at h
              obtain ⟨rfl, rfl⟩ := h
              exact hgrow (by omega) hr hX (hnew (by simp [Heap.new])) rfl
            · simp at h

include hE in
theorem q_convert {H0 H' : Heap} (hst : St w G φ A) (hX0 : Ext H0 G) (hX : Ext H' G) (hnew : H0.bs.length < H'.bs.length → φ H0.bs.length = none) {src dst : TypeId} {x z : AV} {a : Value} (hx : R w G φ A x a)
    (h : (match (generalizing := false) E src, E dst, x with
    | some _, some td, .int _ n => match td.und with
      | .it k => some (AV.int k (k.wrap n), H0)
      | _ => none
    | some _, some td, .str l => match td.und with
      | .str => some (.str l, H0)
      | .sl e => match E e with
        | some te => match te.und with
          | .it .u8 => if te.sz = 1 ∧ te.bytes = 1 ∧ l.length ≤ 2 ^ 45 then some (.ref H0.bs.length H0.st 0 l.length, H0.new 1 false (l.map fun b => .int .u8 b.toNat)) else none
          | _ => none
        | none => none
      | _ => none
    | some ts, some td, x => match ts.und, td.und with
      | .sl e, .str => match E e with
        | some te => match te.und with
          | .it .u8 => match elemsOf H0 x with
            | some xs => if te.sz = 1 then (match ((bytesOf xs).map AV.str) with | some v => some (v, H0) | none => none) else none
            | none => none
          | _ => none
        | none => none
      | _, _ => none
    | _, _, _ => none) = some (z, H')) : QRes w G φ A H0 H' ((do pure (.value (← convert src dst a)) : Sem Next).run P w) z := by
  have hs0 : (∃ s, x = .str s) ∨ ∀ s, x ≠ .str s := by
    by_cases h : ∃ s, x = .str s
    · exact .inl h
    · exact .inr fun s hs => h ⟨s, hs⟩
  split at h
  · rename_i ts td k n h1 h2
    have e1 := hx.int_inv; subst e1
    split at h
    · rename_i k' hu
      simp only [Option.some.injEq, Prod.mk.injEq] at h
      obtain ⟨rfl, rfl⟩ := h
      obtain ⟨i, d, zz, _, hd, _⟩ := (hE _ _ h1).out
      refine QRes.val hst ?_ (.fr _ _ (.int _ _))
      simp only [Sem.run_bind, convert, run_underlying hd, (hE _ _ h2).und_it w hu, Result.andThen_ok]
      cases d <;> rfl
    · simp at h
  · rename_i ts td l h1 h2
    obtain ⟨s, rfl, rfl⟩ := hx.str_inv
    obtain ⟨i, d, zz, _, hd, _⟩ := (hE _ _ h1).out
    split at h
    · rename_i hu
      simp only [Option.some.injEq, Prod.mk.injEq] at h
      obtain ⟨rfl, rfl⟩ := h
      refine QRes.val hst ?_ hx
      simp only [Sem.run_bind, convert, run_underlying hd, (hE _ _ h2).und_str w hu, Result.andThen_ok]
      cases d <;> rfl
    · rename_i e hu
      split at h
      · rename_i te h3
        split at h
        · rename_i hue
          split at h
          · rename_i hc
            simp only [Option.some.injEq, Prod.mk.injEq] at h
            obtain ⟨rfl, rfl⟩ := h
            have hl : s.data.toList.length = s.size := Array.length_toList
            have hod := drewOut hst
            let q : Question := .appendCap s.size 0 e
            let cap := q.cut (w.tape w.drawn q)
            have hcap : s.size ≤ cap := Nat.le_add_right _ _
            let arr : Array Value := (s.data.map fun b => Value.int .u8 b.toNat) ++ Array.replicate (cap - s.size) (.int .u8 0)
            have harr : arr.size = cap := by
              simp only [arr, Array.size_append, Array.size_map, Array.size_replicate]
              have : s.data.size = s.size := rfl
              omega
            obtain ⟨φ', A', hout, hφ, hid⟩ := newOutF (arr := arr) (arr.size, arr.size + 1) e hod.st hX (hnew (by simp [Heap.new])) (fun i x hi => by
                simp only [List.getElem?_map, Option.map_eq_some_iff] at hi
                obtain ⟨c, _, rfl⟩ := hi; rfl) (by rw [List.length_map, hl, harr]; omega) (fun j hj h => by have := h.1; simp only at this; omega) (fun i x j y v hi hy hv => by
                simp only [List.getElem?_map, Option.map_eq_some_iff] at hi
                obtain ⟨c, hc, rfl⟩ := hi
                cases j with
                | zero =>
                  simp only [AV.cells, List.getElem?_cons_zero, Option.some.injEq] at hy; subst hy
                  simp only [Nat.mul_one, Nat.add_zero] at hv
                  have hi : i < s.data.size := by rw [← Array.length_toList]; exact (List.getElem?_eq_some_iff.1 hc).1
                  simp only [arr] at hv
                  rw [Array.getElem?_append_left (by simpa using hi)] at hv
                  simp only [Array.getElem?_map, Option.map_eq_some_iff] at hv
                  obtain ⟨c', hc', rfl⟩ := hv
                  have : s.data[i]? = some c := by simpa using hc
                  rw [this] at hc'
                  simp only [Option.some.injEq] at hc'; subst hc'
                  exact ⟨.fr _ _ (.int _ _), rfl⟩
                | succ j => simp [AV.cells] at hy)
            have hg := hX.1 _ _ (Heap.get_new H0 1 false (s.data.toList.map fun b => AV.int .u8 b.toNat))
            have hrun : (convert src dst (.string s)).run P w = .ok (.slice (some ⟨w.heap.size, 0, none⟩) s.size cap) (w.drew.alloc (.cells arr e (arr.size, arr.size + 1))) := by
              have e2 : (convert src dst (.string s)).run P w = (Conv.stringToBytes e s).run P w := by
                simp only [convert, Sem.run_bind, run_underlying hd, (hE _ _ h2).sl w hu, Result.andThen_ok]
                have := (hE _ _ h3).und_it w hue
                cases d <;> simp [this]
              rw [e2]
              unfold Conv.stringToBytes
              simp only [Sem.run_bind, run_choose, Question.forced, Bool.false_eq_true, if_false, World.drew_eq, Result.andThen_ok, newRow, run_newObj, World.alloc_eq, Sem.run_pure]
              have hsh : ((w.drew.alloc (.cells arr e)).shape? w.drew.heap.size) = some (e, arr.size) := by
                unfold World.shape?; rw [heap_alloc_new]
              simp only [markStringish, Sem.run_bind, run_shape, Result.andThen_ok]
              rw [show (w.drew.alloc (.cells ((s.data.map fun b => Value.int .u8 b.toNat) ++ Array.replicate (q.cut (w.tape w.drawn q) - s.size) (.int .u8 0)) e)) = w.drew.alloc (.cells arr e) from rfl]
              rw [hsh]
              simp only [run_freeze, Result.andThen_ok]
              congr 1
              unfold World.freeze
              simp only [Nat.one_ne_zero, if_false]
              have : ∀ (h : Array Obj) (o : Obj) (f : Obj → Obj), (h.push o).modify h.size f = h.push (f o) := by
                intro h o f
                apply Array.ext
                · simp
                · intro i h1 h2
                  simp only [Array.getElem_modify, Array.getElem_push]
                  simp at h1
                  by_cases hi : h.size = i
                  · subst hi; simp
                  · have : i < h.size := by omega
                    simp [hi, this]
              show ({ w.drew.alloc (.cells arr e) with heap := (w.drew.heap.push (.cells arr e)).modify w.drew.heap.size _ } : World) = _
              rw [this]
              rfl
            refine QRes.of (by simp [hrun]; rfl) ?_ (hod.trans hst hout) hid
            rw [hl]
            exact ref_new hg (Nat.lt_of_lt_of_le (Nat.lt_succ_self _) hX.2) hφ (by simp [hl]) hcap (by simp [hl]; exact hcap) (by
              have : bsz (w.drew.alloc (.cells arr e (arr.size, arr.size + 1))) w.heap.size = arr.size := by
                unfold bsz; rw [show w.heap.size = w.drew.heap.size from rfl, heap_alloc_new]
              rw [this, harr]; simp)
          · simp at h
        · simp at h
      · simp at h
    · simp at h
  · rename_i x o1 o2 x' ts td h1 h2 hnint hnstr
    replace hnstr : ∀ s, x ≠ AV.str s := by
      rcases hs0 with ⟨s, rfl⟩ | hn
      · exact (hnstr s rfl).elim
      · exact hn
    split at h
    · rename_i e hus hud
      split at h
      · rename_i te h3
        split at h
        · rename_i hue
          split at h
          · rename_i xs hxs
            split at h
            · split at h
              · rename_i v hv
                simp only [Option.some.injEq, Prod.mk.injEq] at h
                obtain ⟨rfl, rfl⟩ := h
                simp only [Option.map_eq_some_iff] at hv
                obtain ⟨l, hl, rfl⟩ := hv
                obtain ⟨u, hu, hr⟩ := q_toString hE hst hX0 hx hxs hl hnstr
                refine QRes.val hst ?_ hr
                have ha : ∃ a0 l0 c0, a = .slice a0 l0 c0 := by
                  obtain ⟨ns, hns, _⟩ := bytesOf_map hl
                  have hel := elems_at hst hX0 hx hxs (sz := 1) (by rw [hns]; simp [szAll, AV.cells]) hnstr
                  rcases hel.out with ⟨_, a0, c0, rfl⟩ | ⟨c, o, cap, arr, T, fr, rfl, _⟩
                  · exact ⟨_, _, _, rfl⟩
                  · exact ⟨_, _, _, rfl⟩
                obtain ⟨a0, l0, c0, rfl⟩ := ha
                have e3 := (hE _ _ h3).und_it w hue
                simp only [Sem.run_bind, convert, (hE _ _ h1).sl w hus, (hE _ _ h2).und_str w hud, Result.andThen_ok]
                cases a0 <;> simp [e3, hu]
              · simp at h
            · simp at h
          · simp at h
        · simp at h
      · simp at h
    · simp at h
  · simp at h
end ops
end Go.VS

/-
  VS, part 14: all quiet operations in one theorem.
-/
namespace Go.VS

section ops
variable {P : Program} {E : TEnv} (hE : ∀ t ti, E t = some ti → TyOK P t ti)
variable {w : World} {G : Heap} {φ : Phi} {A : Avoid}

theorem QRes.ofVal {H0 H' : Heap} {sv : Sem Value} {x : AV} (hst : St w G φ A) (h : ∃ v, sv.run P w = .ok v w ∧ R w G φ A x v) : QRes w G φ A H0 H' ((do pure (.value (← sv)) : Sem Next).run P w) x := by
  obtain ⟨v, hv, hx⟩ := h
  exact QRes.val hst (by simp [hv]) hx

include hE in
theorem simQuiet {H0 H' : Heap} (hst : St w G φ A) (hX0 : Ext H0 G) (hX : Ext H' G) (hnew : H0.bs.length < H'.bs.length → φ H0.bs.length = none) {o : Oper} {s : Frm} {ρ : Operand → Value} {z : AV} (hq : quietOp o.op = true)
    (hρ : ∀ y ∈ o.op.operands, R w G φ A (ev s y) (ρ y)) (h : evalOp E o.op s H0 = some (z, H')) : QRes w G φ A H0 H' ((execOp ρ o).run P w) z := by
  obtain ⟨dst, op, type, pos, after, guard⟩ := o
  simp only at hq hρ h
  cases op with
  | move x =>
    simp only [evalOp, Option.some.injEq, Prod.mk.injEq] at h
    obtain ⟨rfl, rfl⟩ := h
    exact QRes.val hst rfl (hρ x (by simp [Op.operands]))
  | assign x =>
    simp only [evalOp, Option.some.injEq, Prod.mk.injEq] at h
    obtain ⟨rfl, rfl⟩ := h
    exact QRes.val hst rfl (hρ x (by simp [Op.operands]))
  | pick c a b =>
    have hc := hρ c (by simp [Op.operands])
    have ha := hρ a (by simp [Op.operands])
    have hb := hρ b (by simp [Op.operands])
    simp only [evalOp] at h
    split at h
    · rename_i t ht
      rw [ht] at hc
      have e1 := hc.bool_inv
      simp only [Option.some.injEq, Prod.mk.injEq] at h
      obtain ⟨rfl, rfl⟩ := h
      refine QRes.val hst (v := if t then ρ a else ρ b) (by simp [execOp, asBool, e1]) ?_
      cases t
      · exact hb
      · exact ha
    · simp at h
  | binOp op t x y ty =>
    have hx := hρ x (by simp [Op.operands])
    have hy := hρ y (by simp [Op.operands])
    simp only [evalOp] at h
    have key : ∀ z, binA E op t (ev s x) (ev s y) = some z → ((∃ u, y = .const u) ∨ ∀ e, ev s y ≠ .errv e) → QRes w G φ A H0 H0 ((execOp ρ { dst, op := .binOp op t x y ty, type, pos, after, guard }).run P w) z :=
      fun z hz hc => QRes.ofVal hst (bin_ok hE hx hy x y hc hz)
    split at h
    · rename_i u
      split at h
      · rename_i v hv
        simp only [Option.some.injEq, Prod.mk.injEq] at h
        obtain ⟨rfl, rfl⟩ := h
        exact key _ hv (.inl ⟨u, rfl⟩)
      · simp at h
    · split at h
      · simp at h
      · rename_i he
        split at h
        · rename_i v hv
          simp only [Option.some.injEq, Prod.mk.injEq] at h
          obtain ⟨rfl, rfl⟩ := h
          exact key _ hv (.inr he)
        · simp at h
  | unOp op t x =>
    have hx := hρ x (by simp [Op.operands])
    simp only [evalOp] at h
    split at h
    · rename_i v hv
      simp only [Option.some.injEq, Prod.mk.injEq] at h
      obtain ⟨rfl, rfl⟩ := h
      exact QRes.ofVal hst (un_ok P hx hv)
    · simp at h
  | extract x i =>
    have hx := hρ x (by simp [Op.operands])
    simp only [evalOp] at h
    split at h
    · rename_i vs hvs
      rw [hvs] at hx
      obtain ⟨us, hus, hl, hp⟩ := hx.tup_inv
      split at h
      · rename_i v hv
        simp only [Option.some.injEq, Prod.mk.injEq] at h
        obtain ⟨rfl, rfl⟩ := h
        have hi : i < us.size := by rw [← hl]; exact (List.getElem?_eq_some_iff.1 hv).1
        exact QRes.ofVal hst ⟨us[i], by simp [Instr.extract, hus, Array.getElem?_eq_getElem hi], hp i _ _ hv (Array.getElem?_eq_getElem hi)⟩
      · simp at h
    · simp at h
  | nilCheck x =>
    have hx := hρ x (by simp [Op.operands])
    simp only [evalOp] at h
    split at h
    · rename_i a b c d hv
      rw [hv] at hx
      split at h
      · rename_i bl hb
        simp only [Option.some.injEq, Prod.mk.injEq] at h
        obtain ⟨rfl, rfl⟩ := h
        obtain ⟨_, _, hp⟩ := hx.ptr_inv
        obtain ⟨c0, b0, _, hvv⟩ := hp _ (hX0.blk hb)
        exact QRes.val hst (by simp only [execOp, hvv]; rfl) (by rw [hvv] at hx; exact hx)
      · simp at h
    · rename_i y o hv
      rw [hv] at hx
      simp only [Option.some.injEq, Prod.mk.injEq] at h
      obtain ⟨rfl, rfl⟩ := h
      obtain ⟨c, p, arr, T, fr, hvv, _⟩ := fe_inv hx.fe_inv
      exact QRes.val hst (by simp only [execOp, hvv]; rfl) (by rw [hvv] at hx; exact hx)
    · simp at h
  | convert src dst x =>
    have hx := hρ x (by simp [Op.operands])
    simp only [evalOp] at h
    exact q_convert hE hst hX0 hX hnew hx h
  | field t x f =>
    have hx := hρ x (by simp [Op.operands])
    simp only [evalOp] at h
    exact QRes.ofVal hst (q_field hE hx h)
  | fieldAddr t x f =>
    have hx := hρ x (by simp [Op.operands])
    simp only [evalOp] at h
    exact QRes.ofVal hst (q_fieldAddr hE hX0 hx h)
  | indexAddr t x i =>
    have hx := hρ x (by simp [Op.operands])
    have hi := hρ i (by simp [Op.operands])
    simp only [evalOp] at h
    exact QRes.ofVal hst (q_indexAddr hE hX0 hx hi h)
  | index t x i =>
    have hx := hρ x (by simp [Op.operands])
    have hi := hρ i (by simp [Op.operands])
    simp only [evalOp] at h
    exact QRes.ofVal hst (q_index hE hx hi h)
  | load t x =>
    have hx := hρ x (by simp [Op.operands])
    simp only [evalOp] at h
    exact QRes.ofVal hst (q_load hE hst hX0 hx h)
  | alloc t =>
    simp only [evalOp] at h
    exact q_alloc hE hst hX hnew h
  | box t x =>
    have hx := hρ x (by simp [Op.operands])
    simp only [evalOp] at h
    exact q_box hE hst hX hnew hx h
  | build t parts =>
    have hp : ∀ p ∈ parts.toList, R w G φ A (ev s p.2) (ρ p.2) := fun p hp => hρ p.2 (by simp [Op.operands]; exact ⟨p.1, by simpa using hp⟩)
    simp only [evalOp] at h
    exact QRes.ofVal hst (q_build hE hp h)
  | buildSlice t len parts =>
    have hp : ∀ p ∈ parts.toList, R w G φ A (ev s p.2) (ρ p.2) := fun p hp => hρ p.2 (by simp [Op.operands]; exact ⟨p.1, by simpa using hp⟩)
    simp only [evalOp] at h
    exact q_buildSlice hE hst hX hnew hp h
  | makeSlice t l c =>
    have hl := hρ l (by simp [Op.operands])
    have hc := hρ c (by simp [Op.operands])
    simp only [evalOp] at h
    exact q_makeSlice hE hst hX hnew hl hc h
  | slice t x lo hi mx =>
    have hx := hρ x (by simp [Op.operands])
    have bok : ∀ (q : Option Operand) (r : Option Int), (∀ y, q = some y → R w G φ A (ev s y) (ρ y)) → intOp (q.map (ev s)) = some r → BOK r (q.map ρ) := by
      intro q r hq hr
      refine bok_of (w := w) (G := G) (φ := φ) (A := A) hr ?_
      cases q with
      | none => exact .inl ⟨rfl, rfl⟩
      | some y => exact .inr ⟨_, _, rfl, rfl, hq y rfl⟩
    simp only [evalOp] at h
    split at h
    · rename_i l' h' m' e1 e2 e3
      split at h
      · rename_i v hv
        simp only [Option.some.injEq, Prod.mk.injEq] at h
        obtain ⟨rfl, rfl⟩ := h
        refine QRes.ofVal hst (q_slice hE hX0 hx (bok lo l' (fun y hy => hρ y ?_) e1) (bok hi h' (fun y hy => hρ y ?_) e2) (bok mx m' (fun y hy => hρ y ?_) e3) hv) <;> simp [Op.operands, hy]
      · simp at h
    · simp at h
  | makeFunc fn first cap =>
    cases fn with
    | func f =>
      simp only [evalOp] at h
      split at h
      · rename_i hf
        simp only [Option.some.injEq, Prod.mk.injEq] at h
        obtain ⟨rfl, rfl⟩ := h
        have hfe : first = #[] := Array.eq_empty_of_size_eq_zero hf
        subst hfe
        refine QRes.ofVal hst ⟨.func (.func f) #[] (cap.map ρ), by simp [Instr.makeFunc], R.fn f (cap.toList.map (ev s)) (cap.map ρ) (by simp) fun i x v hx hv => ?_⟩
        simp only [List.getElem?_map, Option.map_eq_some_iff, Array.getElem?_map, Array.getElem?_toList] at hx hv
        obtain ⟨y, hy, rfl⟩ := hx
        obtain ⟨y', hy', rfl⟩ := hv
        rw [hy] at hy'
        simp only [Option.some.injEq] at hy'; subst hy'
        exact hρ y (by simp [Op.operands]; exact Array.mem_of_getElem? hy)
      · simp at h
    | _ => simp [evalOp] at h
  | _ => simp [quietOp] at hq
end ops
end Go.VS

/-
  VS, part 15: what writes: stores, append, copy, clear.
-/
namespace Go.VS

/-- One row of cells has turned. -/
structure Upd (w : World) (c : Nat) (o : Obj) (w' : World) : Prop where
  here : w'.heap[c]? = some o
  other : ∀ k, k ≠ c → w'.heap[k]? = w.heap[k]?
  size : w'.heap.size = w.heap.size
  os : w'.os = w.os
  tape : w'.tape = w.tape
  output : w'.output = w.output

theorem setCell_upd {w : World} {c : Nat} {arr : Array Value} {T : TypeId} {fr : Nat × Nat} (h : w.heap[c]? = some (.cells arr T fr)) (p : Nat) (v : Value) :
    Upd w c (.cells (arr.setIfInBounds p v) T fr) (w.setCell ⟨c, p, none⟩ v) := by
  refine ⟨?_, fun k hk => ?_, by simp, rfl, rfl, rfl⟩
  · simp only [World.setCell, Array.getElem?_modify, if_true, h, Option.map_some]; rfl
  · simp only [World.setCell, Array.getElem?_modify]
    rw [if_neg (fun e => hk e.symm)]

/-- Cells written one behind the other. -/
theorem run_storeCells (P : Program) (c p : Nat) (T : TypeId) (fr : Nat × Nat) : ∀ (vs : List Value) (i : Nat) (arr : Array Value) (w : World), w.heap[c]? = some (.cells arr T fr) →
    (∀ j, j < arr.size → ¬ (fr.1 ≤ j ∧ j < fr.2)) → p + i + vs.length ≤ arr.size → (∀ u ∈ vs, u.oneCell' = true) →
    ∃ w' arr', (storeCells ⟨c, p, none⟩ vs i).run P w = .ok () w' ∧ Upd w c (.cells arr' T fr) w' ∧ arr'.size = arr.size ∧
      ∀ m, arr'[m]? = if p + i ≤ m ∧ m < p + i + vs.length then vs[m - (p + i)]? else arr[m]?
  | [], i, arr, w, h, _, _, _ => ⟨w, arr, by simp [storeCells], ⟨h, fun _ _ => rfl, rfl, rfl, rfl, rfl⟩, rfl, fun m => by rw [if_neg (by simp only [List.length_nil]; omega)]⟩
  | v :: vs, i, arr, w, h, hf, hl, ho => by
    simp only [List.length_cons] at hl
    have hlt : p + i < arr.size := by omega
    have hc : w.cell? ⟨c, p + i, none⟩ = some arr[p + i] := by rw [cell_at h]; exact Array.getElem?_eq_getElem hlt
    have hfr : w.frozen? ⟨c, p + i, none⟩ = false := by
      unfold World.frozen?
      simp only [h]
      have := hf (p + i) hlt
      simp only [Bool.and_eq_false_iff, decide_eq_false_iff_not]
      by_cases h1 : fr.1 ≤ p + i
      · right; exact fun h2 => this ⟨h1, h2⟩
      · left; exact h1
    have hu := setCell_upd h (p + i) v
    obtain ⟨w', arr', e1, e2, e3, e4⟩ := run_storeCells P c p T fr vs (i + 1) (arr.setIfInBounds (p + i) v) (w.setCell ⟨c, p + i, none⟩ v) hu.here (by simpa using hf) (by simp; omega) (fun u hu => ho u (by simp [hu]))
    refine ⟨w', arr', ?_, ⟨e2.here, fun k hk => (e2.other k hk).trans (hu.other k hk), e2.size.trans hu.size, e2.os.trans hu.os, e2.tape.trans hu.tape, e2.output.trans hu.output⟩, by rw [e3]; simp, fun m => ?_⟩
    · simp only [storeCells, Sem.run_bind, add_none, run_store P w ⟨c, p + i, none⟩ v .plain (ho v (by simp)), hc, hfr, Bool.false_eq_true, if_false, Result.andThen_ok]
      exact e1
    · rw [e4, Array.getElem?_setIfInBounds]
      simp only [List.length_cons]
      by_cases hm : m = p + i
      · subst hm
        rw [if_neg (by omega)]
        simp only [if_true]
        rw [if_pos hlt, if_pos (by omega)]
        simp
      · by_cases hm2 : p + (i + 1) ≤ m ∧ m < p + (i + 1) + vs.length
        · rw [if_pos hm2, if_pos (by omega)]
          obtain ⟨q, rfl⟩ : ∃ q, m = p + i + 1 + q := ⟨m - (p + i + 1), by omega⟩
          have e1 : p + i + 1 + q - (p + (i + 1)) = q := by omega
          have e2 : p + i + 1 + q - (p + i) = q + 1 := by omega
          rw [e1, e2]; rfl
        · rw [if_neg hm2, if_neg (by omega), if_neg (by omega)]

theorem Heap.get_upd {H : Heap} {id : Nat} {b0 b : Blk} (h : H.get id = some b0) (k : Nat) : (H.upd id b).get k = if k = id then some b else H.get k := by
  have hlt := Heap.get_lt h
  unfold Heap.upd Heap.get
  simp only [List.getElem?_set]
  by_cases hk : id = k
  · subst hk; simp [hlt]
  · rw [if_neg hk, if_neg (fun e => hk e.symm)]

section ops
variable {P : Program} {E : TEnv}
variable {w : World} {H : Heap} {φ : Phi} {A : Avoid}

def MRes (w : World) (H : Heap) (φ : Phi) (A : Avoid) (H' : Heap) (r : Result Next) (x : AV) : Prop :=
  ∃ n v w' φ' A', r = .ok n w' ∧ (n = .value v ∨ (n = .skip ∧ v = undef)) ∧ R w' H' φ' A' x v ∧ Out w H φ A w' H' φ' A'

/-- A block whose cells have turned, in place. -/
theorem updOut (hst : St w H φ A) {id : Nat} {b b' : Blk} {c b0 : Nat} (hg : H.get id = some b) (hφ : φ id = some (.at_ c b0)) (hv : b'.ver = b.ver) (hs : b'.sz = b.sz) (hf : b'.fix = b.fix) (hl : b'.el.length = b.el.length)
    {arr arr' : Array Value} {T : TypeId} {fr : Nat × Nat} {w' : World} (hc : w.heap[c]? = some (.cells arr T fr)) (hu : Upd w c (.cells arr' T fr) w') (hsz : arr'.size = arr.size)
    (hsd : ∀ (i : Nat) (x : AV), b'.el[i]? = some x → x.cells.length = b.sz)
    (hcells : ∀ (i : Nat) (x : AV) (j : Nat) (y : AV) (v : Value), b'.el[i]? = some x → x.cells[j]? = some y → arr'[b0 + i * b.sz + j]? = some v → R w H φ A y v ∧ v.oneCell' = true) :
    Out w H φ A w' (H.upd id b') φ A := by
  have hbsz : ∀ k, bsz w' k = bsz w k := by
    intro k
    unfold bsz
    by_cases hk : k = c
    · subst hk; rw [hu.here, hc]; exact hsz
    · rw [hu.other k hk]
  have hpost : Post w φ w' φ := ⟨hu.os, hu.tape, hu.output, by rw [hu.size]; exact Nat.le_refl _, fun k _ hk => hu.other k (fun e => hk (e ▸ ⟨id, b0, hφ⟩)), fun k _ => hbsz k, fun k hk => .inl hk⟩
  have hevo : Evo w H φ A w' (H.upd id b') φ A := by
    refine ⟨fun k a t r hk hn => ⟨⟨r, by rw [hu.other k (fun e => hn (e ▸ hst.own c ⟨id, b0, hφ⟩))]; exact hk⟩, hn⟩, Nat.le_refl _, fun i bb hb _ => ?_, fun k _ => hbsz k⟩
    rw [Heap.get_upd hg] at hb
    split at hb
    · rename_i hi; subst hi
      simp only [Option.some.injEq] at hb; subst hb
      exact ⟨b, hg, hv.symm, hs, hf, hl, fun loc h => h⟩
    · exact ⟨bb, hb, rfl, rfl, rfl, rfl, fun loc h => h⟩
  refine ⟨⟨hst.inj, hst.own, fun k hk => by rw [hu.size]; exact hst.bnd k hk, fun i loc hl' => ?_⟩, hpost, hevo, fun k hk _ => hk⟩
  obtain ⟨bb, hgb, hok⟩ := hst.blk i loc hl'
  by_cases hi : i = id
  · subst hi
    rw [hg] at hgb
    simp only [Option.some.injEq] at hgb; subst hgb
    rw [hφ] at hl'
    simp only [Option.some.injEq] at hl'; subst hl'
    obtain ⟨a0, t0, r0, k1, k2, k3, k4⟩ := hok.here c b0 rfl
    rw [hc] at k1
    simp only [Option.some.injEq, Obj.cells.injEq] at k1
    obtain ⟨rfl, rfl, rfl⟩ := k1
    refine ⟨b', by rw [Heap.get_upd hg, if_pos rfl], by rw [hv]; exact hok.ver, fun j x hx => by rw [hs]; exact hsd j x hx, by simp, fun c' b1 he => ?_⟩
    simp only [Loc.at_.injEq] at he
    obtain ⟨rfl, rfl⟩ := he
    refine ⟨arr', T, fr, hu.here, by rw [hsz]; exact k2, by rw [hl, hs, hsz]; exact k3, fun j x m y v hx hy hvv => ?_⟩
    rw [hs] at hvv
    obtain ⟨h1, h2⟩ := hcells j x m y v hx hy hvv
    exact ⟨h1.mono hevo, h2⟩
  · refine ⟨bb, by rw [Heap.get_upd hg, if_neg hi]; exact hgb, hok.ver, hok.sized, hok.virt, fun c' b1 he => ?_⟩
    subst he
    have hne : c' ≠ c := by rintro rfl; exact hi (hst.inj _ _ _ _ _ hl' hφ)
    obtain ⟨a0, t0, r0, k1, k2, k3, k4⟩ := hok.here c' b1 rfl
    exact ⟨a0, t0, r0, by rw [hu.other c' hne]; exact k1, k2, k3, fun j x m y v hx hy hvv => ⟨(k4 j x m y v hx hy hvv).1.mono hevo, (k4 j x m y v hx hy hvv).2⟩⟩

/-- A block that has got a new life: other elements, maybe elsewhere in memory. -/
theorem growOut (hst : St w H φ A) {id : Nat} {b b' : Blk} (hg : H.get id = some b) (hv : b'.ver = H.st)
    {c b0 : Nat} {arr' : Array Value} {T : TypeId} {fr : Nat × Nat} {w' : World} (hc : Ow φ c ∧ (∃ bx, φ id = some (.at_ c bx)) ∨ w.heap.size ≤ c) (hu : w'.heap[c]? = some (.cells arr' T fr))
    (hoth : ∀ k, k < w.heap.size → k ≠ c → w'.heap[k]? = w.heap[k]?) (hsize : w.heap.size ≤ w'.heap.size) (hos : w'.os = w.os) (htape : w'.tape = w.tape) (hout : w'.output = w.output)
    (hbs : c < w.heap.size → arr'.size = bsz w c) (hfr : ∀ j, j < arr'.size → ¬ (fr.1 ≤ j ∧ j < fr.2)) (hfit : b0 + b'.el.length * b'.sz ≤ arr'.size)
    (hsd : ∀ (i : Nat) (x : AV), b'.el[i]? = some x → x.cells.length = b'.sz)
    (hcells : ∀ (i : Nat) (x : AV) (j : Nat) (y : AV) (v : Value), b'.el[i]? = some x → x.cells[j]? = some y → arr'[b0 + i * b'.sz + j]? = some v → R w H φ A y v ∧ v.oneCell' = true) :
    Out w H φ A w' ⟨H.st + 1, H.bs.set id (some b')⟩ (fun i => if i = id then some (.at_ c b0) else φ i) (fun k => A k ∨ k = c) := by
  have hget : ∀ k, (Heap.mk (H.st + 1) (H.bs.set id (some b'))).get k = if k = id then some b' else H.get k := fun k => Heap.get_upd hg k
  have hbsz : ∀ k, k < w.heap.size → bsz w' k = bsz w k := by
    intro k hk
    by_cases hkc : k = c
    · subst hkc; rw [← hbs hk]; unfold bsz; rw [hu]
    · unfold bsz; rw [hoth k hk hkc]
  have hOw : ∀ k, Ow (fun i => if i = id then some (.at_ c b0) else φ i) k → Ow φ k ∨ k = c := by
    rintro k ⟨i, bb, h⟩
    try simp only at h
    split at h
    · simp only [Option.some.injEq, Loc.at_.injEq] at h; exact .inr h.1.symm
    · exact .inl ⟨i, bb, h⟩
  have hcl : c < w'.heap.size := lt_of_heap hu
  have hpost : Post w φ w' (fun i => if i = id then some (.at_ c b0) else φ i) := by
    refine ⟨hos, htape, hout, hsize, fun k hk hn => hoth k hk (fun e => ?_), hbsz, fun k hk => ?_⟩
    · subst e
      rcases hc with h | h
      · exact hn h.1
      · omega
    · rcases hOw k hk with h | rfl
      · exact .inl h
      · rcases hc with h | h
        · exact .inl h.1
        · exact .inr h
  have hevo : Evo w H φ A w' ⟨H.st + 1, H.bs.set id (some b')⟩ (fun i => if i = id then some (.at_ c b0) else φ i) (fun k => A k ∨ k = c) := by
    refine ⟨fun k a t r hk hn => ?_, Nat.le_succ _, fun i bb hb hlt => ?_, fun k hk => hbsz k (Ow.lt hst hk)⟩
    · have hlt := lt_of_heap hk
      have hkc : k ≠ c := by
        rintro rfl
        rcases hc with h | h
        · exact hn (hst.own _ h.1)
        · omega
      exact ⟨⟨r, by rw [hoth k hlt hkc]; exact hk⟩, fun h => by rcases h with h | h; exact hn h; exact hkc h⟩
    · rw [hget] at hb
      split at hb
      · simp only [Option.some.injEq] at hb; subst hb; omega
      · rename_i hi
        exact ⟨bb, hb, rfl, rfl, rfl, rfl, fun loc h => by rw [if_neg hi]; exact h⟩
  refine ⟨⟨fun i i' k b1 b2 h1 h2 => ?_, fun k hk => ?_, fun k hk => ?_, fun i loc hl' => ?_⟩, hpost, hevo, fun k hk _ => .inl hk⟩
  · try simp only at h1 h2
    have key : ∀ {i k b1}, i ≠ id → φ i = some (.at_ k b1) → k ≠ c := by
      rintro i k b1 hi h rfl
      rcases hc with ⟨_, bx, h2⟩ | h2
      · exact hi (hst.inj _ _ _ _ _ h h2)
      · have := Ow.lt hst ⟨i, b1, h⟩; omega
    split at h1
    · rename_i hi
      split at h2
      · rename_i hi'; omega
      · rename_i hi'
        simp only [Option.some.injEq, Loc.at_.injEq] at h1
        exact absurd h1.1.symm (key hi' h2)
    · rename_i hi
      split at h2
      · simp only [Option.some.injEq, Loc.at_.injEq] at h2
        exact absurd h2.1.symm (key hi h1)
      · exact hst.inj _ _ _ _ _ h1 h2
  · rcases hOw k hk with h | h
    · exact .inl (hst.own k h)
    · exact .inr h
  · rcases hk with h | rfl
    · have := hst.bnd k h; omega
    · exact hcl
  · try simp only at hl'
    split at hl'
    · rename_i hi; subst hi
      simp only [Option.some.injEq] at hl'; subst hl'
      refine ⟨b', by rw [hget, if_pos rfl], by rw [hv]; exact Nat.lt_succ_self _, hsd, by simp, fun c' b1 he => ?_⟩
      simp only [Loc.at_.injEq] at he
      obtain ⟨rfl, rfl⟩ := he
      refine ⟨arr', T, fr, hu, hfr, hfit, fun j x m y v hx hy hvv => ?_⟩
      obtain ⟨h1, h2⟩ := hcells j x m y v hx hy hvv
      exact ⟨h1.mono hevo, h2⟩
    · rename_i hi
      obtain ⟨bb, hgb, hok⟩ := hst.blk i loc hl'
      refine ⟨bb, by rw [hget, if_neg hi]; exact hgb, Nat.lt_succ_of_lt hok.ver, hok.sized, hok.virt, fun c' b1 he => ?_⟩
      subst he
      have hne : c' ≠ c := by
        rintro rfl
        rcases hc with ⟨_, bx, h2⟩ | h2
        · exact hi (hst.inj _ _ _ _ _ hl' h2)
        · have := Ow.lt hst ⟨i, b1, hl'⟩; omega
      obtain ⟨a0, t0, r0, k1, k2, k3, k4⟩ := hok.here c' b1 rfl
      exact ⟨a0, t0, r0, by rw [hoth c' (lt_of_heap k1) hne]; exact k1, k2, k3, fun j x m y v hx hy hvv => ⟨(k4 j x m y v hx hy hvv).1.mono hevo, (k4 j x m y v hx hy hvv).2⟩⟩
end ops
end Go.VS

/-
  VS, part 16: what writes, against the machine.
-/
namespace Go.VS

theorem wrAt_cells {y v y' : AV} {off : Nat} (h : wrAt y off v = some y') (hv : storA v = true) : off + v.cells.length ≤ y.cells.length ∧ y'.cells = splice y.cells off v.cells := by
  cases y with
  | agg cs =>
    simp only [wrAt] at h
    split at h
    · rename_i hle
      simp only [Option.some.injEq] at h; subst h
      exact ⟨hle, rfl⟩
    · simp at h
  | undef => simp [wrAt] at h
  | _ =>
    cases v <;> simp only [wrAt] at h <;> first
      | (simp at h; done)
      | (simp [storA, stor1] at hv; done)
      | (split at h
         · rename_i ho
           simp only [Option.some.injEq] at h; subst h; subst ho
           exact ⟨by simp [AV.cells], by simp [AV.cells, splice]⟩
         · simp at h)

section ops
variable {P : Program} {E : TEnv} (hE : ∀ t ti, E t = some ti → TyOK P t ti)
variable {w : World} {H : Heap} {φ : Phi} {A : Avoid}

include hE in
theorem m_store {H' : Heap} (hst : St w H φ A) {t : TypeId} {x v z : AV} {a u : Value} (hx : R w H φ A x a) (hv : R w H φ A v u)
    (h : (match (generalizing := false) E t with
    | some ti => match (generalizing := false) x with
      | .ptr id ver idx off => match H.blk id ver with
        | some b => match b.el[idx]? with
          | some y => if v.cells.length = ti.sz ∧ storA v then match wrAt y off v with
              | some y' => some (AV.tup [], H.upd id { b with el := b.el.set idx y' })
              | none => none
            else none
          | none => none
        | none => none
      | _ => none
    | none => none) = some (z, H')) : MRes w H φ A H' ((do Instr.storeAt t a u; pure .skip : Sem Next).run P w) z := by
  split at h
  · rename_i ti h1
    split at h
    · rename_i id ver idx off
      split at h
      · rename_i b hb
        split at h
        · rename_i y hy
          split at h
          · rename_i hc
            split at h
            · rename_i y' hw
              simp only [Option.some.injEq, Prod.mk.injEq] at h
              obtain ⟨rfl, rfl⟩ := h
              obtain ⟨_, _, hp⟩ := hx.ptr_inv
              obtain ⟨c, b0, hφ, rfl⟩ := hp b hb
              obtain ⟨b1, hg1, hok⟩ := hst.blk id _ hφ
              have hg := (Heap.blk_get hb).1
              rw [hg] at hg1
              simp only [Option.some.injEq] at hg1; subst hg1
              obtain ⟨arr, T, fr, k1, k2, k3, k4⟩ := hok.here c b0 rfl
              obtain ⟨w1, w2⟩ := wrAt_cells hw hc.2
              obtain ⟨m1, m2⟩ := hv.cells (storA_ne hc.2)
              have m3 := hv.ones hc.2
              have hil : idx < b.el.length := (List.getElem?_eq_some_iff.1 hy).1
              have hle := mul_lt_le (n := b.sz) hil
              have hys := hok.sized idx y hy
              obtain ⟨w', arr', e1, e2, e3, e4⟩ := run_storeCells P c (b0 + idx * b.sz + off) T fr u.cells.toList 0 arr w k1 k2 (by simp; omega) (fun q hq => by
                obtain ⟨k, hk⟩ := List.getElem?_of_mem hq
                exact m3 k q (by simpa using hk))
              have hy'l : y'.cells.length = b.sz := by rw [w2, splice_len _ _ _ w1, hys]
              have hset : ∀ (i : Nat) (q : AV), (b.el.set idx y')[i]? = some q → (i = idx ∧ q = y') ∨ (i ≠ idx ∧ b.el[i]? = some q) := by
                intro i q hq
                rw [List.getElem?_set] at hq
                split at hq
                · rename_i hi
                  first
                    | (rw [if_pos hil] at hq; simp only [Option.some.injEq] at hq; exact .inl ⟨hi.symm, hq.symm⟩)
                    | (simp only [Option.some.injEq] at hq; exact .inl ⟨hi.symm, hq.symm⟩)
                · rename_i hi; exact .inr ⟨fun e => hi e.symm, hq⟩
              have hout := updOut (b' := { b with el := b.el.set idx y' }) hst hg hφ rfl rfl rfl (by simp) k1 e2 e3
                (fun i q hq => by rcases hset i q hq with ⟨rfl, rfl⟩ | ⟨_, hq⟩; exact hy'l; exact hok.sized i q hq)
                (fun i q j s v' hq hs hv' => by
                  rw [e4] at hv'
                  simp only [Nat.add_zero, Array.length_toList] at hv'
                  rcases hset i q hq with ⟨rfl, rfl⟩ | ⟨hne, hq⟩
                  · rw [w2, splice_get _ _ _ w1] at hs
                    rw [m1] at hs
                    by_cases hj : off ≤ j ∧ j < off + u.cells.size
                    · rw [if_pos hj] at hs
                      rw [if_pos (by omega)] at hv'
                      have e5 : b0 + i * b.sz + j - (b0 + i * b.sz + off) = j - off := by omega
                      rw [e5] at hv'
                      exact ⟨m2 _ _ _ hs (by simpa using hv'), m3 _ _ (by simpa using hv')⟩
                    · rw [if_neg hj] at hs
                      rw [if_neg (by omega)] at hv'
                      exact k4 i y j s v' hy hs hv'
                  · have hil2 : i < b.el.length := (List.getElem?_eq_some_iff.1 hq).1
                    have hjl : j < q.cells.length := (List.getElem?_eq_some_iff.1 hs).1
                    have hql := hok.sized i q hq
                    rw [if_neg (by
                      intro hh
                      rcases Nat.lt_or_gt_of_ne hne with h1 | h1
                      · have := mul_lt_le (n := b.sz) h1; omega
                      · have := mul_lt_le (n := b.sz) h1; omega)] at hv'
                    exact k4 i q j s v' hq hs hv')
              refine ⟨.skip, undef, w', φ, A, ?_, .inr ⟨rfl, rfl⟩, .fr _ _ (.tup [] #[] rfl (by simp)), hout⟩
              have hsz : ¬ (u.cells.size ≠ ti.sz) := by rw [← m1]; simp [hc.1]
              simp only [Instr.storeAt, Instr.sureAddr, storeVar, Sem.run_bind, Sem.run_pure, Result.andThen_ok, (hE _ _ h1).sizeOf, hsz, if_false, e1]
            · simp at h
          · simp at h
        · simp at h
      · simp at h
    · simp at h
  · simp at h

/-- A slice in the heap that is written from a place on. -/
theorem span_ok (hst : St w H φ A) {id ver off len : Nat} {a : Value} (hx : R w H φ A (.ref id ver off len) a) {b : Blk} (hb : H.blk id ver = some b) {at_ n : Nat} (h1 : at_ + n ≤ b.el.length) (h2 : off ≤ at_) (hn : 0 < n) (_hlen : 0 < len ∨ b.el.length ≤ off + len ∨ True)
    {xs : List AV} (hxl : xs.length = n) {cs : Array Value} (hsz : cs.size = n * b.sz) (hone : ∀ u ∈ cs.toList, u.oneCell' = true) (hsd : ∀ (i : Nat) (x : AV), xs[i]? = some x → x.cells.length = b.sz)
    (hrel : ∀ (i : Nat) (x : AV) (j : Nat) (y : AV) (u : Value), xs[i]? = some x → x.cells[j]? = some y → cs[i * b.sz + j]? = some u → R w H φ A y u ∧ u.oneCell' = true) :
    ∃ c b0 cap w', φ id = some (.at_ c b0) ∧ a = .slice (some ⟨c, b0 + off * b.sz, none⟩) len cap ∧ b.el.length ≤ off + cap ∧ (storeCells ⟨c, b0 + at_ * b.sz, none⟩ cs.toList).run P w = .ok () w' ∧
      Out w H φ A w' (H.upd id { b with el := splice b.el at_ xs }) φ A := by
  obtain ⟨_, _, hr⟩ := hx.ref_inv
  obtain ⟨loc, a0, cap, q1, rfl, q3, q4, q5, q6⟩ := (hr b hb).out
  cases loc with
  | virt => simp only at q6; rw [q6.1] at h1; simp at h1; omega
  | at_ c b0 =>
    simp only at q6
    rcases q6 with q6 | ⟨rfl, q7⟩
    · omega
    · obtain ⟨b1, hg1, hok⟩ := hst.blk id _ q1
      have hg := (Heap.blk_get hb).1
      rw [hg] at hg1
      simp only [Option.some.injEq] at hg1; subst hg1
      obtain ⟨arr, T, fr, k1, k2, k3, k4⟩ := hok.here c b0 rfl
      have hle : at_ * b.sz + n * b.sz ≤ b.el.length * b.sz := by rw [← Nat.add_mul]; exact Nat.mul_le_mul_right _ h1
      obtain ⟨w', arr', e1, e2, e3, e4⟩ := run_storeCells P c (b0 + at_ * b.sz) T fr cs.toList 0 arr w k1 k2 (by simp [hsz]; omega) hone
      have hsp : ∀ (i : Nat) (q : AV), (splice b.el at_ xs)[i]? = some q → (at_ ≤ i ∧ i < at_ + n ∧ xs[i - at_]? = some q) ∨ (¬ (at_ ≤ i ∧ i < at_ + n) ∧ b.el[i]? = some q) := by
        intro i q hq
        rw [splice_get _ _ _ (by omega), hxl] at hq
        split at hq
        · rename_i hi; exact .inl ⟨hi.1, hi.2, hq⟩
        · rename_i hi; exact .inr ⟨hi, hq⟩
      refine ⟨c, b0, cap, w', q1, rfl, q5, e1, updOut (b' := { b with el := splice b.el at_ xs }) hst hg q1 rfl rfl rfl (by simp only; rw [splice_len _ _ _ (by omega)]) k1 e2 e3 (fun i q hq => ?_) (fun i q j s v' hq hs hv' => ?_)⟩
      · rcases hsp i q hq with ⟨_, _, h⟩ | ⟨_, h⟩
        · exact hsd _ _ h
        · exact hok.sized i q h
      · rw [e4] at hv'
        simp only [Nat.add_zero, Array.length_toList, hsz] at hv'
        have hjl : j < q.cells.length := (List.getElem?_eq_some_iff.1 hs).1
        rcases hsp i q hq with ⟨i1, i2, h⟩ | ⟨hi, h⟩
        · have hql := hsd _ _ h
          have e5 : i * b.sz = at_ * b.sz + (i - at_) * b.sz := by rw [← Nat.add_mul]; congr 1; omega
          have e6 := mul_lt_le (n := b.sz) (show i - at_ < n by omega)
          rw [if_pos (by omega)] at hv'
          have e7 : b0 + i * b.sz + j - (b0 + at_ * b.sz) = (i - at_) * b.sz + j := by omega
          rw [e7] at hv'
          exact hrel _ q j s v' h hs (by simpa using hv')
        · have hql := hok.sized _ _ h
          rw [if_neg (by
            intro hh
            rcases Nat.lt_or_ge i at_ with h1 | h1
            · have := mul_lt_le (n := b.sz) h1; omega
            · have h2 : at_ + n ≤ i := by omega
              have := Nat.mul_le_mul_right b.sz h2
              rw [Nat.add_mul] at this; omega)] at hv'
          exact k4 i q j s v' h hs hv'
end ops
end Go.VS

/-
  VS, part 17: the builtins against the machine.
-/
namespace Go.VS

theorem splice_nil (cs : List AV) (k : Nat) (_h : k ≤ cs.length) : splice cs k [] = cs := by
  unfold splice; simp

section ops
variable {P : Program} {E : TEnv} (hE : ∀ t ti, E t = some ti → TyOK P t ti)
variable {w : World} {H : Heap} {φ : Phi} {A : Avoid}

/-- A heap that reads the same. -/
theorem sameOut (hst : St w H φ A) {H' : Heap} (hg : ∀ id, H'.get id = H.get id) (hs : H'.st = H.st) : Out w H φ A w H' φ A := by
  have hevo : Evo w H φ A w H' φ A := ⟨fun c a t fr hc hn => ⟨⟨fr, hc⟩, hn⟩, by rw [hs]; exact Nat.le_refl _, fun id b hb _ => ⟨b, by rw [← hg]; exact hb, rfl, rfl, rfl, rfl, fun _ h => h⟩, fun _ _ => rfl⟩
  refine ⟨⟨hst.inj, hst.own, hst.bnd, fun id loc h => ?_⟩, .refl _ _, hevo, fun _ h _ => h⟩
  obtain ⟨b, hb, hok⟩ := hst.blk id loc h
  refine ⟨b, by rw [hg]; exact hb, by rw [hs]; exact hok.ver, hok.sized, hok.virt, fun c b0 hl => ?_⟩
  obtain ⟨arr, T, fr, h1, h2, h3, h4⟩ := hok.here c b0 hl
  exact ⟨arr, T, fr, h1, h2, h3, fun i x j y v hx hy hv => ⟨(h4 i x j y v hx hy hv).1.mono hevo, (h4 i x j y v hx hy hv).2⟩⟩

theorem updSame (hst : St w H φ A) {id : Nat} {b : Blk} (hg : H.get id = some b) : Out w H φ A w (H.upd id b) φ A :=
  sameOut hst (fun k => by rw [Heap.get_upd hg]; split; · rename_i h; rw [h, hg]
                           · rfl) rfl

theorem run_append_in {t tx e : TypeId} {ti te txi : TI} (ht : TyOK P t ti) (hu : ti.und = .sl e) (hte : TyOK P e te) (htx : TyOK P tx txi) (hnx : ∀ k, txi.und ≠ .it k) (tys : Array TypeId) (h0 : tys[0]? = some t) (h1 : tys[1]? = some tx) (ty : TypeId)
    {base : Option Addr} {sLen sCap : Nat} {x : Value} {n : Nat} {csX : Array Value} {w' : World} (hlen : (Builtin.lenOf x).run P w = .ok n w)
    (hX : (Builtin.firstCells te.sz n x).run P w = .ok csX w) (hneed : sLen + n ≤ sCap) (hst : match base with | some a => (storeCells (a.add (sLen * te.sz)) csX.toList).run P w = .ok () w' | none => w' = w) :
    (Builtin.append_ tys ty #[.slice base sLen sCap, x]).run P w = .ok (.slice base (sLen + n) sCap) w' := by
  obtain ⟨d, hd, hdn⟩ := not_it htx hnx w
  unfold Builtin.append_
  simp only [h0, h1, List.getElem?_toArray, List.getElem?_cons_zero, List.getElem?_cons_succ, Sem.run_bind, ht.sl w hu, Result.andThen_ok, hte.sizeOf, hd, Sem.run_pure]
  simp only [Bool.false_eq_true, if_false, Bool.not_false, if_true, Sem.run_bind, hlen, Result.andThen_ok, hneed, hX]
  cases base with
  | none => simp only at hst; subst hst; rfl
  | some a => simp only at hst ⊢; simp only [Sem.run_bind, hst, Result.andThen_ok, Sem.run_pure]

include hE in
theorem m_append {H' : Heap} (hst : St w H φ A) {t tx : TypeId} {tys : Array TypeId} {ty : TypeId} (h0 : tys[0]? = some t) (h1 : tys[1]? = some tx) {te txi : TI} (hte : elTI E t = some te)
    (htx : E tx = some txi) (hnx : ∀ k, txi.und ≠ .it k) {id ver off len : Nat} {x z : AV} {a b : Value} (hs : R w H φ A (.ref id ver off len) a) (hx : R w H φ A x b) (h : appendA te (.ref id ver off len) x H = some (z, H')) :
    MRes w H φ A H' ((do pure (.value (← Builtin.append_ tys ty #[a, b])) : Sem Next).run P w) z := by
  obtain ⟨ti, e, ht, hu, hee⟩ := elTI_inv hte
  unfold appendA at h
  split at h
  · simp at h
  · rename_i xs hxs
    split at h
    · simp at h
    · rename_i hsz
      simp only [Bool.not_eq_true', Bool.not_eq_false] at hsz
      split at h
      · simp at h
      · rename_i hz
        have hz : 0 < te.sz := by omega
        obtain ⟨cs, hsrc⟩ := src_ok (P := P) hst (Ext.refl H) hx hxs hsz hz
        have hcx := hsrc.run xs.length (Nat.le_refl _)
        rw [← hsrc.size, Array.extract_size] at hcx
        obtain ⟨hv, _, hr⟩ := hs.ref_inv
        have hs1 : ∀ (i : Nat) (x : AV), xs[i]? = some x → x.cells.length = te.sz := fun i x hi => szAll_get hsz hi
        simp only at h
        split at h
        · simp at h
        · rename_i bk hb
          have hg := (Heap.blk_get hb).1
          split at h
          · simp at h
          · rename_i hbs
            simp only [ne_eq, Decidable.not_not] at hbs
            obtain ⟨loc, a0, cap, q1, rfl, q3, q4, q5, q6⟩ := (hr bk hb).out
            split at h
            · rename_i hfit
              simp only [Option.some.injEq, Prod.mk.injEq] at h
              obtain ⟨rfl, rfl⟩ := h
              by_cases hn : xs.length = 0
              · have hxe : xs = [] := List.eq_nil_of_length_eq_zero hn
                subst hxe
                have hcs : cs = #[] := Array.eq_empty_of_size_eq_zero (by simpa using hsrc.size)
                subst hcs
                have hrun := run_append_in (P := P) (w := w) (w' := w) (base := a0) (sLen := len) (sCap := cap) (hE _ _ ht) hu (hE _ _ hee) (hE _ _ htx) hnx tys h0 h1 ty hsrc.len hcx (by simpa using q4) (by cases a0 <;> simp [storeCells])
                have ho : Out w H φ A w (H.upd id { bk with el := splice bk.el (off + len) [] }) φ A := by
                  rw [splice_nil _ _ q3]; exact updSame hst hg
                exact ⟨_, _, w, φ, A, by simp only [Sem.run_bind, hrun, Result.andThen_ok, Sem.run_pure]; rfl, .inl rfl, hs.mono ho.evo, ho⟩
              · obtain ⟨c, b0, cap', w', p1, p2, p3, p4, p5⟩ := span_ok (P := P) hst hs hb (at_ := off + len) (n := xs.length) hfit (by omega) (by omega) (.inr (.inr trivial)) rfl (cs := cs) (by rw [hbs]; exact hsrc.size) hsrc.one
                  (fun i x hi => by rw [hbs]; exact hs1 i x hi) (fun i x j y u hi hy hu => hsrc.rel i x j y u hi hy (by rw [← hbs]; exact hu))
                simp only [Value.slice.injEq, true_and] at p2
                obtain ⟨rfl, rfl⟩ := p2
                have hrun := run_append_in (P := P) (w := w) (w' := w') (base := some ⟨c, b0 + off * bk.sz, none⟩) (sLen := len) (sCap := cap) (hE _ _ ht) hu (hE _ _ hee) (hE _ _ htx) hnx tys h0 h1 ty hsrc.len hcx (by omega) (by
                  simp only [add_none]
                  have : b0 + off * bk.sz + len * te.sz = b0 + (off + len) * bk.sz := by rw [← hbs, Nat.add_mul]; omega
                  rw [this]; exact p4)
                refine ⟨_, _, w', φ, A, by simp only [Sem.run_bind, hrun, Result.andThen_ok, Sem.run_pure]; rfl, .inl rfl, ?_, p5⟩
                refine .ref _ _ _ _ _ (Nat.lt_of_lt_of_le hv p5.evo.st) ⟨_, _, rfl⟩ fun b' hb' => ?_
                have hg' := (Heap.blk_get hb').1
                rw [Heap.get_upd hg, if_pos rfl] at hg'
                simp only [Option.some.injEq] at hg'; subst hg'
                have hsl : (splice bk.el (off + len) xs).length = bk.el.length := splice_len _ _ _ hfit
                refine ⟨.at_ c b0, _, _, p1, rfl, by simp only [hsl]; omega, by omega, by simp only [hsl]; omega, ?_⟩
                simp only
                rw [p1] at q1
                simp only [Option.some.injEq] at q1; subst q1
                simp only at q6
                rcases q6 with q6 | ⟨_, q7⟩
                · omega
                · right
                  exact ⟨by first | rfl | trivial, by rw [p5.post.bsz c (Ow.lt hst ⟨id, b0, p1⟩)]; exact q7⟩
            · rename_i hfit
              split at h
              · simp at h
              · rename_i hfix
                split at h
                · rename_i hc
                  obtain ⟨c1, c2⟩ := hc
                  simp only [Option.some.injEq, Prod.mk.injEq] at h
                  obtain ⟨rfl, rfl⟩ := h
                  have hn : 0 < xs.length := by
                    rcases Nat.eq_zero_or_pos xs.length with h | h
                    · rw [h] at hfit; omega
                    · exact h
                  have hnewsz : ∀ (i : Nat) (x : AV), (subL bk.el off len ++ xs)[i]? = some x → x.cells.length = bk.sz := by
                    intro i x hi
                    rw [List.getElem?_append] at hi
                    split at hi
                    · simp only [subL, List.getElem?_take, List.getElem?_drop] at hi
                      split at hi
                      · obtain ⟨b1, hg1, hok⟩ := hst.blk id _ q1
                        rw [hg] at hg1
                        simp only [Option.some.injEq] at hg1; subst hg1
                        exact hok.sized _ _ hi
                      · simp at hi
                    · rw [hbs]; exact hs1 _ _ hi
                  have hsub : (subL bk.el off len).length = len := by simp [subL]; omega
                  by_cases hneed : len + xs.length ≤ cap
                  · -- there was room after all
                    cases loc with
                    | virt =>
                      simp only at q6
                      have := q6.2 (by simpa using hfix)
                      omega
                    | at_ c b0 =>
                      simp only at q6
                      rcases q6 with q6 | ⟨rfl, q7⟩
                      · omega
                      · obtain ⟨b1, hg1, hok⟩ := hst.blk id _ q1
                        rw [hg] at hg1
                        simp only [Option.some.injEq] at hg1; subst hg1
                        obtain ⟨arr, T, fr, k1, k2, k3, k4⟩ := hok.here c b0 rfl
                        have hbz : bsz w c = arr.size := by unfold bsz; rw [k1]
                        rw [hbz] at q7
                        have hle : (off + len) * bk.sz + xs.length * bk.sz ≤ (off + cap) * bk.sz := by rw [← Nat.add_mul]; exact Nat.mul_le_mul_right _ (by omega)
                        have hcs : cs.size = xs.length * bk.sz := by rw [hbs]; exact hsrc.size
                        obtain ⟨w', arr', e1, e2, e3, e4⟩ := run_storeCells P c (b0 + (off + len) * bk.sz) T fr cs.toList 0 arr w k1 k2 (by simp [hcs]; omega) hsrc.one
                        have hrun := run_append_in (P := P) (w := w) (w' := w') (base := some ⟨c, b0 + off * bk.sz, none⟩) (sLen := len) (sCap := cap) (hE _ _ ht) hu (hE _ _ hee) (hE _ _ htx) hnx tys h0 h1 ty hsrc.len hcx hneed (by
                          simp only [add_none]
                          have : b0 + off * bk.sz + len * te.sz = b0 + (off + len) * bk.sz := by rw [← hbs, Nat.add_mul]; omega
                          rw [this]; exact e1)
                        have hmul : off * bk.sz + len * bk.sz = (off + len) * bk.sz := (Nat.add_mul _ _ _).symm
                        have ho := growOut (b' := ⟨H.st, bk.sz, false, subL bk.el off len ++ xs⟩) (c := c) (b0 := b0 + off * bk.sz) (arr' := arr') (T := T) (fr := fr) (w' := w') hst hg rfl (.inl ⟨⟨id, b0, q1⟩, b0, q1⟩) e2.here (fun k _ hk => e2.other k hk) (by rw [e2.size]; exact Nat.le_refl _) e2.os e2.tape e2.output
                          (fun _ => by rw [e3, hbz]) (by rw [e3]; exact k2) (by
                            rw [List.length_append, hsub, e3]
                            have : (len + xs.length) * bk.sz = len * bk.sz + xs.length * bk.sz := Nat.add_mul _ _ _
                            show b0 + off * bk.sz + (len + xs.length) * bk.sz ≤ arr.size
                            omega) hnewsz (fun i x j y v hi hy hv' => by
                            dsimp only at hv'
                            rw [e4] at hv'
                            simp only [Nat.add_zero, Array.length_toList, hcs] at hv'
                            have hjl : j < x.cells.length := (List.getElem?_eq_some_iff.1 hy).1
                            have hxl := hnewsz i x hi
                            rw [List.getElem?_append] at hi
                            split at hi
                            · rename_i hil
                              rw [hsub] at hil
                              simp only [subL, List.getElem?_take, List.getElem?_drop] at hi
                              split at hi
                              · have := mul_lt_le (n := bk.sz) hil
                                rw [if_neg (by omega)] at hv'
                                exact k4 (off + i) x j y v hi hy (by rw [← hv']; congr 1; rw [Nat.add_mul]; omega)
                              · first | (cases hi; done) | (exact absurd hil ‹_›)
                            · rename_i hil
                              rw [hsub] at hi hil
                              have hilt : i - len < xs.length := (List.getElem?_eq_some_iff.1 hi).1
                              have h7 : i * bk.sz = len * bk.sz + (i - len) * bk.sz := by rw [← Nat.add_mul]; congr 1; omega
                              have h8 := mul_lt_le (n := bk.sz) hilt
                              rw [if_pos (by omega)] at hv'
                              refine hsrc.rel _ x j y v hi hy ?_
                              rw [← hv', ← hbs, Array.getElem?_toList]; congr 1; omega)
                        refine ⟨_, _, w', _, _, by simp only [Sem.run_bind, hrun, Result.andThen_ok, Sem.run_pure]; rfl, .inl rfl, ?_, ho⟩
                        refine .ref _ _ _ _ _ (Nat.lt_succ_self _) ⟨_, _, rfl⟩ fun b' hb' => ?_
                        have hg' := (Heap.blk_get hb').1
                        rw [show (Heap.mk (H.st + 1) (H.bs.set id (some ⟨H.st, bk.sz, false, subL bk.el off len ++ xs⟩))).get id = _ from Heap.get_upd hg id, if_pos rfl] at hg'
                        simp only [Option.some.injEq] at hg'; subst hg'
                        refine ⟨.at_ c (b0 + off * bk.sz), _, _, by simp, rfl, by simp [hsub], by omega, by simp [hsub]; omega, ?_⟩
                        refine Or.inr ⟨by simp, ?_⟩
                        dsimp only
                        have : bsz w' c = arr.size := by unfold bsz; rw [e2.here]; exact e3
                        rw [this, Nat.zero_add]
                        have : (off + cap) * bk.sz = off * bk.sz + cap * bk.sz := Nat.add_mul _ _ _
                        omega
                  · -- a new row
                    have hod := drewOut hst
                    obtain ⟨csS, t1, t2⟩ : ∃ csS : Array Value, (Builtin.firstCells te.sz len (.slice a0 len cap)).run P w.drew = .ok csS w.drew ∧ csS.size = len * te.sz ∧
                        ∀ (i : Nat) (x : AV) (j : Nat) (y : AV) (v : Value), (subL bk.el off len)[i]? = some x → x.cells[j]? = some y → csS[i * te.sz + j]? = some v → R w.drew H φ A y v ∧ v.oneCell' = true := by
                      have hse : elemsOf H (.ref id ver off len) = some (subL bk.el off len) := by simp only [elemsOf, hb]; rw [if_pos c1]
                      have hss : szAll te.sz (subL bk.el off len) = true := by
                        rw [szAll, List.all_eq_true]
                        intro q hq
                        obtain ⟨k, hk⟩ := List.getElem?_of_mem hq
                        have := hnewsz k q (by rw [List.getElem?_append_left (List.getElem?_eq_some_iff.1 hk).1]; exact hk)
                        simp [this, hbs]
                      obtain ⟨cs', hsrc'⟩ := src_ok (P := P) hod.st (Ext.refl H) (hs.mono hod.evo) hse hss hz
                      have hc2 := hsrc'.run len (by rw [hsub]; exact Nat.le_refl _)
                      have hcsz : cs'.size = len * te.sz := by rw [hsrc'.size, hsub]
                      rw [← hcsz, Array.extract_size] at hc2
                      exact ⟨cs', hc2, hcsz, hsrc'.rel⟩
                    obtain ⟨t2, t3⟩ := t2
                    obtain ⟨cs', hsrc'⟩ := src_ok (P := P) hod.st (Ext.refl H) (hx.mono hod.evo) hxs hsz hz
                    have hc2 := hsrc'.run xs.length (Nat.le_refl _)
                    rw [← hsrc'.size, Array.extract_size] at hc2
                    obtain ⟨cap', arr, k1, k2, k3, k4⟩ := run_append_grow (P := P) (w := w) (hE _ _ ht) hu (hE _ _ hee) (hE _ _ htx) hnx tys h0 h1 ty (base := a0) (sLen := len) (sCap := cap) hsrc.len t1 hc2 t2 hsrc'.size (by omega) c2
                    have hle : (len + xs.length) * te.sz ≤ cap' * te.sz := Nat.mul_le_mul_right _ k1
                    have ho := growOut (b' := ⟨H.st, bk.sz, false, subL bk.el off len ++ xs⟩) (c := w.drew.heap.size) (b0 := 0) (arr' := arr) (T := e) (fr := (0, 0)) (w' := w.drew.alloc (.cells arr e)) hod.st hg rfl (.inr (Nat.le_refl _)) (heap_alloc_new _ _) (fun k hk _ => heap_alloc_old _ _ hk) (by simp) rfl rfl rfl
                      (fun h => absurd h (Nat.lt_irrefl _)) (fun j _ h => absurd h.2 (Nat.not_lt_zero j)) (by rw [List.length_append, hsub, k3, hbs]; omega) hnewsz (fun i x j y v hi hy hv' => by
                        have hjl : j < x.cells.length := (List.getElem?_eq_some_iff.1 hy).1
                        have hxl := hnewsz i x hi
                        have hil : i < len + xs.length := by have := (List.getElem?_eq_some_iff.1 hi).1; rw [List.length_append, hsub] at this; exact this
                        have h9 := mul_lt_le (n := te.sz) hil
                        simp only [hbs, Nat.zero_add] at hv' hxl
                        rw [k4 _ (by omega)] at hv'
                        rw [List.getElem?_append, hsub] at hi
                        split at hi
                        · rename_i hil2
                          have := mul_lt_le (n := te.sz) hil2
                          rw [Array.getElem?_append_left (by omega)] at hv'
                          exact t3 i x j y v hi hy hv'
                        · rename_i hil2
                          have h7 : i * te.sz = len * te.sz + (i - len) * te.sz := by rw [← Nat.add_mul]; congr 1; omega
                          rw [Array.getElem?_append_right (by omega)] at hv'
                          exact hsrc'.rel _ x j y v hi hy (by rw [← hv']; congr 1; omega))
                    have hot := hod.trans hst ho
                    refine ⟨_, _, _, _, _, by simp only [Sem.run_bind, k2, Result.andThen_ok, Sem.run_pure]; rfl, .inl rfl, ?_, hot⟩
                    refine .ref _ _ _ _ _ (Nat.lt_succ_self _) ⟨_, _, rfl⟩ fun b' hb' => ?_
                    have hg' := (Heap.blk_get hb').1
                    rw [show (Heap.mk (H.st + 1) (H.bs.set id (some ⟨H.st, bk.sz, false, subL bk.el off len ++ xs⟩))).get id = _ from Heap.get_upd hg id, if_pos rfl] at hg'
                    simp only [Option.some.injEq] at hg'; subst hg'
                    refine ⟨.at_ w.drew.heap.size 0, _, _, by simp, rfl, by simp [hsub], k1, by simp [hsub]; omega, ?_⟩
                    refine Or.inr ⟨by simp, ?_⟩
                    dsimp only
                    rw [bsz_new, k3, hbs]; simp
                · simp at h
end ops
end Go.VS

/-
  VS, part 18: copy, clear, len, min, max; all operations that call nothing.
-/
namespace Go.VS

section ops
variable {P : Program} {E : TEnv} (hE : ∀ t ti, E t = some ti → TyOK P t ti)
variable {w : World} {H : Heap} {φ : Phi} {A : Avoid}

theorem MRes.same {r : Result Next} {x : AV} {v : Value} {H' : Heap} (hr : r = .ok (.value v) w) (hx : R w H φ A x v) (ho : Out w H φ A w H' φ A) : MRes w H φ A H' r x :=
  ⟨_, v, w, φ, A, hr, .inl rfl, hx.mono ho.evo, ho⟩

include hE in
theorem m_copy {H' : Heap} (hst : St w H φ A) {t : TypeId} {tys : Array TypeId} {ty : TypeId} (h0 : tys[0]? = some t) {te : TI} (hte : elTI E t = some te) {d x z : AV} {a b : Value} (hs : R w H φ A d a) (hx : R w H φ A x b)
    (h : copyA te d x H = some (z, H')) : MRes w H φ A H' ((do pure (.value (← Builtin.copy_ tys ty #[a, b])) : Sem Next).run P w) z := by
  obtain ⟨ti, e, ht, hu, hee⟩ := elTI_inv hte
  unfold copyA at h
  split at h
  · simp at h
  · rename_i xs hxs
    split at h
    · simp at h
    · rename_i hsz
      simp only [Bool.or_eq_true, Bool.not_eq_true', beq_iff_eq, not_or, Bool.not_eq_false] at hsz
      obtain ⟨hsz, hz⟩ := hsz
      have hz : 0 < te.sz := by omega
      obtain ⟨cs, hsrc⟩ := src_ok (P := P) hst (Ext.refl H) hx hxs hsz hz
      have hrun : ∀ (base : Option Addr) (dLen dCap : Nat) (w' : World), (match base with | some a => (storeCells a ((cs.extract 0 (min xs.length dLen * te.sz)).toList)).run P w = .ok () w' | none => w' = w) →
          (Builtin.copy_ tys ty #[.slice base dLen dCap, b]).run P w = .ok (.int .i64 (min xs.length dLen : Nat)) w' := by
        intro base dLen dCap w' hw
        have hc := hsrc.run (min xs.length dLen) (Nat.min_le_left _ _)
        unfold Builtin.copy_
        simp only [h0, List.getElem?_toArray, List.getElem?_cons_zero, List.getElem?_cons_succ, Sem.run_bind, (hE _ _ ht).sl w hu, Result.andThen_ok, hsrc.len, (hE _ _ hee).sizeOf]
        rw [show Nat.min xs.length dLen = min xs.length dLen from rfl, hc]
        simp only [Result.andThen_ok]
        cases base with
        | none => simp only at hw; subst hw; rfl
        | some a => simp only at hw; simp only [Sem.run_bind, hw, Result.andThen_ok, Sem.run_pure, goInt]
      have hzero : ∀ base cap, (Builtin.copy_ tys ty #[.slice base 0 cap, b]).run P w = .ok (.int .i64 0) w := by
        intro base cap
        have := hrun base 0 cap w (by cases base <;> simp [storeCells])
        simpa using this
      split at h
      · simp only [Option.some.injEq, Prod.mk.injEq] at h
        obtain ⟨rfl, rfl⟩ := h
        have := hs.nil_inv; subst this
        exact MRes.same (by simp [hzero]) (.fr _ _ (.int _ _)) (.refl hst)
      · simp only [Option.some.injEq, Prod.mk.injEq] at h
        obtain ⟨rfl, rfl⟩ := h
        obtain ⟨a0, rfl⟩ := hs.e0_inv
        exact MRes.same (by simp [hzero]) (.fr _ _ (.int _ _)) (.refl hst)
      · rename_i id ver off len
        split at h
        · simp at h
        · rename_i bk hb
          have hg := (Heap.blk_get hb).1
          split at h
          · rename_i hc
            simp only [Option.some.injEq, Prod.mk.injEq] at h
            obtain ⟨rfl, rfl⟩ := h
            have htl : (xs.take len).length = min xs.length len := by rw [List.length_take, Nat.min_comm]
            by_cases hn : min xs.length len = 0
            · have : xs.take len = [] := List.eq_nil_of_length_eq_zero (by omega)
              rw [this, splice_nil _ _ (by omega), hn]
              obtain ⟨_, ⟨a0, c0, rfl⟩, hr⟩ := hs.ref_inv
              have := hrun a0 len c0 w (by rw [hn]; cases a0 <;> simp [storeCells])
              rw [hn] at this
              exact MRes.same (by simp [this]) (.fr _ _ (.int _ _)) (updSame hst hg)
            · have hsl : (cs.extract 0 (min xs.length len * te.sz)).size = min xs.length len * te.sz := by
                have := hsrc.size
                have h2 : min xs.length len * te.sz ≤ xs.length * te.sz := Nat.mul_le_mul_right _ (Nat.min_le_left _ _)
                simp; omega
              obtain ⟨c, b0, cap, w', p1, p2, p3, p4, p5⟩ := span_ok (P := P) hst hs hb (at_ := off) (n := min xs.length len) (by omega) (Nat.le_refl _) (by omega) (.inr (.inr trivial)) htl (cs := cs.extract 0 (min xs.length len * te.sz))
                (by rw [hc.1]; exact hsl) (fun u hu => hsrc.one u (by rw [Array.toList_extract, List.extract_eq_take_drop] at hu; exact List.mem_of_mem_drop (List.mem_of_mem_take hu)))
                (fun i x hi => by
                  rw [List.getElem?_take] at hi
                  split at hi
                  · rw [hc.1]; exact szAll_get hsz hi
                  · simp at hi)
                (fun i x j y u hi hy hu => by
                  rw [List.getElem?_take] at hi
                  split at hi
                  · rw [Array.getElem?_extract] at hu
                    split at hu
                    · rw [hc.1] at hu
                      exact hsrc.rel i x j y u hi hy (by rw [← hu]; congr 1; omega)
                    · simp at hu
                  · simp at hi)
              subst p2
              have := hrun (some ⟨c, b0 + off * bk.sz, none⟩) len cap w' p4
              exact ⟨_, _, w', φ, A, by simp only [Sem.run_bind, this, Result.andThen_ok, Sem.run_pure], .inl rfl, .fr _ _ (.int _ _), p5⟩
          · simp at h
      · simp at h

include hE in
theorem m_clear {H' : Heap} (hst : St w H φ A) {t : TypeId} {tys : Array TypeId} {ty : TypeId} (h0 : tys[0]? = some t) {te : TI} (hte : elTI E t = some te) {d z : AV} {a : Value} (hs : R w H φ A d a)
    (h : clearA te d H = some (z, H')) : MRes w H φ A H' ((do pure (.value (← Builtin.clear_ tys ty #[a])) : Sem Next).run P w) z := by
  obtain ⟨ti, e, ht, hu, hee⟩ := elTI_inv hte
  have hzero : ∀ a0 cap, (Builtin.clear_ tys ty #[.slice a0 0 cap]).run P w = .ok (.tuple #[]) w := by
    intro a0 cap
    unfold Builtin.clear_
    simp only [h0, List.getElem?_toArray, List.getElem?_cons_zero, Sem.run_bind, (hE _ _ ht).sl w hu, Result.andThen_ok]
    cases a0 <;> rfl
  have htup : R w H φ A (.tup []) (.tuple #[]) := .fr _ _ (.tup [] #[] rfl (by simp))
  unfold clearA at h
  split at h
  · simp only [Option.some.injEq, Prod.mk.injEq] at h
    obtain ⟨rfl, rfl⟩ := h
    have := hs.nil_inv; subst this
    exact MRes.same (by simp [hzero]) htup (.refl hst)
  · simp only [Option.some.injEq, Prod.mk.injEq] at h
    obtain ⟨rfl, rfl⟩ := h
    obtain ⟨a0, rfl⟩ := hs.e0_inv
    exact MRes.same (by simp [hzero]) htup (.refl hst)
  · rename_i id ver off len
    split at h
    · rename_i bk zA hb hz
      have hg := (Heap.blk_get hb).1
      split at h
      · rename_i hc
        simp only [Option.some.injEq, Prod.mk.injEq] at h
        obtain ⟨rfl, rfl⟩ := h
        by_cases hn : len = 0
        · subst hn
          obtain ⟨_, _, hr⟩ := hs.ref_inv
          obtain ⟨loc, a1, cap, _, rfl, _⟩ := (hr bk hb).out
          rw [List.replicate_zero, splice_nil _ _ (by omega)]
          exact MRes.same (by simp [hzero]) htup (updSame hst hg)
        · obtain ⟨zv, z1, z2, z3, z4, _, z5⟩ := zero_ok (hE _ _ hee) hz w
          have hcs : ∀ (i j : Nat) (u : Value), i < len → j < te.sz → (Builtin.zeroCells zv.cells len)[i * te.sz + j]? = some u → zv.cells[j]? = some u := by
            intro i j u hi hj hu
            refine rep_cells z2 hi hj ?_
            rw [← hu]; unfold Builtin.zeroCells; rw [z2]
          have hsize : (Builtin.zeroCells zv.cells len).size = len * te.sz := by simp [Builtin.zeroCells, z2]
          have hszp : 0 < te.sz := by
            rcases Nat.eq_zero_or_pos te.sz with h | h
            · rw [h] at hc
              have := hc.2.2
              simp at this
            · exact h
          obtain ⟨c, b0, cap, w', p1, p2, p3, p4, p5⟩ := span_ok (P := P) hst hs hb (at_ := off) (n := len) (by omega) (Nat.le_refl _) (by omega) (.inr (.inr trivial)) (xs := List.replicate len zA) (by simp) (cs := Builtin.zeroCells zv.cells len)
            (by rw [hc.1]; exact hsize) (fun u hu => by
              obtain ⟨k, hk⟩ := List.getElem?_of_mem hu
              rw [Array.getElem?_toList] at hk
              have hk3 : k < len * te.sz := by rw [← hsize]; exact (Array.getElem?_eq_some_iff.1 hk).1
              have hdm : k / te.sz * te.sz + k % te.sz = k := by rw [Nat.mul_comm]; exact Nat.div_add_mod k te.sz
              have := hcs (k / te.sz) (k % te.sz) u (div_lt_of hk3 hszp) (Nat.mod_lt k hszp) (by rw [hdm]; exact hk)
              have hjl : k % te.sz < te.zero.length := by rw [z4]; exact Nat.mod_lt k hszp
              exact (z5 w A _ _ u (List.getElem?_eq_getElem hjl) this).2)
            (fun i x hi => by
              rw [List.getElem?_replicate] at hi
              split at hi
              · simp only [Option.some.injEq] at hi; subst hi; rw [z3, z4, hc.1]
              · simp at hi)
            (fun i x j y u hi hy hu => by
              rw [List.getElem?_replicate] at hi
              split at hi
              · rename_i hil
                simp only [Option.some.injEq] at hi; subst hi
                rw [z3] at hy
                have hj : j < te.sz := by rw [← z4]; exact (List.getElem?_eq_some_iff.1 hy).1
                rw [hc.1] at hu
                have := z5 w A j y u hy (hcs i j u hil hj hu)
                exact ⟨.fr _ _ this.1, this.2⟩
              · simp at hi)
          subst p2
          refine ⟨_, _, w', φ, A, ?_, .inl rfl, .fr _ _ (.tup [] #[] rfl (by simp)), p5⟩
          have : (Builtin.clear_ tys ty #[.slice (some ⟨c, b0 + off * bk.sz, none⟩) len cap]).run P w = .ok (.tuple #[]) w' := by
            unfold Builtin.clear_
            simp only [h0, List.getElem?_toArray, List.getElem?_cons_zero, Sem.run_bind, (hE _ _ ht).sl w hu, Result.andThen_ok]
            cases len with
            | zero => exact absurd rfl hn
            | succ n => simp only [z1, Result.andThen_ok, p4, Sem.run_pure]
          simp only [Sem.run_bind, this, Result.andThen_ok, Sem.run_pure]
      · simp at h
    · simp at h
  · simp at h

include hE in
theorem v_len {t : TypeId} {tys : Array TypeId} {ty : TypeId} (h0 : tys[0]? = some t) {x : AV} {a : Value} (hs : R w H φ A x a) {n : Nat} {H0 : Heap} (_hX : Ext H0 H) (h : lenOf H0 x = some n) {ti : TI} (ht : E t = some ti) (hu : (∃ e, ti.und = .sl e ∧ ∀ s, x ≠ .str s) ∨ (ti.und = .str ∧ ∃ s, x = .str s)) :
    (Builtin.len_ tys ty #[a]).run P w = .ok (.int .i64 n) w := by
  unfold Builtin.len_
  simp only [h0, List.getElem?_toArray, List.getElem?_cons_zero, Sem.run_bind]
  rcases hu with ⟨e, hu, hn⟩ | ⟨hu, s, rfl⟩
  · simp only [(hE _ _ ht).sl w hu, Result.andThen_ok]
    cases x with
    | nil => simp [lenOf] at h; subst h; have := hs.nil_inv; subst this; rfl
    | e0 => simp [lenOf] at h; subst h; obtain ⟨a0, rfl⟩ := hs.e0_inv; rfl
    | fz xs => simp [lenOf] at h; subst h; have := hs.fz_inv; cases this <;> rfl
    | ref id ver off len => 
      simp only [lenOf, Option.some.injEq] at h; subst h
      obtain ⟨_, ⟨a1, cap, rfl⟩, _⟩ := hs.ref_inv
      rfl
    | str s => exact absurd rfl (hn s)
    | _ => simp [lenOf] at h
  · obtain ⟨b, rfl, hb⟩ := hs.str_inv
    simp only [lenOf, Option.some.injEq] at h; subst h
    simp only [(hE _ _ ht).und_str w hu, Result.andThen_ok, Sem.run_pure, goInt]
    rw [← hb]; simp
end ops
end Go.VS

/-
  VS, part 19: every operation that calls no function.
-/
namespace Go.VS

theorem Heap.ext_old {H H' : Heap} (h : H' = H ∨ ∃ sz fx el, H' = H.new sz fx el) : Ext H H' ∧ (∀ id b, H'.get id = some b → b.ver < H.st → H.get id = some b) ∧ H.bs.length ≤ H'.bs.length := by
  rcases h with rfl | ⟨sz, fx, el, rfl⟩
  · exact ⟨Ext.refl _, fun _ _ h _ => h, Nat.le_refl _⟩
  · refine ⟨Heap.ext_new H sz fx el, fun id b hg hv => ?_, by simp [Heap.new]⟩
    by_cases hid : id < H.bs.length
    · rw [Heap.get_new_old H sz fx el hid] at hg; exact hg
    · have hl := Heap.get_lt hg
      have : id = H.bs.length := by simp [Heap.new] at hl; omega
      subst this
      rw [Heap.get_new] at hg
      simp only [Option.some.injEq] at hg; subst hg
      exact absurd hv (Nat.lt_irrefl _)

theorem evalOp_ext {E : TEnv} {op : Op} {s : Frm} {H H' : Heap} {z : AV} (hq : quietOp op = true) (h : evalOp E op s H = some (z, H')) : H' = H ∨ ∃ sz fx el, H' = H.new sz fx el := by
  have hns : ¬ ∃ t a v, op = .store t a v := by
    rintro ⟨t, a, v, rfl⟩
    have : quietOp (.store t a v) = false := rfl
    rw [this] at hq; simp at hq
  cases op with
  | makeFunc fn first cap =>
    cases fn <;> simp only [evalOp] at h
    · split at h
      · simp only [Option.some.injEq, Prod.mk.injEq] at h; exact .inl h.2.symm
      · simp at h
    all_goals simp at h
  | _ => (simp only [evalOp] at h <;> (repeat' split at h) <;> first
      | (simp at h; done)
      | (simp only [Option.some.injEq, Prod.mk.injEq] at h; first | exact .inl h.2.symm | exact .inr ⟨_, _, _, h.2.symm⟩ | exact absurd ⟨_, _, _, rfl⟩ hns)
      | exact absurd ⟨_, _, _, rfl⟩ hns)

section ops
variable {P : Program} {E : TEnv} (hE : ∀ t ti, E t = some ti → TyOK P t ti)
variable {w : World} {H : Heap} {φ : Phi} {A : Avoid}

theorem St.new (hst : St w H φ A) {id : Nat} (h : H.bs.length ≤ id) : φ id = none := by
  cases hp : φ id with
  | none => rfl
  | some loc =>
    obtain ⟨b, hb, _⟩ := hst.blk id loc hp
    have := Heap.get_lt hb
    omega

/-- A heap with more in it. -/
theorem extOut (hst : St w H φ A) {H' : Heap} (hx : Ext H H') (ho : ∀ id b, H'.get id = some b → b.ver < H.st → H.get id = some b) : Out w H φ A w H' φ A := by
  have hevo : Evo w H φ A w H' φ A := ⟨fun c a t fr hc hn => ⟨⟨fr, hc⟩, hn⟩, hx.2, fun id b hb hv => ⟨b, ho id b hb hv, rfl, rfl, rfl, rfl, fun _ h => h⟩, fun _ _ => rfl⟩
  refine ⟨⟨hst.inj, hst.own, hst.bnd, fun id loc h => ?_⟩, .refl _ _, hevo, fun _ h _ => h⟩
  obtain ⟨b, hb, hok⟩ := hst.blk id loc h
  refine ⟨b, hx.1 _ _ hb, Nat.lt_of_lt_of_le hok.ver hx.2, hok.sized, hok.virt, fun c b0 hl => ?_⟩
  obtain ⟨arr, T, fr, h1, h2, h3, h4⟩ := hok.here c b0 hl
  exact ⟨arr, T, fr, h1, h2, h3, fun i x j y v hx hy hv => ⟨(h4 i x j y v hx hy hv).1.mono hevo, (h4 i x j y v hx hy hv).2⟩⟩

theorem MRes.of_q (hst : St w H φ A) {H' : Heap} (he : H' = H ∨ ∃ sz fx el, H' = H.new sz fx el) {r : Result Next} {z : AV} (h : QRes w H' φ A H H' r z) : MRes w H φ A H' r z := by
  obtain ⟨n, v, w', φ', A', h1, h2, h3, h4, _⟩ := h
  obtain ⟨e1, e2, _⟩ := Heap.ext_old he
  exact ⟨n, v, w', φ', A', h1, h2, h3, (extOut hst e1 e2).trans hst h4⟩

include hE in
theorem simOp {H' : Heap} (hst : St w H φ A) {o : Oper} {s : Frm} {ρ : Operand → Value} {z : AV} (hρ : ∀ y ∈ o.op.operands, R w H φ A (ev s y) (ρ y)) (h : evalOp E o.op s H = some (z, H')) :
    MRes w H φ A H' ((execOp ρ o).run P w) z := by
  by_cases hq : quietOp o.op = true
  · have he := evalOp_ext hq h
    obtain ⟨e1, e2, _⟩ := Heap.ext_old he
    have ho := extOut hst e1 e2
    exact MRes.of_q hst he (simQuiet hE ho.st e1 (Ext.refl _) (fun _ => hst.new (Nat.le_refl _)) hq (fun y hy => (hρ y hy).mono ho.evo) h)
  · obtain ⟨dst, op, type, pos, after, guard⟩ := o
    cases op with
    | store t x v =>
      have hx := hρ x (by simp [Op.operands])
      have hv := hρ v (by simp [Op.operands])
      simp only [evalOp] at h
      exact m_store hE hst hx hv h
    | _ => first | (simp [quietOp] at hq; done) | (simp [evalOp] at h; done)

/-- The quiet builtins. -/
theorem minmax_ok {op : Value → Value → Sem Value} {f : AV → AV → Option AV} (hop : ∀ a b x y z, R w H φ A a x → R w H φ A b y → f a b = some z → ∃ v, (op x y).run P w = .ok v w ∧ R w H φ A z v) :
    ∀ (rest : List AV) (vs : List Value) (x : AV) (v : Value) (z : AV), rest.length = vs.length → (∀ (i : Nat) (a : AV) (u : Value), rest[i]? = some a → vs[i]? = some u → R w H φ A a u) → R w H φ A x v → rest.foldlM f x = some z →
    ∃ u, (vs.foldlM op v).run P w = .ok u w ∧ R w H φ A z u
  | [], [], x, v, z, _, _, hx, h => by simp at h; subst h; exact ⟨v, by simp, hx⟩
  | [], _ :: _, _, _, _, h, _, _, _ => by simp at h
  | _ :: _, [], _, _, _, h, _, _, _ => by simp at h
  | a :: rest, b :: vs, x, v, z, hl, hr, hx, h => by
    simp only [List.foldlM_cons] at h
    cases hf : f x a with
    | none => simp [hf] at h
    | some y =>
      simp only [hf, Option.bind_eq_bind, Option.bind_some] at h
      obtain ⟨u, hu, hy⟩ := hop _ _ _ _ _ hx (hr 0 a b rfl rfl) hf
      obtain ⟨q, hq, hz⟩ := minmax_ok hop rest vs y u z (by simpa using hl) (fun i a u h1 h2 => hr (i + 1) a u h1 h2) hy h
      exact ⟨q, by simp [hu, hq], hz⟩

include hE in
theorem simBuiltin {H' : Heap} (hst : St w H φ A) {b : Builtin} {tys : Array TypeId} {ty : TypeId} {consts : Array Bool} {args : List AV} {vs : Array Value} {z : AV} (hl : args.length = vs.size)
    (hρ : ∀ (i : Nat) (a : AV) (u : Value), args[i]? = some a → vs[i]? = some u → R w H φ A a u) (h : evalBuiltin E b tys args H = some (z, H')) :
    MRes w H φ A H' ((builtin b tys ty consts vs).run P w) z := by
  unfold evalBuiltin at h
  split at h
  · rename_i x
    obtain ⟨a, rfl⟩ : ∃ a, vs = #[a] := by
      have h1 : vs.size = 1 := hl.symm
      exact ⟨vs[0], by apply Array.ext; simp [h1]; intro i h1 h2; simp at h2; subst h2; rfl⟩
    have hx := hρ 0 x a rfl rfl
    split at h
    · rename_i ti n ht hn
      obtain ⟨t, h0, ht⟩ := Option.bind_eq_some_iff.1 ht
      have key : ∀ {q : AV × Heap}, some q = some (z, H') → q = (AV.int .i64 n, H) → ((∃ e, ti.und = .sl e ∧ ∀ s, x ≠ .str s) ∨ (ti.und = .str ∧ ∃ s, x = .str s)) → MRes w H φ A H' ((builtin .len tys ty consts #[a]).run P w) z := by
        intro q hq hqe hu
        subst hqe
        simp only [Option.some.injEq, Prod.mk.injEq] at hq
        obtain ⟨rfl, rfl⟩ := hq
        have := v_len (tys := tys) (ty := ty) hE h0 hx (Ext.refl H) hn ht hu
        exact MRes.same (by simp [builtin, this]) (.fr _ _ (.int _ _)) (.refl hst)
      split at h
      · rename_i s hu
        exact key h rfl (.inr ⟨hu, s, rfl⟩)
      · simp at h
      · rename_i e hu hne
        exact key h rfl (.inl ⟨e, hu, fun s hs => hne s hs⟩)
      · simp at h
    · simp at h
  · rename_i s x
    obtain ⟨a, b, rfl⟩ : ∃ a b, vs = #[a, b] := by
      have h1 : vs.size = 2 := hl.symm
      exact ⟨vs[0], vs[1], by apply Array.ext; simp [h1]; intro i h1 h2; simp at h2; rcases i with _ | _ | i; rfl; rfl; omega⟩
    have hs := hρ 0 s a rfl rfl
    have hx := hρ 1 x b rfl rfl
    split at h
    · rename_i t h0
      split at h
      · rename_i te tx hte htx
        obtain ⟨t2, h1, htx⟩ := Option.bind_eq_some_iff.1 htx
        by_cases hit : ∃ k, tx.und = .it k
        · obtain ⟨k, hit⟩ := hit
          rw [hit] at h
          simp only at h
          split at h
          · rename_i n
            have he : H' = H ∨ ∃ sz fx el, H' = H.new sz fx el := by
              unfold appendZ at h
              repeat' split at h
              all_goals first
                | (simp at h; done)
                | (simp only [Option.some.injEq, Prod.mk.injEq] at h; first | exact .inl h.2.symm | exact .inr ⟨_, _, _, h.2.symm⟩)
            obtain ⟨e1, e2, _⟩ := Heap.ext_old he
            have ho := extOut hst e1 e2
            exact MRes.of_q hst he (q_appendZ hE ho.st (Ext.refl _) (fun _ => hst.new (Nat.le_refl _)) h0 h1 hte htx hit (hs.mono ho.evo) (hx.mono ho.evo) h)
          · simp at h
        have hk0 : ∀ k, tx.und ≠ .it k := fun k hk => hit ⟨k, hk⟩
        replace h : appendA te s x H = some (z, H') := by
          split at h
          · rename_i k hk; exact absurd hk (hk0 k)
          · exact h
        cases s with
        | ref id ver off len => exact m_append hE hst h0 h1 hte htx hk0 hs hx h
        | nil =>
          have he : H' = H ∨ ∃ sz fx el, H' = H.new sz fx el := by
            simp only [appendA] at h
            repeat' split at h
            all_goals first
              | (simp at h; done)
              | (simp only [Option.some.injEq, Prod.mk.injEq] at h; first | exact .inl h.2.symm | exact .inr ⟨_, _, _, h.2.symm⟩)
          obtain ⟨e1, e2, _⟩ := Heap.ext_old he
          have ho := extOut hst e1 e2
          exact MRes.of_q hst he (q_append0 hE ho.st e1 (Ext.refl _) (fun _ => hst.new (Nat.le_refl _)) h0 h1 hte htx hk0 (hs.mono ho.evo) (hx.mono ho.evo) (.inl rfl) h)
        | e0 =>
          have he : H' = H ∨ ∃ sz fx el, H' = H.new sz fx el := by
            simp only [appendA] at h
            repeat' split at h
            all_goals first
              | (simp at h; done)
              | (simp only [Option.some.injEq, Prod.mk.injEq] at h; first | exact .inl h.2.symm | exact .inr ⟨_, _, _, h.2.symm⟩)
          obtain ⟨e1, e2, _⟩ := Heap.ext_old he
          have ho := extOut hst e1 e2
          exact MRes.of_q hst he (q_append0 hE ho.st e1 (Ext.refl _) (fun _ => hst.new (Nat.le_refl _)) h0 h1 hte htx hk0 (hs.mono ho.evo) (hx.mono ho.evo) (.inr rfl) h)
        | _ => (simp only [appendA] at h; (repeat' split at h) <;> simp at h)
      · simp at h
    · simp at h
  · rename_i d x
    obtain ⟨a, b, rfl⟩ : ∃ a b, vs = #[a, b] := by
      have h1 : vs.size = 2 := hl.symm
      exact ⟨vs[0], vs[1], by apply Array.ext; simp [h1]; intro i h1 h2; simp at h2; rcases i with _ | _ | i; rfl; rfl; omega⟩
    split at h
    · rename_i te hte
      obtain ⟨t, h0, hte⟩ := Option.bind_eq_some_iff.1 hte
      exact m_copy hE hst h0 hte (hρ 0 d a rfl rfl) (hρ 1 x b rfl rfl) h
    · simp at h
  · rename_i d
    obtain ⟨a, rfl⟩ : ∃ a, vs = #[a] := by
      have h1 : vs.size = 1 := hl.symm
      exact ⟨vs[0], by apply Array.ext; simp [h1]; intro i h1 h2; simp at h2; subst h2; rfl⟩
    split at h
    · rename_i te hte
      obtain ⟨t, h0, hte⟩ := Option.bind_eq_some_iff.1 hte
      exact m_clear hE hst h0 hte (hρ 0 d a rfl rfl) h
    · simp at h
  · split at h
    · rename_i v hv
      simp only [Option.some.injEq, Prod.mk.injEq] at h
      obtain ⟨rfl, rfl⟩ := h
      cases args with
      | nil => simp [minA] at hv
      | cons x rest =>
        obtain ⟨a, us, hus⟩ : ∃ a us, vs.toList = a :: us := by
          cases hvl : vs.toList with
          | nil => have := congrArg List.length hvl; simp at this; simp [this] at hl
          | cons a us => exact ⟨a, us, rfl⟩
        have hlen : rest.length = us.length := by have := congrArg List.length hus; simp at this; simp at hl; omega
        have hget : ∀ (i : Nat) (u : Value), (a :: us)[i]? = some u → vs[i]? = some u := fun i u hu => by rw [← hus] at hu; simpa using hu
        obtain ⟨u, hu, hz⟩ := minmax_ok (P := P) (op := Builtin.min2) (f := fun a b => match a, b with | .int k x, .int _ y => some (.int k (if y < x then y else x)) | _, _ => none) (fun a b x y z ha hb hf => by
          split at hf
          · have e1 := ha.int_inv; have e2 := hb.int_inv; subst e1; subst e2
            simp only [Option.some.injEq] at hf; subst hf
            exact ⟨_, by simp [Builtin.min2], .fr _ _ (.int _ _)⟩
          · simp at hf) rest us x a v hlen (fun i p q hp hq => hρ (i + 1) p q hp (hget (i + 1) q hq)) (hρ 0 x a rfl (hget 0 a rfl)) hv
        exact MRes.same (by simp [builtin, Builtin.min_, hus, hu]) hz (.refl hst)
    · simp at h
  · split at h
    · rename_i v hv
      simp only [Option.some.injEq, Prod.mk.injEq] at h
      obtain ⟨rfl, rfl⟩ := h
      cases args with
      | nil => simp [maxA] at hv
      | cons x rest =>
        obtain ⟨a, us, hus⟩ : ∃ a us, vs.toList = a :: us := by
          cases hvl : vs.toList with
          | nil => have := congrArg List.length hvl; simp at this; simp [this] at hl
          | cons a us => exact ⟨a, us, rfl⟩
        have hlen : rest.length = us.length := by have := congrArg List.length hus; simp at this; simp at hl; omega
        have hget : ∀ (i : Nat) (u : Value), (a :: us)[i]? = some u → vs[i]? = some u := fun i u hu => by rw [← hus] at hu; simpa using hu
        obtain ⟨u, hu, hz⟩ := minmax_ok (P := P) (op := Builtin.max2) (f := fun a b => match a, b with | .int k x, .int _ y => some (.int k (if y > x then y else x)) | _, _ => none) (fun a b x y z ha hb hf => by
          split at hf
          · have e1 := ha.int_inv; have e2 := hb.int_inv; subst e1; subst e2
            simp only [Option.some.injEq] at hf; subst hf
            exact ⟨_, by simp [Builtin.max2], .fr _ _ (.int _ _)⟩
          · simp at hf) rest us x a v hlen (fun i p q hp hq => hρ (i + 1) p q hp (hget (i + 1) q hq)) (hρ 0 x a rfl (hget 0 a rfl)) hv
        exact MRes.same (by simp [builtin, Builtin.max_, hus, hu]) hz (.refl hst)
    · simp at h
  · obtain ⟨a, rfl⟩ : ∃ a, vs = #[a] := by
      have h1 : vs.size = 1 := hl.symm
      exact ⟨vs[0], by apply Array.ext; simp [h1]; intro i h1 h2; simp at h2; subst h2; rfl⟩
    have hx := (hρ 0 .nil a rfl rfl).nil_inv
    subst hx
    split at h
    · rename_i ti ht
      obtain ⟨t, h0, ht⟩ := Option.bind_eq_some_iff.1 ht
      split at h
      · rename_i e hu
        simp only [Option.some.injEq, Prod.mk.injEq] at h
        obtain ⟨rfl, rfl⟩ := h
        have hc : (Builtin.cap_ tys ty #[.slice none 0 0]).run P w = .ok (.int .i64 0) w := by
          unfold Builtin.cap_
          simp only [h0, List.getElem?_toArray, List.getElem?_cons_zero, Sem.run_bind, (hE _ _ ht).sl w hu, Result.andThen_ok]
          rfl
        exact MRes.same (by simp [builtin, hc]) (.fr _ _ (.int _ _)) (.refl hst)
      · simp at h
    · simp at h
  · simp at h
end ops
end Go.VS

/-
  VS, part 20: values handed over from one heap to another.
-/
namespace Go.VS

def restr (φ : Phi) (L : Heap) : Phi := fun id => if (L.get id).isSome then φ id else none

theorem Heap.get_del (H : Heap) (id k : Nat) : (H.del id).get k = if k = id then none else H.get k := by
  unfold Heap.del Heap.get
  simp only [List.getElem?_set]
  by_cases hk : id = k
  · subst hk
    simp only [if_true]
    split <;> rfl
  · rw [if_neg hk, if_neg (fun e => hk e.symm)]

/-- Blocks have gone, nothing else. -/
structure Less (L L1 : Heap) : Prop where
  get : ∀ id b, L1.get id = some b → L.get id = some b
  st : L1.st = L.st
  len : L1.bs.length = L.bs.length

theorem Less.refl (L : Heap) : Less L L := ⟨fun _ _ h => h, rfl, rfl⟩
theorem Less.trans {L L1 L2 : Heap} (h : Less L L1) (k : Less L1 L2) : Less L L2 := ⟨fun id b hb => h.get id b (k.get id b hb), k.st.trans h.st, k.len.trans h.len⟩
theorem Less.del (L : Heap) (id : Nat) : Less L (L.del id) := ⟨fun k b h => by rw [Heap.get_del] at h; split at h; simp at h; exact h, rfl, by simp [Heap.del]⟩

theorem restr_some {φ : Phi} {L : Heap} {id : Nat} {loc : Loc} (h : restr φ L id = some loc) : φ id = some loc ∧ ∃ b, L.get id = some b := by
  unfold restr at h
  split at h
  · rename_i hs; exact ⟨h, Option.isSome_iff_exists.1 hs⟩
  · simp at h
theorem restr_restr {φ : Phi} {L L1 : Heap} (h : Less L L1) : restr (restr φ L) L1 = restr φ L1 := by
  funext id
  unfold restr
  cases h1 : L1.get id with
  | none => simp
  | some b => simp [h.get id b h1]
theorem restr_ow {φ : Phi} {L : Heap} {c : Nat} (h : Ow (restr φ L) c) : Ow φ c := by
  obtain ⟨id, b, h⟩ := h
  exact ⟨id, b, (restr_some h).1⟩

section duo
variable {w : World}

theorem lessEvo {L L1 : Heap} {φ : Phi} {A : Avoid} (hl : Less L L1) : Evo w L φ A w L1 (restr φ L1) A := by
  refine ⟨fun c a t fr hc hn => ⟨⟨fr, hc⟩, hn⟩, by rw [hl.st]; exact Nat.le_refl _, fun id b hb _ => ⟨b, hl.get id b hb, rfl, rfl, rfl, rfl, fun loc h => ?_⟩, fun _ _ => rfl⟩
  unfold restr; rw [hb]; simpa using h

theorem lessSt {L L1 : Heap} {φ : Phi} {A : Avoid} (hst : St w L φ A) (hl : Less L L1) : St w L1 (restr φ L1) A := by
  refine ⟨fun i i' c b b' h h' => hst.inj _ _ _ _ _ (restr_some h).1 (restr_some h').1, fun c hc => hst.own c (restr_ow hc), hst.bnd, fun id loc h => ?_⟩
  obtain ⟨h1, b, hb⟩ := restr_some h
  obtain ⟨b', hb', hok⟩ := hst.blk id loc h1
  rw [hl.get id b hb] at hb'
  simp only [Option.some.injEq] at hb'; subst hb'
  refine ⟨b, hb, by rw [hl.st]; exact hok.ver, hok.sized, hok.virt, fun c b0 he => ?_⟩
  obtain ⟨arr, T, fr, k1, k2, k3, k4⟩ := hok.here c b0 he
  exact ⟨arr, T, fr, k1, k2, k3, fun i x j y v hx hy hv => ⟨(k4 i x j y v hx hy hv).1.mono (lessEvo hl), (k4 i x j y v hx hy hv).2⟩⟩

structure Duo (w : World) (L : Heap) (φL : Phi) (AL : Avoid) (H : Heap) (φ : Phi) (AH : Avoid) : Prop where
  sl : St w L φL AL
  sh : St w H φ AH
  dis : ∀ c, Ow φL c → ¬ Ow φ c
  cov : ∀ c, Ow φL c → AH c

structure Moved (w : World) (L : Heap) (φL : Phi) (AL : Avoid) (H : Heap) (φ : Phi) (AH : Avoid) (L1 : Heap) (H1 : Heap) (φ1 : Phi) : Prop where
  less : Less L L1
  duo : Duo w L1 (restr φL L1) AL H1 φ1 AH
  eh : Evo w H φ AH w H1 φ1 AH
  oh : ∀ c, Ow φ1 c → Ow φ c ∨ (Ow φL c ∧ ¬ Ow (restr φL L1) c)
  oh' : ∀ c, Ow φ c → Ow φ1 c
  hlen : H.bs.length ≤ H1.bs.length
  hget : ∀ id b, H.get id = some b → H1.get id = some b
  hphi : ∀ id loc, φ id = some loc → φ1 id = some loc

theorem Moved.refl {L : Heap} {φL : Phi} {AL : Avoid} {H : Heap} {φ : Phi} {AH : Avoid} (h : Duo w L φL AL H φ AH) : Moved w L φL AL H φ AH L H φ := by
  refine ⟨.refl _, ⟨lessSt h.sl (.refl _), h.sh, fun c hc => h.dis c (restr_ow hc), fun c hc => h.cov c (restr_ow hc)⟩, .refl _ _ _ _, fun c hc => .inl hc, fun c hc => hc, Nat.le_refl _, fun _ _ h => h, fun _ _ h => h⟩

theorem Moved.trans {L L1 L2 : Heap} {φL : Phi} {AL : Avoid} {H H1 H2 : Heap} {φ φ1 φ2 : Phi} {AH : Avoid} (h : Moved w L φL AL H φ AH L1 H1 φ1) (k : Moved w L1 (restr φL L1) AL H1 φ1 AH L2 H2 φ2) : Moved w L φL AL H φ AH L2 H2 φ2 := by
  have hr := restr_restr (φ := φL) k.less
  refine ⟨h.less.trans k.less, by rw [← hr]; exact k.duo, h.eh.trans k.eh (fun _ _ => rfl), fun c hc => ?_, fun c hc => k.oh' c (h.oh' c hc), Nat.le_trans h.hlen k.hlen, fun id b hb => k.hget id b (h.hget id b hb), fun id loc hl => k.hphi id loc (h.hphi id loc hl)⟩
  rcases k.oh c hc with h1 | ⟨h1, h2⟩
  · rcases h.oh c h1 with h3 | ⟨h3, h4⟩
    · exact .inl h3
    · refine .inr ⟨h3, fun h5 => h4 ?_⟩
      rw [← hr] at h5
      exact restr_ow h5
  · rw [hr] at h2
    exact .inr ⟨restr_ow h1, h2⟩

/-- A new block of the second heap, at a place in memory that was the first one's. -/
theorem newAt {L L1 : Heap} {φL : Phi} {AL : Avoid} {H H1 : Heap} {φ φ1 : Phi} {AH : Avoid} (m : Moved w L φL AL H φ AH L1 H1 φ1) {sz : Nat} {fx : Bool} {el : List AV} {loc : Loc}
    (hsd : ∀ (i : Nat) (x : AV), el[i]? = some x → x.cells.length = sz) (hv : loc = .virt → el = [])
    (hat : ∀ c b0, loc = .at_ c b0 → Ow φL c ∧ ¬ Ow (restr φL L1) c ∧ ¬ Ow φ1 c ∧ AH c ∧ ∃ arr T fr, w.heap[c]? = some (.cells arr T fr) ∧ (∀ j, j < arr.size → ¬ (fr.1 ≤ j ∧ j < fr.2)) ∧ b0 + el.length * sz ≤ arr.size ∧
      ∀ (i : Nat) (x : AV) (j : Nat) (y : AV) (v : Value), el[i]? = some x → x.cells[j]? = some y → arr[b0 + i * sz + j]? = some v → R w H1 φ1 AH y v ∧ v.oneCell' = true) :
    Moved w L φL AL H φ AH L1 (H1.new sz fx el) (fun i => if i = H1.bs.length then some loc else φ1 i) := by
  have hsh := m.duo.sh
  have hnew := St.new hsh (Nat.le_refl H1.bs.length)
  have hx := Heap.ext_new H1 sz fx el
  have hold : ∀ id b, (H1.new sz fx el).get id = some b → b.ver < H1.st → H1.get id = some b := (Heap.ext_old (.inr ⟨sz, fx, el, rfl⟩)).2.1
  have hevo : Evo w H1 φ1 AH w (H1.new sz fx el) (fun i => if i = H1.bs.length then some loc else φ1 i) AH := by
    refine ⟨fun c a t fr hc hn => ⟨⟨fr, hc⟩, hn⟩, hx.2, fun id b hb hlt => ⟨b, hold id b hb hlt, rfl, rfl, rfl, rfl, fun l hl => ?_⟩, fun _ _ => rfl⟩
    rw [if_neg (by rintro rfl; rw [hnew] at hl; simp at hl)]; exact hl
  have hOw : ∀ c, Ow (fun i => if i = H1.bs.length then some loc else φ1 i) c → Ow φ1 c ∨ ∃ b0, loc = .at_ c b0 := by
    rintro c ⟨i, b, h⟩
    try simp only at h
    split at h
    · simp only [Option.some.injEq] at h; exact .inr ⟨b, h⟩
    · exact .inl ⟨i, b, h⟩
  refine ⟨m.less, ⟨m.duo.sl, ⟨fun i i' c b b' h1 h2 => ?_, fun c hc => ?_, hsh.bnd, fun i l hl => ?_⟩, fun c hc ho => ?_, m.duo.cov⟩, m.eh.trans hevo (fun _ _ => rfl), fun c hc => ?_, fun c hc => ?_, ?_, fun id b hb => hx.1 _ _ (m.hget id b hb), fun id l hl => ?_⟩
  · try simp only at h1 h2
    split at h1
    · rename_i hi
      split at h2
      · rename_i hi'; omega
      · simp only [Option.some.injEq] at h1
        exact absurd ⟨i', b', h2⟩ (hat c b h1).2.2.1
    · split at h2
      · simp only [Option.some.injEq] at h2
        exact absurd ⟨i, b, h1⟩ (hat c b' h2).2.2.1
      · exact hsh.inj _ _ _ _ _ h1 h2
  · rcases hOw c hc with h | ⟨b0, h⟩
    · exact hsh.own c h
    · exact (hat c b0 h).2.2.2.1
  · try simp only at hl
    split at hl
    · rename_i hi; subst hi
      simp only [Option.some.injEq] at hl; subst hl
      refine ⟨_, Heap.get_new _ _ _ _, Nat.lt_succ_self _, hsd, hv, fun c b0 he => ?_⟩
      obtain ⟨_, _, _, _, arr, T, fr, k1, k2, k3, k4⟩ := hat c b0 he
      exact ⟨arr, T, fr, k1, k2, k3, fun j x q y v hx' hy hvv => ⟨(k4 j x q y v hx' hy hvv).1.mono hevo, (k4 j x q y v hx' hy hvv).2⟩⟩
    · obtain ⟨bb, hb, hok⟩ := hsh.blk i l hl
      refine ⟨bb, hx.1 _ _ hb, Nat.lt_of_lt_of_le hok.ver hx.2, hok.sized, hok.virt, fun c b0 he => ?_⟩
      obtain ⟨arr, T, fr, k1, k2, k3, k4⟩ := hok.here c b0 he
      exact ⟨arr, T, fr, k1, k2, k3, fun j x q y v hx' hy hvv => ⟨(k4 j x q y v hx' hy hvv).1.mono hevo, (k4 j x q y v hx' hy hvv).2⟩⟩
  · rcases hOw c ho with h | ⟨b0, h⟩
    · exact m.duo.dis c hc h
    · exact (hat c b0 h).2.1 hc
  · rcases hOw c hc with h | ⟨b0, h⟩
    · exact m.oh c h
    · exact .inr ⟨(hat c b0 h).1, (hat c b0 h).2.1⟩
  · obtain ⟨i, b, h⟩ := m.oh' c hc
    exact ⟨i, b, by show (if i = H1.bs.length then some loc else φ1 i) = _; rw [if_neg (by rintro rfl; rw [hnew] at h; simp at h)]; exact h⟩
  · simp only [Heap.new, List.length_append, List.length_singleton]; exact Nat.le_succ_of_le m.hlen
  · have := m.hphi id l hl
    rw [if_neg (by rintro rfl; rw [hnew] at this; simp at this)]; exact this
end duo
end Go.VS

/-
  VS, part 21: values handed over, lent, and kept from then on.
-/
namespace Go.VS

section duo
variable {w : World}

theorem plain_R {L H : Heap} {φL φ : Phi} {AL AH : Avoid} {x : AV} {v : Value} (hp : plainA x = true) (h : R w L φL AL x v) : R w H φ AH x v := by
  cases x with
  | undef => exact .fr _ _ (.undef _)
  | int k n => have := h.int_inv; subst this; exact .fr _ _ (.int _ _)
  | bool b => have := h.bool_inv; subst this; exact .fr _ _ (.bool _)
  | str s => obtain ⟨b, rfl, rfl⟩ := h.str_inv; exact .fr _ _ (.str _)
  | errv b => rcases h.errv_inv with ⟨rfl, rfl⟩ | ⟨rfl, t, u, rfl⟩; exact .fr _ _ .noerr; exact .fr _ _ (.err _ _)
  | nilp => cases h with | fr _ _ h => cases h; exact .fr _ _ .nilp
  | _ => simp [plainA] at hp

theorem thaw_plain {x : AV} (hp : plainA x = true) (H : Heap) : thawV x H = (x, H) := by
  cases x <;> first | rfl | simp [plainA] at hp

def Kfz (AL AH : Avoid) (y : AV) : Prop := (∀ c, AH c → AL c) ∨ noFz y = true
def KfzL (AL AH : Avoid) (ys : List AV) : Prop := (∀ c, AH c → AL c) ∨ noFzL ys = true

theorem KfzL.cons {AL AH : Avoid} {y : AV} {ys : List AV} (h : KfzL AL AH (y :: ys)) : Kfz AL AH y ∧ KfzL AL AH ys := by
  rcases h with h | h
  · exact ⟨.inl h, .inl h⟩
  · simp only [noFzL, Bool.and_eq_true] at h
    exact ⟨.inr h.1, .inr h.2⟩

/-- A list of elements handed over, each by what hands one over. -/
theorem moveX {es : List Sh} (hE : ∀ (x : AV) (vs : List Value) (L : Heap) (φL : Phi) (AL : Avoid) (H : Heap) (φ : Phi) (AH : Avoid) (y : AV) (L1 : Heap) (a : AV) (H1 : Heap), Duo w L φL AL H φ AH → x.cells.length = vs.length →
      (∀ (j : Nat) (c : AV) (u : Value), x.cells[j]? = some c → vs[j]? = some u → R w L φL AL c u) → takeE es x L = some (y, L1) → thawV y H = (a, H1) → Kfz AL AH y →
      ∃ φ1, Moved w L φL AL H φ AH L1 H1 φ1 ∧ a.cells.length = x.cells.length ∧ ∀ (j : Nat) (c : AV) (u : Value), a.cells[j]? = some c → vs[j]? = some u → R w H1 φ1 AH c u) :
    ∀ (xs : List AV) (g : Nat → Nat → Value) (L : Heap) (φL : Phi) (AL : Avoid) (H : Heap) (φ : Phi) (AH : Avoid) (ys : List AV) (L1 : Heap) (as : List AV) (H1 : Heap), Duo w L φL AL H φ AH →
      (∀ (i : Nat) (x : AV) (j : Nat) (c : AV), xs[i]? = some x → x.cells[j]? = some c → R w L φL AL c (g i j)) → mapH (takeE es) xs L = some (ys, L1) → thawL ys H = (as, H1) → KfzL AL AH ys →
      ∃ φ1, Moved w L φL AL H φ AH L1 H1 φ1 ∧ as.length = xs.length ∧ (∀ (i : Nat) (x a : AV), xs[i]? = some x → as[i]? = some a → a.cells.length = x.cells.length) ∧
        ∀ (i : Nat) (a : AV) (j : Nat) (c : AV), as[i]? = some a → a.cells[j]? = some c → R w H1 φ1 AH c (g i j)
  | [], g, L, φL, AL, H, φ, AH, ys, L1, as, H1, hd, _, ht, hw, _ => by
    simp only [mapH, Option.some.injEq, Prod.mk.injEq] at ht
    obtain ⟨rfl, rfl⟩ := ht
    simp only [thawL, Prod.mk.injEq] at hw
    obtain ⟨rfl, rfl⟩ := hw
    exact ⟨φ, .refl hd, rfl, by simp, by simp⟩
  | x :: xs, g, L, φL, AL, H, φ, AH, ys, L1, as, H1, hd, hr, ht, hw, hk => by
    simp only [mapH] at ht
    split at ht
    · rename_i y L' h1
      split at ht
      · rename_i ys' L'' h2
        simp only [Option.some.injEq, Prod.mk.injEq] at ht
        obtain ⟨rfl, rfl⟩ := ht
        obtain ⟨k1, k2⟩ := hk.cons
        simp only [thawL, Prod.mk.injEq] at hw
        obtain ⟨rfl, rfl⟩ := hw
        let vs : List Value := (List.range x.cells.length).map (g 0)
        obtain ⟨φ1, m1, l1, r1⟩ := hE x vs L φL AL H φ AH y L' _ _ hd (by simp [vs]) (fun j c u hj hu => by
          have hjl : j < x.cells.length := (List.getElem?_eq_some_iff.1 hj).1
          have : vs[j]? = some (g 0 j) := by simp [vs, hjl]
          rw [this] at hu
          simp only [Option.some.injEq] at hu; subst hu; exact hr 0 x j c rfl hj) h1 rfl k1
        obtain ⟨φ2, m2, l2, s2, r2⟩ := moveX hE xs (fun i j => g (i + 1) j) L' (restr φL L') AL _ φ1 AH ys' L'' _ _ m1.duo (fun i x' j c hi hj => (hr (i + 1) x' j c hi hj).mono (lessEvo m1.less)) h2 rfl k2
        refine ⟨φ2, m1.trans m2, by simp [l2], fun i x' a hx ha => ?_, fun i a j c ha hc => ?_⟩
        · cases i with
          | zero => simp at hx ha; subst hx; subst ha; exact l1
          | succ i => exact s2 i x' a hx ha
        · cases i with
          | zero =>
            simp only [List.getElem?_cons_zero, Option.some.injEq] at ha; subst ha
            have hj : j < x.cells.length := by rw [← l1]; exact (List.getElem?_eq_some_iff.1 hc).1
            exact (r1 j c (g 0 j) hc (by simp [vs, hj])).mono m2.eh
          | succ i => exact r2 i a j c ha hc
      · simp at ht
    · simp at ht

/-- What a slice or a variable in the heap is, as it is handed over. -/
theorem blkMove {L : Heap} {φL : Phi} {AL : Avoid} {H : Heap} {φ : Phi} {AH : Avoid} (hd : Duo w L φL AL H φ AH) {id ver : Nat} {b : Blk} (hb : L.blk id ver = some b) {off n : Nat} (hle : off + n ≤ b.el.length) {sz : Nat} (hs : b.sz = sz) {loc : Loc} (hφ : φL id = some loc)
    {L1 : Heap} {as : List AV} {H1 : Heap} {g : Nat → Nat → Value} {φ1 : Phi} (hg : ∀ c b0 arr T fr, loc = .at_ c b0 → w.heap[c]? = some (.cells arr T fr) → ∀ (i j : Nat) (v : Value), i < n → j < sz → arr[b0 + (off + i) * sz + j]? = some v → g i j = v)
    (m : Moved w (L.del id) (restr φL (L.del id)) AL H φ AH L1 H1 φ1) (hl : as.length = n) (hsd : ∀ (i : Nat) (a : AV), as[i]? = some a → a.cells.length = sz)
    (hr : ∀ (i : Nat) (a : AV) (j : Nat) (c : AV), as[i]? = some a → a.cells[j]? = some c → R w H1 φ1 AH c (g i j)) (fx : Bool) (loc' : Loc) (hloc : loc' = .virt ∧ n = 0 ∨ ∃ c b0, loc = .at_ c b0 ∧ loc' = .at_ c (b0 + off * sz)) :
    Moved w L φL AL H φ AH L1 (H1.new sz fx as) (fun i => if i = H1.bs.length then some loc' else φ1 i) := by
  have hgt := (Heap.blk_get hb).1
  have hless := (Less.del L id).trans m.less
  have hrr : restr (restr φL (L.del id)) L1 = restr φL L1 := restr_restr m.less
  have m' : Moved w L φL AL H φ AH L1 H1 φ1 := by
    refine ⟨hless, by have := m.duo; rwa [hrr] at this, m.eh, fun c hc => ?_, m.oh', m.hlen, m.hget, m.hphi⟩
    rcases m.oh c hc with h | ⟨h1, h2⟩
    · exact .inl h
    · rw [hrr] at h2; exact .inr ⟨restr_ow h1, h2⟩
  refine newAt m' hsd (fun hv => ?_) (fun c b1 he => ?_)
  · rcases hloc with ⟨_, h0⟩ | ⟨c, b0, _, h2⟩
    · exact List.eq_nil_of_length_eq_zero (by omega)
    · rw [h2] at hv; simp at hv
  · rcases hloc with ⟨h1, _⟩ | ⟨c', b0, h1, h2⟩
    · rw [h1] at he; simp at he
    · rw [h2] at he
      simp only [Loc.at_.injEq] at he
      obtain ⟨rfl, rfl⟩ := he
      subst h1
      have hoc : Ow φL c' := ⟨id, b0, hφ⟩
      have hnot : ¬ Ow (restr φL L1) c' := by
        rintro ⟨i, bb, hi⟩
        obtain ⟨hi1, bk, hbk⟩ := restr_some hi
        have := hd.sl.inj _ _ _ _ _ hi1 hφ
        subst this
        have := m.less.get _ _ hbk
        rw [Heap.get_del, if_pos rfl] at this
        simp at this
      refine ⟨hoc, hnot, fun ho => ?_, hd.cov _ hoc, ?_⟩
      · rcases m.oh c' ho with h | ⟨⟨i, bb, hi⟩, _⟩
        · exact hd.dis c' hoc h
        · obtain ⟨hi1, bk, hbk⟩ := restr_some hi
          have := hd.sl.inj _ _ _ _ _ hi1 hφ
          subst this
          rw [Heap.get_del, if_pos rfl] at hbk
          simp at hbk
      · obtain ⟨bk, hbk, hok⟩ := hd.sl.blk id _ hφ
        rw [hgt] at hbk
        simp only [Option.some.injEq] at hbk; subst hbk
        obtain ⟨arr, T, fr, k1, k2, k3, k4⟩ := hok.here c' b0 rfl
        have hmul : off * sz + n * sz ≤ b.el.length * sz := by rw [← Nat.add_mul]; exact Nat.mul_le_mul_right _ hle
        refine ⟨arr, T, fr, k1, k2, by rw [hl]; rw [hs] at k3; omega, fun i a j c v ha hc hv => ?_⟩
        have hi : i < n := by rw [← hl]; exact (List.getElem?_eq_some_iff.1 ha).1
        have hj : j < sz := by rw [← hsd i a ha]; exact (List.getElem?_eq_some_iff.1 hc).1
        have e : b0 + off * sz + i * sz + j = b0 + (off + i) * sz + j := by rw [Nat.add_mul]; omega
        rw [e] at hv
        have hgv := hg c' b0 arr T fr rfl k1 i j v hi hj hv
        refine ⟨by rw [← hgv]; exact hr i a j c ha hc, ?_⟩
        have hel : off + i < b.el.length := by omega
        have hx := List.getElem?_eq_getElem hel
        have hxl := hok.sized _ _ hx
        exact (k4 (off + i) _ j _ v hx (List.getElem?_eq_getElem (by omega)) (by rw [hs]; exact hv)).2
end duo
end Go.VS

/-
  VS, part 22: handing over, by shapes.
-/
namespace Go.VS

section duo
variable {w : World}

theorem cells_one {x : AV} (h1 : x ≠ .undef) (h2 : ∀ cs, x ≠ .agg cs) : x.cells = [x] := by
  cases x <;> first | rfl | exact absurd rfl h1 | exact absurd rfl (h2 _)

theorem blk_same {H : Heap} {id ver : Nat} {b b' : Blk} (h : H.get id = some b) (h' : H.blk id ver = some b') : b' = b := by
  have := (Heap.blk_get h').1
  rw [h] at this
  simp only [Option.some.injEq] at this
  exact this.symm

mutual
theorem moveT (sh : Sh) (x : AV) (v : Value) (L : Heap) (φL : Phi) (AL : Avoid) (H : Heap) (φ : Phi) (AH : Avoid) (y : AV) (L1 : Heap) (a : AV) (H1 : Heap) (hd : Duo w L φL AL H φ AH) (hx : R w L φL AL x v)
    (ht : takeT sh x L = some (y, L1)) (hw : thawV y H = (a, H1)) (hk : Kfz AL AH y) : ∃ φ1, Moved w L φL AL H φ AH L1 H1 φ1 ∧ R w H1 φ1 AH a v ∧ (x ≠ .undef → a.cells = [a]) ∧ (x = .undef → a = .undef) := by
  cases sh with
  | sc =>
    simp only [takeT] at ht
    split at ht
    · rename_i hp
      simp only [Option.some.injEq, Prod.mk.injEq] at ht
      obtain ⟨rfl, rfl⟩ := ht
      rw [thaw_plain hp] at hw
      simp only [Prod.mk.injEq] at hw
      obtain ⟨rfl, rfl⟩ := hw
      exact ⟨φ, .refl hd, plain_R hp hx, fun hu => cells_one hu (by rintro cs rfl; simp [plainA] at hp), fun h => h⟩
    · simp at ht
  | sl es =>
    have hnil : ∀ {v0 : Option Addr}, v = .slice v0 0 0 → thawV (.own es.length []) H = (a, H1) → L1 = L → ∃ φ1, Moved w L φL AL H φ AH L1 H1 φ1 ∧ R w H1 φ1 AH a v ∧ a.cells = [a] := by
      intro v0 hv hw hL
      subst hL
      simp only [thawV, thawL, Prod.mk.injEq] at hw
      obtain ⟨rfl, rfl⟩ := hw
      have m := newAt (Moved.refl hd) (sz := es.length) (fx := false) (el := []) (loc := .virt) (by simp) (fun _ => rfl) (by simp)
      refine ⟨_, m, ?_, rfl⟩
      refine .ref _ _ _ _ _ (Nat.lt_succ_self _) ⟨_, _, hv⟩ fun b hb => ?_
      have := blk_same (Heap.get_new H es.length false []) hb
      subst this
      exact ⟨.virt, v0, 0, by simp, hv, by simp, Nat.le_refl _, by simp, rfl, fun _ => rfl⟩
    cases x with
    | nil =>
      simp only [takeT, Option.some.injEq, Prod.mk.injEq] at ht
      obtain ⟨rfl, rfl⟩ := ht
      obtain ⟨φ1, h1, h2, h3⟩ := hnil hx.nil_inv hw rfl
      exact ⟨φ1, h1, h2, fun _ => h3, fun h => by simp at h⟩
    | e0 =>
      simp only [takeT, Option.some.injEq, Prod.mk.injEq] at ht
      obtain ⟨rfl, rfl⟩ := ht
      obtain ⟨a0, ha0⟩ := hx.e0_inv
      obtain ⟨φ1, h1, h2, h3⟩ := hnil ha0 hw rfl
      exact ⟨φ1, h1, h2, fun _ => h3, fun h => by simp at h⟩
    | fz xs =>
      simp only [takeT, Option.some.injEq, Prod.mk.injEq] at ht
      obtain ⟨rfl, rfl⟩ := ht
      simp only [thawV, Prod.mk.injEq] at hw
      obtain ⟨rfl, rfl⟩ := hw
      rcases hk with hk | hk
      · exact ⟨φ, .refl hd, .fr _ _ (hx.fz_inv.shrink hk), fun _ => rfl, fun h => by simp at h⟩
      · simp [noFz] at hk
    | ref id ver off len =>
      simp only [takeT] at ht
      split at ht
      · rename_i b hb
        split at ht
        · rename_i hc
          obtain ⟨c1, c2, c3⟩ := hc
          split at ht
          · rename_i ys L' hm
            simp only [Option.some.injEq, Prod.mk.injEq] at ht
            obtain ⟨rfl, rfl⟩ := ht
            simp only [thawV, Prod.mk.injEq] at hw
            obtain ⟨rfl, rfl⟩ := hw
            have hg := (Heap.blk_get hb).1
            obtain ⟨hver, _, hr⟩ := hx.ref_inv
            obtain ⟨loc, a0, cap, q1, rfl, q3, q4, q5, q6⟩ := (hr b hb).out
            obtain ⟨bk, hbk, hok⟩ := hd.sl.blk id _ q1
            rw [hg] at hbk
            simp only [Option.some.injEq] at hbk; subst hbk
            have hk' : KfzL AL AH ys := by
              rcases hk with h | h
              · exact .inl h
              · exact .inr (by simpa [noFz] using h)
            have hlss := Less.del L id
            have hd' : Duo w (L.del id) (restr φL (L.del id)) AL H φ AH := ⟨lessSt hd.sl hlss, hd.sh, fun c hc => hd.dis c (restr_ow hc), fun c hc => hd.cov c (restr_ow hc)⟩
            have hsub : (subL b.el off len).length = len := by simp [subL]; omega
            have hsubg : ∀ (i : Nat) (x : AV), (subL b.el off len)[i]? = some x → b.el[off + i]? = some x := by
              intro i x hi
              simp only [subL, List.getElem?_take, List.getElem?_drop] at hi
              split at hi
              · exact hi
              · simp at hi
            -- what lies in memory
            let g : Nat → Nat → Value := match loc with
              | .virt => fun _ _ => undef
              | .at_ c b0 => fun i j => match w.heap[c]? with
                | some (.cells arr _ _) => arr.getD (b0 + (off + i) * es.length + j) undef
                | _ => undef
            have hrel : ∀ (i : Nat) (x : AV) (j : Nat) (c : AV), (subL b.el off len)[i]? = some x → x.cells[j]? = some c → R w (L.del id) (restr φL (L.del id)) AL c (g i j) := by
              intro i x j c hi hj
              have hx' := hsubg i x hi
              have hil : i < len := by rw [← hsub]; exact (List.getElem?_eq_some_iff.1 hi).1
              cases loc with
              | virt => have := hok.virt rfl; rw [this] at hx'; simp at hx'
              | at_ c0 b0 =>
                obtain ⟨arr, T, fr, k1, k2, k3, k4⟩ := hok.here c0 b0 rfl
                have hjl : j < b.sz := by rw [← hok.sized _ _ hx']; exact (List.getElem?_eq_some_iff.1 hj).1
                have hle := mul_lt_le (n := b.sz) (show off + i < b.el.length by omega)
                have hlt : b0 + (off + i) * b.sz + j < arr.size := by omega
                have : g i j = arr[b0 + (off + i) * b.sz + j] := by
                  simp only [g, k1, ← c1, Array.getD_eq_getD_getElem?, Array.getElem?_eq_getElem hlt, Option.getD_some]
                rw [this]
                exact ((k4 _ _ _ _ _ hx' hj (Array.getElem?_eq_getElem hlt)).1).mono (lessEvo hlss)
            obtain ⟨φ1, m, l1, s1, r1⟩ := moveX (w := w) (es := es) (fun x vs L φL AL H φ AH y L1 a H1 => moveE es x vs L φL AL H φ AH y L1 a H1) _ g _ _ _ _ _ _ _ _ _ _ hd' hrel hm rfl hk'
            rw [hsub] at l1
            have hlen2 : ∀ (i : Nat) (a : AV), (thawL ys H).1[i]? = some a → a.cells.length = b.sz := by
              intro i a ha
              have hil : i < (subL b.el off len).length := by rw [hsub, ← l1]; exact (List.getElem?_eq_some_iff.1 ha).1
              have hxi := List.getElem?_eq_getElem hil
              rw [s1 i _ a hxi ha]
              exact hok.sized _ _ (hsubg i _ hxi)
            have hgg : ∀ c b0 arr T fr, loc = .at_ c b0 → w.heap[c]? = some (.cells arr T fr) → ∀ (i j : Nat) (v : Value), i < len → j < b.sz → arr[b0 + (off + i) * b.sz + j]? = some v → g i j = v := by
              intro c b0 arr T fr hl hh i j v _ _ hv
              subst hl
              simp only [g, hh, ← c1, Array.getD_eq_getD_getElem?, hv, Option.getD_some]
            let loc' : Loc := match loc with
              | .virt => .virt
              | .at_ c b0 => if cap = 0 then .virt else .at_ c (b0 + off * b.sz)
            have hloc : loc' = .virt ∧ len = 0 ∨ ∃ c b0, loc = .at_ c b0 ∧ loc' = .at_ c (b0 + off * b.sz) := by
              cases loc with
              | virt => left; refine ⟨rfl, ?_⟩; have := hok.virt rfl; rw [this] at q3; simp at q3; omega
              | at_ c b0 =>
                by_cases hc0 : cap = 0
                · left; exact ⟨by simp [loc', hc0], by omega⟩
                · right; exact ⟨c, b0, rfl, by simp [loc', hc0]⟩
            have M := blkMove hd hb c2 rfl q1 hgg m l1 hlen2 r1 false loc' hloc
            rw [c1] at M
            refine ⟨_, M, ?_, fun _ => rfl, fun h => by simp at h⟩
            refine .ref _ _ _ _ _ (Nat.lt_succ_self _) ⟨a0, cap, by rw [l1]⟩ fun b' hb' => ?_
            have := blk_same (Heap.get_new (thawL ys H).2 es.length false (thawL ys H).1) hb'
            subst this
            refine ⟨loc', a0, cap, by simp, by rw [l1], by simp, by omega, by simp only; omega, ?_⟩
            cases loc with
            | virt =>
              simp only at q6
              have hl0 : len = 0 := by have := hok.virt rfl; rw [this] at q3; simp at q3; omega
              refine ⟨List.eq_nil_of_length_eq_zero (by rw [l1, hl0]), fun _ => ?_⟩
              rcases c3 with c3 | c3
              · exact q6.2 c3
              · omega
            | at_ c b0 =>
              simp only at q6
              by_cases hc0 : cap = 0
              · simp only [loc', hc0, if_true]
                exact ⟨List.eq_nil_of_length_eq_zero (by omega), fun _ => by first | trivial | omega | rfl⟩
              · simp only [loc', hc0, if_false]
                rcases q6 with q6 | ⟨h1, h2⟩
                · exact absurd q6 hc0
                · refine Or.inr ⟨by rw [h1]; simp, ?_⟩
                  rw [c1] at h2 ⊢
                  have : (off + cap) * es.length = off * es.length + cap * es.length := Nat.add_mul _ _ _
                  simp only [Nat.zero_add]
                  omega
          · simp at ht
        · simp at ht
      · simp at ht
    | _ => simp [takeT] at ht
  | pt es =>
    cases x with
    | fe z o =>
      simp only [takeT, Option.some.injEq, Prod.mk.injEq] at ht
      obtain ⟨rfl, rfl⟩ := ht
      simp only [thawV, Prod.mk.injEq] at hw
      obtain ⟨rfl, rfl⟩ := hw
      rcases hk with hk | hk
      · exact ⟨φ, .refl hd, .fr _ _ (hx.fe_inv.shrink hk), fun _ => rfl, fun h => by simp at h⟩
      · simp [noFz] at hk
    | ptr id ver idx off =>
      rcases idx with _ | idx
      rotate_left
      · simp [takeT] at ht
      rcases off with _ | off
      rotate_left
      · simp [takeT] at ht
      simp only [takeT] at ht
      split at ht
      · rename_i bver sz bfix z hb
        split at ht
        · rename_i y' L' hm
          simp only [Option.some.injEq, Prod.mk.injEq] at ht
          obtain ⟨rfl, rfl⟩ := ht
          simp only [thawV, Prod.mk.injEq] at hw
          obtain ⟨rfl, rfl⟩ := hw
          have hg := (Heap.blk_get hb).1
          obtain ⟨hver, _, hr⟩ := hx.ptr_inv
          obtain ⟨c, b0, q1, rfl⟩ := hr _ hb
          obtain ⟨bk, hbk, hok⟩ := hd.sl.blk id _ q1
          rw [hg] at hbk
          simp only [Option.some.injEq] at hbk; subst hbk
          obtain ⟨arr, T, fr, k1, k2, k3, k4⟩ := hok.here c b0 rfl
          have hk' : Kfz AL AH y' := by
            rcases hk with h | h
            · exact .inl h
            · exact .inr (by simpa [noFz] using h)
          have hlss := Less.del L id
          have hd' : Duo w (L.del id) (restr φL (L.del id)) AL H φ AH := ⟨lessSt hd.sl hlss, hd.sh, fun c hc => hd.dis c (restr_ow hc), fun c hc => hd.cov c (restr_ow hc)⟩
          have hzl : z.cells.length = sz := hok.sized 0 z rfl
          simp only [List.length_singleton, Nat.one_mul] at k3
          let vs : List Value := (arr.extract b0 (b0 + sz)).toList
          have hvs : vs.length = sz := by simp [vs]; omega
          have hvg : ∀ j u, vs[j]? = some u → arr[b0 + j]? = some u := by
            intro j u hu
            simp only [vs, Array.getElem?_toList, Array.getElem?_extract] at hu
            split at hu
            · exact hu
            · simp at hu
          obtain ⟨φ1, m, l1, r1⟩ := moveE es z vs _ _ _ _ _ _ _ _ _ _ hd' (by rw [hvs, hzl]) (fun j c' u hj hu => ((k4 0 z j c' u rfl hj (by simpa using hvg j u hu)).1).mono (lessEvo hlss)) hm rfl hk'
          have M := blkMove (as := [(thawV y' H).1]) (n := 1) (off := 0) (sz := sz) (loc' := .at_ c b0) (g := fun i j => vs.getD j undef) hd hb (by simp) rfl q1 (fun c' b0' arr' T' fr' hl hh i j v hi hj hv => by
              simp only [Loc.at_.injEq] at hl
              obtain ⟨rfl, rfl⟩ := hl
              rw [k1] at hh
              simp only [Option.some.injEq, Obj.cells.injEq] at hh
              obtain ⟨rfl, _, _⟩ := hh
              have hi0 : i = 0 := by omega
              subst hi0
              simp only [Nat.zero_mul, Nat.add_zero] at hv
              have : vs[j]? = some v := by
                simp only [vs, Array.getElem?_toList, Array.getElem?_extract]
                rw [if_pos (by omega)]; exact hv
              simp [List.getD, this]) m rfl (fun i a ha => by
              cases i with
              | zero => simp at ha; subst ha; rw [l1, hzl]
              | succ i => simp at ha) (fun i a j c' ha hc => by
              cases i with
              | zero =>
                simp at ha; subst ha
                have hj : j < vs.length := by rw [hvs, ← hzl, ← l1]; exact (List.getElem?_eq_some_iff.1 hc).1
                have := r1 j c' vs[j] hc (List.getElem?_eq_getElem hj)
                simpa [List.getD, hj] using this
              | succ i => simp at ha) false (.inr ⟨c, b0, rfl, by simp⟩)
          refine ⟨_, M, ?_, fun _ => rfl, fun h => by simp at h⟩
          refine .ptr _ _ _ _ _ (Nat.lt_succ_self _) ⟨_, rfl⟩ fun b' hb' => ⟨c, b0, by simp, ?_⟩
          simp
        · simp at ht
      · simp at ht
    | _ => simp [takeT] at ht
  termination_by (SizeOf.sizeOf sh, 0)
theorem moveE (es : List Sh) (x : AV) (vs : List Value) (L : Heap) (φL : Phi) (AL : Avoid) (H : Heap) (φ : Phi) (AH : Avoid) (y : AV) (L1 : Heap) (a : AV) (H1 : Heap) (hd : Duo w L φL AL H φ AH) (hl : x.cells.length = vs.length)
    (hx : ∀ (j : Nat) (c : AV) (u : Value), x.cells[j]? = some c → vs[j]? = some u → R w L φL AL c u) (ht : takeE es x L = some (y, L1)) (hw : thawV y H = (a, H1)) (hk : Kfz AL AH y) :
    ∃ φ1, Moved w L φL AL H φ AH L1 H1 φ1 ∧ a.cells.length = x.cells.length ∧ ∀ (j : Nat) (c : AV) (u : Value), a.cells[j]? = some c → vs[j]? = some u → R w H1 φ1 AH c u := by
  by_cases hag : ∃ cs, x = .agg cs
  · obtain ⟨cs, rfl⟩ := hag
    have ht' : ∃ cs', takeC es cs L = some (cs', L1) ∧ y = .agg cs' := by
      match es, ht with
      | [], ht =>
        simp only [takeE] at ht
        split at ht
        · rename_i cs' L' hc
          simp only [Option.some.injEq, Prod.mk.injEq] at ht
          obtain ⟨rfl, rfl⟩ := ht
          exact ⟨cs', hc, rfl⟩
        · simp at ht
      | [e], ht =>
        simp only [takeE] at ht
        split at ht
        · rename_i cs' L' hc
          simp only [Option.some.injEq, Prod.mk.injEq] at ht
          obtain ⟨rfl, rfl⟩ := ht
          exact ⟨cs', hc, rfl⟩
        · simp at ht
      | e :: e' :: es, ht =>
        simp only [takeE] at ht
        split at ht
        · rename_i cs' L' hc
          simp only [Option.some.injEq, Prod.mk.injEq] at ht
          obtain ⟨rfl, rfl⟩ := ht
          exact ⟨cs', hc, rfl⟩
        · simp at ht
    obtain ⟨cs', hc, rfl⟩ := ht'
    simp only [thawV, Prod.mk.injEq] at hw
    obtain ⟨rfl, rfl⟩ := hw
    have hk' : KfzL AL AH cs' := by
      rcases hk with h | h
      · exact .inl h
      · exact .inr (by simpa [noFz] using h)
    exact moveC es cs vs L φL AL H φ AH cs' L1 _ _ hd hl hx hc rfl hk'
  · have hnag : ∀ cs, x ≠ .agg cs := fun cs h => hag ⟨cs, h⟩
    match es, ht with
    | [e], ht =>
      have ht' : takeT e x L = some (y, L1) := by
        cases x <;> first | (simpa only [takeE] using ht) | exact absurd rfl (hnag _)
      by_cases hu : x = .undef
      · subst hu
        have hv0 : vs = [] := List.eq_nil_of_length_eq_zero (by simpa [AV.cells] using hl.symm)
        subst hv0
        obtain ⟨φ1, m, _, _, h4⟩ := moveT e .undef undef L φL AL H φ AH y L1 a H1 hd (.fr _ _ (.undef _)) ht' hw hk
        exact ⟨φ1, m, by rw [h4 rfl], by simp⟩
      · have hc1 := cells_one hu hnag
        rw [hc1] at hl
        obtain ⟨v, rfl⟩ : ∃ v, vs = [v] := by
          match vs, hl with
          | [v], _ => exact ⟨v, rfl⟩
        obtain ⟨φ1, m, h2, h3, _⟩ := moveT e x v L φL AL H φ AH y L1 a H1 hd (hx 0 x v (by rw [hc1]; rfl) rfl) ht' hw hk
        refine ⟨φ1, m, by rw [h3 hu, hc1]; rfl, fun j c u hj hu' => ?_⟩
        rw [h3 hu] at hj
        cases j with
        | zero => simp at hj hu'; subst hj; subst hu'; exact h2
        | succ j => simp at hj
    | [], ht => cases x <;> first | (simp [takeE] at ht; done) | exact absurd rfl (hnag _)
    | _ :: _ :: _, ht => cases x <;> first | (simp [takeE] at ht; done) | exact absurd rfl (hnag _)
  termination_by (SizeOf.sizeOf es, 1)
theorem moveC (es : List Sh) (cs : List AV) (vs : List Value) (L : Heap) (φL : Phi) (AL : Avoid) (H : Heap) (φ : Phi) (AH : Avoid) (ys : List AV) (L1 : Heap) (as : List AV) (H1 : Heap) (hd : Duo w L φL AL H φ AH) (hl : cs.length = vs.length)
    (hx : ∀ (j : Nat) (c : AV) (u : Value), cs[j]? = some c → vs[j]? = some u → R w L φL AL c u) (ht : takeC es cs L = some (ys, L1)) (hw : thawL ys H = (as, H1)) (hk : KfzL AL AH ys) :
    ∃ φ1, Moved w L φL AL H φ AH L1 H1 φ1 ∧ as.length = cs.length ∧ ∀ (j : Nat) (c : AV) (u : Value), as[j]? = some c → vs[j]? = some u → R w H1 φ1 AH c u := by
  match es, cs, ht with
  | [], [], ht =>
    simp only [takeC, Option.some.injEq, Prod.mk.injEq] at ht
    obtain ⟨rfl, rfl⟩ := ht
    simp only [thawL, Prod.mk.injEq] at hw
    obtain ⟨rfl, rfl⟩ := hw
    exact ⟨φ, .refl hd, rfl, by simp⟩
  | e :: es, x :: cs, ht =>
    simp only [takeC] at ht
    split at ht
    · rename_i y L' h1
      split at ht
      · rename_i ys' L'' h2
        simp only [Option.some.injEq, Prod.mk.injEq] at ht
        obtain ⟨rfl, rfl⟩ := ht
        simp only [thawL, Prod.mk.injEq] at hw
        obtain ⟨rfl, rfl⟩ := hw
        obtain ⟨k1, k2⟩ := hk.cons
        match vs, hl with
        | v :: vs, hl =>
          obtain ⟨φ1, m1, r1, _, _⟩ := moveT e x v L φL AL H φ AH y L' _ _ hd (hx 0 x v rfl rfl) h1 rfl k1
          obtain ⟨φ2, m2, l2, r2⟩ := moveC es cs vs L' (restr φL L') AL _ φ1 AH ys' L'' _ _ m1.duo (by simpa using hl) (fun j c u hj hu => (hx (j + 1) c u hj hu).mono (lessEvo m1.less)) h2 rfl k2
          refine ⟨φ2, m1.trans m2, by simp [l2], fun j c u hj hu => ?_⟩
          cases j with
          | zero => simp at hj hu; subst hj; subst hu; exact r1.mono m2.eh
          | succ j => exact r2 j c u hj hu
      · simp at ht
    · simp at ht
  | [], _ :: _, ht => simp [takeC] at ht
  | _ :: _, [], ht => simp [takeC] at ht
  termination_by (SizeOf.sizeOf es, 0)
end
end duo
end Go.VS

/-
  VS, part 23: whole values handed over; values kept for good; values lent.
-/
namespace Go.VS

section duo
variable {w : World}

theorem R.shrinkA {H : Heap} {φ : Phi} {A A' : Avoid} (hA : ∀ c, A' c → A c) {x : AV} {v : Value} (h : R w H φ A x v) : R w H φ A' x v :=
  h.mono ⟨fun c _arr _T fr hc hn => ⟨⟨fr, hc⟩, fun h => hn (hA c h)⟩, Nat.le_refl _, fun _id b h _ => ⟨b, h, rfl, rfl, rfl, rfl, fun _ h => h⟩, fun _ _ => rfl⟩

theorem takeE_agg {es : List Sh} {cs : List AV} {L L1 : Heap} {y : AV} (ht : takeE es (.agg cs) L = some (y, L1)) : ∃ cs', takeC es cs L = some (cs', L1) ∧ y = .agg cs' := by
  match es, ht with
  | [], ht =>
    simp only [takeE] at ht
    split at ht
    · rename_i cs' L' hc
      simp only [Option.some.injEq, Prod.mk.injEq] at ht
      obtain ⟨rfl, rfl⟩ := ht
      exact ⟨cs', hc, rfl⟩
    · simp at ht
  | [e], ht =>
    simp only [takeE] at ht
    split at ht
    · rename_i cs' L' hc
      simp only [Option.some.injEq, Prod.mk.injEq] at ht
      obtain ⟨rfl, rfl⟩ := ht
      exact ⟨cs', hc, rfl⟩
    · simp at ht
  | e :: e' :: es, ht =>
    simp only [takeE] at ht
    split at ht
    · rename_i cs' L' hc
      simp only [Option.some.injEq, Prod.mk.injEq] at ht
      obtain ⟨rfl, rfl⟩ := ht
      exact ⟨cs', hc, rfl⟩
    · simp at ht

theorem takeE_one {es : List Sh} {x : AV} (hx : ∀ cs, x ≠ .agg cs) {L L1 : Heap} {y : AV} (ht : takeE es x L = some (y, L1)) : ∃ e, es = [e] ∧ takeT e x L = some (y, L1) := by
  match es, ht with
  | [e], ht =>
    refine ⟨e, rfl, ?_⟩
    cases x <;> first | (simpa only [takeE] using ht) | exact absurd rfl (hx _)
  | [], ht => cases x <;> first | (simp [takeE] at ht; done) | exact absurd rfl (hx _)
  | _ :: _ :: _, ht => cases x <;> first | (simp [takeE] at ht; done) | exact absurd rfl (hx _)

/-- A whole value, handed over. -/
theorem moveV {es : List Sh} {x : AV} {v : Value} {L : Heap} {φL : Phi} {AL : Avoid} {H : Heap} {φ : Phi} {AH : Avoid} {y : AV} {L1 : Heap} {a : AV} {H1 : Heap} (hd : Duo w L φL AL H φ AH) (hx : R w L φL AL x v)
    (ht : takeE es x L = some (y, L1)) (hw : thawV y H = (a, H1)) (hk : Kfz AL AH y) : ∃ φ1, Moved w L φL AL H φ AH L1 H1 φ1 ∧ R w H1 φ1 AH a v := by
  by_cases hag : ∃ cs, x = .agg cs
  · obtain ⟨cs, rfl⟩ := hag
    obtain ⟨cs', hc, rfl⟩ := takeE_agg ht
    simp only [thawV, Prod.mk.injEq] at hw
    obtain ⟨rfl, rfl⟩ := hw
    have hk' : KfzL AL AH cs' := by
      rcases hk with h | h
      · exact .inl h
      · exact .inr (by simpa [noFz] using h)
    obtain ⟨vs, rfl, hl, ho, hp⟩ := hx.agg_inv
    obtain ⟨φ1, m, l1, r1⟩ := moveC es cs vs.toList L φL AL H φ AH cs' L1 _ _ hd (by simpa using hl) (fun j c u hj hu => hp j c u hj (by simpa using hu)) hc rfl hk'
    exact ⟨φ1, m, .agg _ _ (by rw [l1, hl]) ho fun i x v hx hv => r1 i x v hx (by simpa using hv)⟩
  · obtain ⟨e, rfl, ht'⟩ := takeE_one (fun cs h => hag ⟨cs, h⟩) ht
    obtain ⟨φ1, m, r, _⟩ := moveT e x v L φL AL H φ AH y L1 a H1 hd hx ht' hw hk
    exact ⟨φ1, m, r⟩

/-! Kept for good. -/
def gone (φ : Phi) (A : Avoid) (L1 : Heap) : Avoid := fun c => A c ∧ (Ow φ c → Ow (restr φ L1) c)

/-- What is taken only grows less: nothing that has gone comes again. -/
theorem gone_less {φ : Phi} {A : Avoid} {L L1 : Heap} (h : Less L L1) {c : Nat} (hc : gone φ A L1 c) : gone φ A L c :=
  ⟨hc.1, fun ho => by
    obtain ⟨i, b, hi⟩ := hc.2 ho
    obtain ⟨h1, bk, h2⟩ := restr_some hi
    exact ⟨i, b, by simp [restr, h.get _ _ h2, h1]⟩⟩

theorem gone_at {w : World} {L L1 : Heap} {φ : Phi} {A : Avoid} (hst : St w L φ A) {id c b0 : Nat} (h : φ id = some (.at_ c b0)) (hn : L1.get id = none) : ¬ gone φ A L1 c := by
  rintro ⟨_, h2⟩
  obtain ⟨i, b, hi⟩ := h2 ⟨id, b0, h⟩
  obtain ⟨h1, bk, h3⟩ := restr_some hi
  have := hst.inj _ _ _ _ _ h1 h
  subst this
  rw [hn] at h3; simp at h3

theorem frz_plain {x : AV} (hp : plainA x = true) : frzV x = x := by
  cases x <;> first | rfl | simp [plainA] at hp

theorem plain_FR {L : Heap} {φL : Phi} {AL A' : Avoid} {x : AV} {v : Value} (hp : plainA x = true) (h : R w L φL AL x v) : FR w A' x v := by
  cases x with
  | undef => exact .undef _
  | int k n => have := h.int_inv; subst this; exact .int _ _
  | bool b => have := h.bool_inv; subst this; exact .bool _
  | str s => obtain ⟨b, rfl, rfl⟩ := h.str_inv; exact .str _
  | errv b => rcases h.errv_inv with ⟨rfl, rfl⟩ | ⟨rfl, t, u, rfl⟩; exact .noerr; exact .err _ _
  | nilp => cases h with | fr _ _ h => cases h; exact .nilp
  | _ => simp [plainA] at hp

/-- What a list's elements become. -/
theorem mapH_less {f : AV → Heap → Option (AV × Heap)} (hf : ∀ x L y L1, f x L = some (y, L1) → Less L L1) : ∀ (xs : List AV) (L : Heap) (ys : List AV) (L1 : Heap), mapH f xs L = some (ys, L1) → Less L L1
  | [], L, ys, L1, h => by simp [mapH] at h; obtain ⟨_, rfl⟩ := h; exact .refl _
  | x :: xs, L, ys, L1, h => by
    simp only [mapH] at h
    split at h
    · rename_i y L' h1
      split at h
      · rename_i ys' L'' h2
        simp only [Option.some.injEq, Prod.mk.injEq] at h
        obtain ⟨_, rfl⟩ := h
        exact (hf _ _ _ _ h1).trans (mapH_less hf xs L' ys' _ h2)
      · simp at h
    · simp at h

mutual
theorem takeT_less : ∀ (sh : Sh) (x : AV) (L : Heap) (y : AV) (L1 : Heap), takeT sh x L = some (y, L1) → Less L L1
  | .sc, x, L, y, L1, ht => by
    simp only [takeT] at ht
    split at ht
    · simp only [Option.some.injEq, Prod.mk.injEq] at ht; obtain ⟨_, rfl⟩ := ht; exact .refl _
    · simp at ht
  | .sl es, x, L, y, L1, ht => by
    cases x with
    | ref id ver off len =>
      simp only [takeT] at ht
      split at ht
      · split at ht
        · split at ht
          · rename_i ys L' hm
            simp only [Option.some.injEq, Prod.mk.injEq] at ht
            obtain ⟨_, rfl⟩ := ht
            exact (Less.del L id).trans (mapH_less (fun x L y L1 h => takeE_less es x L y L1 h) _ _ _ _ hm)
          · simp at ht
        · simp at ht
      · simp at ht
    | _ => first
      | (simp [takeT] at ht; done)
      | (simp only [takeT, Option.some.injEq, Prod.mk.injEq] at ht; obtain ⟨_, rfl⟩ := ht; exact .refl _)
  | .pt es, x, L, y, L1, ht => by
    cases x with
    | fe z o => simp only [takeT, Option.some.injEq, Prod.mk.injEq] at ht; obtain ⟨_, rfl⟩ := ht; exact .refl _
    | ptr id ver idx off =>
      rcases idx with _ | idx
      rotate_left
      · simp [takeT] at ht
      rcases off with _ | off
      rotate_left
      · simp [takeT] at ht
      simp only [takeT] at ht
      split at ht
      · split at ht
        · rename_i y' L' hm
          simp only [Option.some.injEq, Prod.mk.injEq] at ht
          obtain ⟨_, rfl⟩ := ht
          exact (Less.del L id).trans (takeE_less es _ _ _ _ hm)
        · simp at ht
      · simp at ht
    | _ => simp [takeT] at ht
  termination_by sh => (SizeOf.sizeOf sh, 0)
theorem takeE_less : ∀ (es : List Sh) (x : AV) (L : Heap) (y : AV) (L1 : Heap), takeE es x L = some (y, L1) → Less L L1
  | es, x, L, y, L1, ht => by
    by_cases hag : ∃ cs, x = .agg cs
    · obtain ⟨cs, rfl⟩ := hag
      obtain ⟨cs', hc, _⟩ := takeE_agg ht
      exact takeC_less es cs L cs' L1 hc
    · obtain ⟨e, rfl, ht'⟩ := takeE_one (fun cs h => hag ⟨cs, h⟩) ht
      exact takeT_less e x L y L1 ht'
  termination_by es => (SizeOf.sizeOf es, 1)
theorem takeC_less : ∀ (es : List Sh) (cs : List AV) (L : Heap) (ys : List AV) (L1 : Heap), takeC es cs L = some (ys, L1) → Less L L1
  | [], [], L, ys, L1, ht => by simp [takeC] at ht; obtain ⟨_, rfl⟩ := ht; exact .refl _
  | e :: es, x :: cs, L, ys, L1, ht => by
    simp only [takeC] at ht
    split at ht
    · rename_i y L' h1
      split at ht
      · rename_i ys' L'' h2
        simp only [Option.some.injEq, Prod.mk.injEq] at ht
        obtain ⟨_, rfl⟩ := ht
        exact (takeT_less e x L y L' h1).trans (takeC_less es cs L' ys' _ h2)
      · simp at ht
    · simp at ht
  | [], _ :: _, _, _, _, ht => by simp [takeC] at ht
  | _ :: _, [], _, _, _, ht => by simp [takeC] at ht
  termination_by es => (SizeOf.sizeOf es, 0)
end

/-- The elements of a list, kept. -/
theorem frzX {es : List Sh} {A' : Avoid} (hE : ∀ (x : AV) (vs : List Value) (L : Heap) (φL : Phi) (AL : Avoid) (y : AV) (L1 : Heap), St w L φL AL → x.cells.length = vs.length →
      (∀ (j : Nat) (c : AV) (u : Value), x.cells[j]? = some c → vs[j]? = some u → R w L φL AL c u) → takeE es x L = some (y, L1) → (∀ c, A' c → gone φL AL L1 c) →
      (frzV y).cells.length = x.cells.length ∧ ∀ (j : Nat) (c : AV) (u : Value), (frzV y).cells[j]? = some c → vs[j]? = some u → FR w A' c u) :
    ∀ (xs : List AV) (g : Nat → Nat → Value) (L : Heap) (φL : Phi) (AL : Avoid) (ys : List AV) (L1 : Heap), St w L φL AL →
      (∀ (i : Nat) (x : AV) (j : Nat) (c : AV), xs[i]? = some x → x.cells[j]? = some c → R w L φL AL c (g i j)) → mapH (takeE es) xs L = some (ys, L1) → (∀ c, A' c → gone φL AL L1 c) →
      (frzL ys).length = xs.length ∧ (∀ (i : Nat) (x a : AV), xs[i]? = some x → (frzL ys)[i]? = some a → a.cells.length = x.cells.length) ∧
        ∀ (i : Nat) (a : AV) (j : Nat) (c : AV), (frzL ys)[i]? = some a → a.cells[j]? = some c → FR w A' c (g i j)
  | [], g, L, φL, AL, ys, L1, hd, _, ht, hk => by
    simp only [mapH, Option.some.injEq, Prod.mk.injEq] at ht
    obtain ⟨rfl, rfl⟩ := ht
    exact ⟨rfl, by simp, by simp [frzL]⟩
  | x :: xs, g, L, φL, AL, ys, L1, hd, hr, ht, hk => by
    simp only [mapH] at ht
    split at ht
    · rename_i y L' h1
      split at ht
      · rename_i ys' L'' h2
        simp only [Option.some.injEq, Prod.mk.injEq] at ht
        obtain ⟨rfl, rfl⟩ := ht
        let vs : List Value := (List.range x.cells.length).map (g 0)
        have hl1 := takeE_less es x L y L' h1
        have hl2 := mapH_less (fun x L y L1 h => takeE_less es x L y L1 h) _ _ _ _ h2
        obtain ⟨l1, r1⟩ := hE x vs L φL AL y L' hd (by simp [vs]) (fun j c u hj hu => by
          have hjl : j < x.cells.length := (List.getElem?_eq_some_iff.1 hj).1
          have : vs[j]? = some (g 0 j) := by simp [vs, hjl]
          rw [this] at hu
          simp only [Option.some.injEq] at hu; subst hu; exact hr 0 x j c rfl hj) h1 (fun c hc => gone_less hl2 (hk c hc))
        obtain ⟨l2, s2, r2⟩ := frzX hE xs (fun i j => g (i + 1) j) L' (restr φL L') AL ys' L'' (lessSt hd hl1) (fun i x' j c hi hj => (hr (i + 1) x' j c hi hj).mono (lessEvo hl1)) h2 (fun c hc => by
          obtain ⟨k1, k2⟩ := hk c hc
          exact ⟨k1, fun ho => by rw [restr_restr hl2]; exact k2 (restr_ow ho)⟩)
        refine ⟨by simp [frzL, l2], fun i x' a hx ha => ?_, fun i a j c ha hc => ?_⟩
        · cases i with
          | zero => simp [frzL] at hx ha; subst hx; subst ha; exact l1
          | succ i => simp [frzL] at hx ha; exact s2 i x' a hx ha
        · cases i with
          | zero =>
            simp only [frzL, List.getElem?_cons_zero, Option.some.injEq] at ha; subst ha
            have hj : j < x.cells.length := by rw [← l1]; exact (List.getElem?_eq_some_iff.1 hc).1
            exact r1 j c (g 0 j) hc (by simp [vs, hj])
          | succ i => exact r2 i a j c (by simpa [frzL] using ha) hc
      · simp at ht
    · simp at ht

mutual
theorem frzT (sh : Sh) (x : AV) (v : Value) (L : Heap) (φL : Phi) (AL A' : Avoid) (y : AV) (L1 : Heap) (hst : St w L φL AL) (hx : R w L φL AL x v)
    (ht : takeT sh x L = some (y, L1)) (hk : ∀ c, A' c → gone φL AL L1 c) : FR w A' (frzV y) v ∧ (x ≠ .undef → (frzV y).cells = [frzV y]) ∧ (x = .undef → frzV y = .undef) := by
  cases sh with
  | sc =>
    simp only [takeT] at ht
    split at ht
    · rename_i hp
      simp only [Option.some.injEq, Prod.mk.injEq] at ht
      obtain ⟨rfl, rfl⟩ := ht
      rw [frz_plain hp]
      exact ⟨plain_FR hp hx, fun hu => cells_one hu (by rintro cs rfl; simp [plainA] at hp), fun h => h⟩
    · simp at ht
  | sl es =>
    cases x with
    | nil =>
      simp only [takeT, Option.some.injEq, Prod.mk.injEq] at ht
      obtain ⟨rfl, rfl⟩ := ht
      have := hx.nil_inv; subst this
      exact ⟨.fz0 _ _, fun _ => rfl, fun h => by simp at h⟩
    | e0 =>
      simp only [takeT, Option.some.injEq, Prod.mk.injEq] at ht
      obtain ⟨rfl, rfl⟩ := ht
      obtain ⟨a0, rfl⟩ := hx.e0_inv
      exact ⟨.fz0 _ _, fun _ => rfl, fun h => by simp at h⟩
    | fz xs =>
      simp only [takeT, Option.some.injEq, Prod.mk.injEq] at ht
      obtain ⟨rfl, rfl⟩ := ht
      exact ⟨hx.fz_inv.shrink fun c hc => (hk c hc).1, fun _ => rfl, fun h => by simp at h⟩
    | ref id ver off len =>
      simp only [takeT] at ht
      split at ht
      · rename_i b hb
        split at ht
        · rename_i hc
          obtain ⟨c1, c2, c3⟩ := hc
          split at ht
          · rename_i ys L' hm
            simp only [Option.some.injEq, Prod.mk.injEq] at ht
            obtain ⟨rfl, rfl⟩ := ht
            have hg := (Heap.blk_get hb).1
            obtain ⟨hver, _, hr⟩ := hx.ref_inv
            obtain ⟨loc, a0, cap, q1, rfl, q3, q4, q5, q6⟩ := (hr b hb).out
            obtain ⟨bk, hbk, hok⟩ := hst.blk id _ q1
            rw [hg] at hbk
            simp only [Option.some.injEq] at hbk; subst hbk
            have hlss := Less.del L id
            have hl2 := mapH_less (fun x L y L1 h => takeE_less es x L y L1 h) _ _ _ _ hm
            have hnone : L'.get id = none := by
              cases hq : L'.get id with
              | none => rfl
              | some b => have := hl2.get _ _ hq; rw [Heap.get_del, if_pos rfl] at this; simp at this
            have hsub : (subL b.el off len).length = len := by simp [subL]; omega
            have hsubg : ∀ (i : Nat) (x : AV), (subL b.el off len)[i]? = some x → b.el[off + i]? = some x := by
              intro i x hi
              simp only [subL, List.getElem?_take, List.getElem?_drop] at hi
              split at hi
              · exact hi
              · simp at hi
            refine ⟨?_, fun _ => rfl, fun h => by simp at h⟩
            simp only [frzV]
            rcases Nat.eq_zero_or_pos len with hl0 | hlp
            · subst hl0
              have : ys = [] := by
                have h0 : subL b.el off 0 = [] := by simp [subL]
                rw [h0] at hm
                simp [mapH] at hm; exact hm.1
              subst this
              exact .fz0 _ _
            · cases loc with
              | virt => have := hok.virt rfl; rw [this] at q3; simp at q3; omega
              | at_ c b0 =>
                simp only at q6
                rcases q6 with q6 | ⟨h1, h2⟩
                · omega
                obtain ⟨arr, T, fr, k1, k2, k3, k4⟩ := hok.here c b0 rfl
                let g : Nat → Nat → Value := fun i j => arr.getD (b0 + (off + i) * b.sz + j) undef
                have hin : ∀ (i : Nat) (x : AV) (j : Nat), (subL b.el off len)[i]? = some x → j < x.cells.length → b0 + (off + i) * b.sz + j < arr.size := by
                  intro i x j hi hj
                  have hx' := hsubg i x hi
                  have hil : i < len := by rw [← hsub]; exact (List.getElem?_eq_some_iff.1 hi).1
                  rw [hok.sized _ _ hx'] at hj
                  have hle := mul_lt_le (n := b.sz) (show off + i < b.el.length by omega)
                  omega
                have hrel : ∀ (i : Nat) (x : AV) (j : Nat) (c : AV), (subL b.el off len)[i]? = some x → x.cells[j]? = some c → R w (L.del id) (restr φL (L.del id)) AL c (g i j) := by
                  intro i x j c' hi hj
                  have hlt := hin i x j hi (List.getElem?_eq_some_iff.1 hj).1
                  have : g i j = arr[b0 + (off + i) * b.sz + j] := by
                    simp only [g, Array.getD_eq_getD_getElem?, Array.getElem?_eq_getElem hlt, Option.getD_some]
                  rw [this]
                  exact ((k4 _ _ _ _ _ (hsubg i x hi) hj (Array.getElem?_eq_getElem hlt)).1).mono (lessEvo hlss)
                obtain ⟨l1, s1, r1⟩ := frzX (A' := A') (es := es) (fun x vs L φL AL y L1 => frzE es x vs L φL AL A' y L1) _ g _ _ _ _ _ (lessSt hst hlss) hrel hm (fun c hc => by
                  obtain ⟨k1, k2⟩ := hk c hc
                  exact ⟨k1, fun ho => by rw [restr_restr hl2]; exact k2 (restr_ow ho)⟩)
                rw [hsub] at l1
                have hmul : (off + len) * b.sz ≤ b.el.length * b.sz := Nat.mul_le_mul_right _ q3
                have hadd : (off + len) * b.sz = off * b.sz + len * b.sz := Nat.add_mul _ _ _
                have hfz := FR.fz (A := A') (frzL ys) c (b0 + off * b.sz) cap b.sz arr T fr k1 (fun hA => gone_at hst q1 hnone (hk c hA)) (by rw [l1]; exact q4) (by rw [l1]; omega)
                  (fun i a ha => by
                    have hi : i < (subL b.el off len).length := by rw [hsub, ← l1]; exact (List.getElem?_eq_some_iff.1 ha).1
                    rw [s1 i _ a (List.getElem?_eq_getElem hi) ha]
                    exact hok.sized _ _ (hsubg i _ (List.getElem?_eq_getElem hi)))
                  (fun j v hj hv => by
                    rw [l1] at hj
                    have hs0 : 0 < b.sz := by rcases Nat.eq_zero_or_pos b.sz with h | h; · rw [h] at hj; simp at hj
                                              · exact h
                    have hd1 : j / b.sz < len := Nat.div_lt_of_lt_mul (by rw [Nat.mul_comm]; exact hj)
                    have hd2 : j % b.sz < b.sz := Nat.mod_lt _ hs0
                    have hd3 : j = (j / b.sz) * b.sz + j % b.sz := by rw [Nat.mul_comm]; exact (Nat.div_add_mod j b.sz).symm
                    have hel : off + j / b.sz < b.el.length := by omega
                    have hx := List.getElem?_eq_getElem hel
                    have hxl := hok.sized _ _ hx
                    have e : b0 + off * b.sz + j = b0 + (off + j / b.sz) * b.sz + j % b.sz := by rw [Nat.add_mul]; omega
                    rw [e] at hv
                    exact (k4 _ _ _ _ v hx (List.getElem?_eq_getElem (show j % b.sz < _ by rw [hxl]; exact hd2)) hv).2)
                  (fun i a j c' v ha hc hv => by
                    have e : b0 + off * b.sz + i * b.sz + j = b0 + (off + i) * b.sz + j := by rw [Nat.add_mul]; omega
                    rw [e] at hv
                    have : g i j = v := by simp only [g, Array.getD_eq_getD_getElem?, hv, Option.getD_some]
                    rw [← this]
                    exact r1 i a j c' ha hc)
                rw [l1] at hfz
                rw [h1]; exact hfz
          · simp at ht
        · simp at ht
      · simp at ht
    | _ => simp [takeT] at ht
  | pt es =>
    cases x with
    | fe z o =>
      simp only [takeT, Option.some.injEq, Prod.mk.injEq] at ht
      obtain ⟨rfl, rfl⟩ := ht
      exact ⟨hx.fe_inv.shrink fun c hc => (hk c hc).1, fun _ => rfl, fun h => by simp at h⟩
    | ptr id ver idx off =>
      rcases idx with _ | idx
      rotate_left
      · simp [takeT] at ht
      rcases off with _ | off
      rotate_left
      · simp [takeT] at ht
      simp only [takeT] at ht
      split at ht
      · rename_i bver sz bfix z hb
        split at ht
        · rename_i y' L' hm
          simp only [Option.some.injEq, Prod.mk.injEq] at ht
          obtain ⟨rfl, rfl⟩ := ht
          refine ⟨?_, fun _ => rfl, fun h => by simp at h⟩
          have hg := (Heap.blk_get hb).1
          obtain ⟨hver, _, hr⟩ := hx.ptr_inv
          obtain ⟨c, b0, q1, rfl⟩ := hr _ hb
          obtain ⟨bk, hbk, hok⟩ := hst.blk id _ q1
          rw [hg] at hbk
          simp only [Option.some.injEq] at hbk; subst hbk
          obtain ⟨arr, T, fr, k1, k2, k3, k4⟩ := hok.here c b0 rfl
          have hlss := Less.del L id
          have hl2 := takeE_less es _ _ _ _ hm
          have hnone : L'.get id = none := by
            cases hq : L'.get id with
            | none => rfl
            | some b => have := hl2.get _ _ hq; rw [Heap.get_del, if_pos rfl] at this; simp at this
          have hzl : z.cells.length = sz := hok.sized 0 z rfl
          simp only [List.length_singleton, Nat.one_mul] at k3
          let vs : List Value := (arr.extract b0 (b0 + sz)).toList
          have hvs : vs.length = sz := by simp [vs]; omega
          have hvg : ∀ j u, vs[j]? = some u → arr[b0 + j]? = some u := by
            intro j u hu
            simp only [vs, Array.getElem?_toList, Array.getElem?_extract] at hu
            split at hu
            · exact hu
            · simp at hu
          obtain ⟨l1, r1⟩ := frzE es z vs _ _ _ A' _ _ (lessSt hst hlss) (by rw [hvs, hzl]) (fun j c' u hj hu => ((k4 0 z j c' u rfl hj (by simpa using hvg j u hu)).1).mono (lessEvo hlss)) hm (fun c hc => by
            obtain ⟨k1, k2⟩ := hk c hc
            exact ⟨k1, fun ho => by rw [restr_restr hl2]; exact k2 (restr_ow ho)⟩)
          have := FR.fe (A := A') (frzV y') 0 c b0 arr T fr k1 (fun hA => gone_at hst q1 hnone (hk c hA)) (by rw [l1, hzl]; exact k3)
            (fun j v hj hv => by
              rw [l1] at hj
              exact (k4 0 z j _ v rfl (List.getElem?_eq_getElem hj) (by simpa using hv)).2)
            (fun j c' v hc hv => by
              have hj : j < sz := by rw [← hzl, ← l1]; exact (List.getElem?_eq_some_iff.1 hc).1
              exact r1 j c' v hc (by simp only [vs, Array.getElem?_toList, Array.getElem?_extract]; rw [if_pos (by omega)]; exact hv))
          simpa [frzV] using this
        · simp at ht
      · simp at ht
    | _ => simp [takeT] at ht
  termination_by (SizeOf.sizeOf sh, 0)
theorem frzE (es : List Sh) (x : AV) (vs : List Value) (L : Heap) (φL : Phi) (AL A' : Avoid) (y : AV) (L1 : Heap) (hst : St w L φL AL) (hl : x.cells.length = vs.length)
    (hx : ∀ (j : Nat) (c : AV) (u : Value), x.cells[j]? = some c → vs[j]? = some u → R w L φL AL c u) (ht : takeE es x L = some (y, L1)) (hk : ∀ c, A' c → gone φL AL L1 c) :
    (frzV y).cells.length = x.cells.length ∧ ∀ (j : Nat) (c : AV) (u : Value), (frzV y).cells[j]? = some c → vs[j]? = some u → FR w A' c u := by
  by_cases hag : ∃ cs, x = .agg cs
  · obtain ⟨cs, rfl⟩ := hag
    obtain ⟨cs', hc, rfl⟩ := takeE_agg ht
    exact frzC es cs vs L φL AL A' cs' L1 hst hl hx hc hk
  · have hnag : ∀ cs, x ≠ .agg cs := fun cs h => hag ⟨cs, h⟩
    obtain ⟨e, rfl, ht'⟩ := takeE_one hnag ht
    by_cases hu : x = .undef
    · subst hu
      have hv0 : vs = [] := List.eq_nil_of_length_eq_zero (by simpa [AV.cells] using hl.symm)
      subst hv0
      obtain ⟨_, _, h4⟩ := frzT e .undef undef L φL AL A' y L1 hst (.fr _ _ (.undef _)) ht' hk
      exact ⟨by rw [h4 rfl], by simp⟩
    · have hc1 := cells_one hu hnag
      rw [hc1] at hl
      obtain ⟨v, rfl⟩ : ∃ v, vs = [v] := by
        match vs, hl with
        | [v], _ => exact ⟨v, rfl⟩
      obtain ⟨h2, h3, _⟩ := frzT e x v L φL AL A' y L1 hst (hx 0 x v (by rw [hc1]; rfl) rfl) ht' hk
      refine ⟨by rw [h3 hu, hc1]; rfl, fun j c u hj hu' => ?_⟩
      rw [h3 hu] at hj
      cases j with
      | zero => simp at hj hu'; subst hj; subst hu'; exact h2
      | succ j => simp at hj
  termination_by (SizeOf.sizeOf es, 1)
theorem frzC (es : List Sh) (cs : List AV) (vs : List Value) (L : Heap) (φL : Phi) (AL A' : Avoid) (ys : List AV) (L1 : Heap) (hst : St w L φL AL) (hl : cs.length = vs.length)
    (hx : ∀ (j : Nat) (c : AV) (u : Value), cs[j]? = some c → vs[j]? = some u → R w L φL AL c u) (ht : takeC es cs L = some (ys, L1)) (hk : ∀ c, A' c → gone φL AL L1 c) :
    (frzL ys).length = cs.length ∧ ∀ (j : Nat) (c : AV) (u : Value), (frzL ys)[j]? = some c → vs[j]? = some u → FR w A' c u := by
  match es, cs, ht with
  | [], [], ht =>
    simp only [takeC, Option.some.injEq, Prod.mk.injEq] at ht
    obtain ⟨rfl, rfl⟩ := ht
    exact ⟨rfl, by simp [frzL]⟩
  | e :: es, x :: cs, ht =>
    simp only [takeC] at ht
    split at ht
    · rename_i y L' h1
      split at ht
      · rename_i ys' L'' h2
        simp only [Option.some.injEq, Prod.mk.injEq] at ht
        obtain ⟨rfl, rfl⟩ := ht
        have hl1 := takeT_less e x L y L' h1
        have hl2 := takeC_less es cs L' ys' L'' h2
        match vs, hl with
        | v :: vs, hl =>
          obtain ⟨r1, _, _⟩ := frzT e x v L φL AL A' y L' hst (hx 0 x v rfl rfl) h1 (fun c hc => gone_less hl2 (hk c hc))
          obtain ⟨l2, r2⟩ := frzC es cs vs L' (restr φL L') AL A' ys' L'' (lessSt hst hl1) (by simpa using hl) (fun j c u hj hu => (hx (j + 1) c u hj hu).mono (lessEvo hl1)) h2 (fun c hc => by
            obtain ⟨k1, k2⟩ := hk c hc
            exact ⟨k1, fun ho => by rw [restr_restr hl2]; exact k2 (restr_ow ho)⟩)
          refine ⟨by simp [frzL, l2], fun j c u hj hu => ?_⟩
          cases j with
          | zero => simp [frzL] at hj hu; subst hj; subst hu; exact r1
          | succ j => exact r2 j c u (by simpa [frzL] using hj) hu
      · simp at ht
    · simp at ht
  | [], _ :: _, ht => simp [takeC] at ht
  | _ :: _, [], ht => simp [takeC] at ht
  termination_by (SizeOf.sizeOf es, 0)
end
end duo
end Go.VS

/-
  VS, part 24: values lent.
-/
namespace Go.VS

section snap
variable {w : World} {H : Heap} {φ : Phi} {A : Avoid}

theorem mapM_some {α β : Type} {f : α → Option β} : ∀ {xs : List α} {ys : List β}, xs.mapM f = some ys → ys.length = xs.length ∧ ∀ (i : Nat) (x : α) (y : β), xs[i]? = some x → ys[i]? = some y → f x = some y
  | [], ys, h => by simp at h; subst h; simp
  | x :: xs, ys, h => by
    simp only [List.mapM_cons, Option.bind_eq_bind, Option.bind_eq_some_iff, Option.pure_def, Option.some.injEq] at h
    obtain ⟨y, h1, ys', h2, rfl⟩ := h
    obtain ⟨hl, hp⟩ := mapM_some h2
    refine ⟨by simp [hl], fun i a b ha hb => ?_⟩
    cases i with
    | zero => simp at ha hb; subst ha; subst hb; exact h1
    | succ i => exact hp i a b ha hb

def lentA (φ : Phi) (A : Avoid) : Avoid := fun c => A c ∧ ¬ Ow φ c

def SnapV (w : World) (H : Heap) (φ : Phi) (A : Avoid) (n : Nat) : Prop := ∀ (x : AV) (v : Value) (y : AV), R w H φ A x v → snapV n H x = some y →
  FR w (lentA φ A) y v ∧ (lends x = false → FR w A y v) ∧ ((∀ cs, x ≠ .agg cs) → x ≠ .undef → y.cells = [y]) ∧ (x = .undef → y = .undef)
def SnapE (w : World) (H : Heap) (φ : Phi) (A : Avoid) (n : Nat) : Prop := ∀ (x : AV) (vs : List Value) (y : AV), x.cells.length = vs.length →
  (∀ (j : Nat) (c : AV) (u : Value), x.cells[j]? = some c → vs[j]? = some u → R w H φ A c u) → snapV n H x = some y →
  y.cells.length = x.cells.length ∧ ∀ (j : Nat) (c : AV) (u : Value), y.cells[j]? = some c → vs[j]? = some u → FR w (lentA φ A) c u

theorem lendsL_get : ∀ {xs : List AV}, lendsL xs = false → ∀ (i : Nat) (x : AV), xs[i]? = some x → lends x = false
  | [], _, i, x, h => by simp at h
  | y :: ys, hl, i, x, h => by
    simp only [lendsL, Bool.or_eq_false_iff] at hl
    cases i with
    | zero => simp at h; subst h; exact hl.1
    | succ i => exact lendsL_get hl.2 i x h

theorem snapE_of {n : Nat} (hV : SnapV w H φ A n) (hV' : ∀ m, n = m + 1 → SnapV w H φ A m) : SnapE w H φ A n := by
  intro x vs y hl hx hs
  by_cases hag : ∃ cs, x = .agg cs
  · obtain ⟨cs, rfl⟩ := hag
    cases n with
    | zero => simp [snapV] at hs
    | succ n =>
      simp only [snapV, Option.map_eq_some_iff] at hs
      obtain ⟨ys, hm, rfl⟩ := hs
      obtain ⟨l1, p1⟩ := mapM_some hm
      refine ⟨l1, fun j c u hj hu => ?_⟩
      have hjl : j < cs.length := by rw [← l1]; exact (List.getElem?_eq_some_iff.1 hj).1
      have hc := List.getElem?_eq_getElem hjl
      exact (hV' n rfl _ _ _ (hx j _ u hc hu) (p1 j _ c hc hj)).1
  · have hnag : ∀ cs, x ≠ .agg cs := fun cs h => hag ⟨cs, h⟩
    by_cases hu : x = .undef
    · subst hu
      have hv0 : vs = [] := List.eq_nil_of_length_eq_zero (by simpa [AV.cells] using hl.symm)
      subst hv0
      have := (hV .undef undef y (.fr _ _ (.undef _)) hs).2.2.2 rfl
      subst this
      exact ⟨rfl, by simp⟩
    · have hc1 := cells_one hu hnag
      rw [hc1] at hl
      obtain ⟨v, rfl⟩ : ∃ v, vs = [v] := by
        match vs, hl with
        | [v], _ => exact ⟨v, rfl⟩
      obtain ⟨h1, _, h3, _⟩ := hV x v y (hx 0 x v (by rw [hc1]; rfl) rfl) hs
      have h3 := h3 hnag hu
      refine ⟨by rw [h3, hc1]; rfl, fun j c u hj hu' => ?_⟩
      rw [h3] at hj
      cases j with
      | zero => simp at hj hu'; subst hj; subst hu'; exact h1
      | succ j => simp at hj

theorem snap_ok (hst : St w H φ A) : ∀ n, SnapV w H φ A n ∧ SnapE w H φ A n
  | 0 => by
    have h0 : SnapV w H φ A 0 := fun x v y _ hs => by simp [snapV] at hs
    exact ⟨h0, snapE_of h0 (fun m h => by omega)⟩
  | n + 1 => by
    obtain ⟨hV, hE⟩ := snap_ok hst n
    have key : SnapV w H φ A (n + 1) := by
      have hsub : ∀ c, lentA φ A c → A c := fun c h => h.1
      have hown : ∀ c, Ow φ c → ¬ lentA φ A c := fun c h hl => hl.2 h
      have same : ∀ {x : AV} {v : Value}, FR w A x v → x.cells = [x] → FR w (lentA φ A) x v ∧ (lends x = false → FR w A x v) ∧ ((∀ cs, x ≠ .agg cs) → x ≠ .undef → x.cells = [x]) ∧ (x = .undef → x = .undef) :=
        fun h hc => ⟨h.shrink hsub, fun _ => h, fun _ _ => hc, fun h => h⟩
      intro x v y hx hs
      cases x with
      | undef => simp only [snapV, Option.some.injEq] at hs; subst hs; exact ⟨.undef _, fun _ => .undef _, fun _ h => absurd rfl h, fun h => h⟩
      | int k n => simp only [snapV, Option.some.injEq] at hs; subst hs; cases hx with | fr _ _ h => exact same h rfl
      | bool b => simp only [snapV, Option.some.injEq] at hs; subst hs; cases hx with | fr _ _ h => exact same h rfl
      | str s => simp only [snapV, Option.some.injEq] at hs; subst hs; cases hx with | fr _ _ h => exact same h rfl
      | errv b => simp only [snapV, Option.some.injEq] at hs; subst hs; cases hx with | fr _ _ h => exact same h rfl
      | nilp => simp only [snapV, Option.some.injEq] at hs; subst hs; cases hx with | fr _ _ h => exact same h rfl
      | fz xs => simp only [snapV, Option.some.injEq] at hs; subst hs; cases hx with | fr _ _ h => exact same h rfl
      | fe x o => simp only [snapV, Option.some.injEq] at hs; subst hs; cases hx with | fr _ _ h => exact same h rfl
      | own sz xs => simp [snapV] at hs
      | optr sz x => simp [snapV] at hs
      | tup xs => simp [snapV] at hs
      | nil =>
        simp only [snapV, Option.some.injEq] at hs; subst hs
        have := hx.nil_inv; subst this
        exact ⟨.fz0 _ _, fun _ => .fz0 _ _, fun _ _ => rfl, fun h => by simp at h⟩
      | e0 =>
        simp only [snapV, Option.some.injEq] at hs; subst hs
        obtain ⟨a, rfl⟩ := hx.e0_inv
        exact ⟨.fz0 _ _, fun _ => .fz0 _ _, fun _ _ => rfl, fun h => by simp at h⟩
      | agg cs =>
        simp only [snapV, Option.map_eq_some_iff] at hs
        obtain ⟨ys, hm, rfl⟩ := hs
        obtain ⟨l1, p1⟩ := mapM_some hm
        obtain ⟨vs, rfl, hl, ho, hp⟩ := hx.agg_inv
        have hc : ∀ (i : Nat) (z : AV) (u : Value), ys[i]? = some z → vs[i]? = some u → ∃ c, cs[i]? = some c ∧ R w H φ A c u ∧ snapV n H c = some z := by
          intro i z u hz hu
          have hil : i < cs.length := by rw [← l1]; exact (List.getElem?_eq_some_iff.1 hz).1
          have hc := List.getElem?_eq_getElem hil
          exact ⟨_, hc, hp i _ u hc hu, p1 i _ z hc hz⟩
        refine ⟨.agg _ _ (by rw [l1, hl]) ho fun i z u hz hu => ?_, fun hlen => .agg _ _ (by rw [l1, hl]) ho fun i z u hz hu => ?_, fun h _ => absurd rfl (h cs), fun h => by simp at h⟩
        · obtain ⟨c, h1, h2, h3⟩ := hc i z u hz hu
          exact (hV c u z h2 h3).1
        · obtain ⟨c, h1, h2, h3⟩ := hc i z u hz hu
          exact (hV c u z h2 h3).2.1 (lendsL_get (by simpa [lends] using hlen) i c h1)
      | fn f cs =>
        simp only [snapV, Option.map_eq_some_iff] at hs
        obtain ⟨ys, hm, rfl⟩ := hs
        obtain ⟨l1, p1⟩ := mapM_some hm
        obtain ⟨vs, rfl, hl, hp⟩ := hx.fn_inv
        have hc : ∀ (i : Nat) (z : AV) (u : Value), ys[i]? = some z → vs[i]? = some u → ∃ c, cs[i]? = some c ∧ R w H φ A c u ∧ snapV n H c = some z := by
          intro i z u hz hu
          have hil : i < cs.length := by rw [← l1]; exact (List.getElem?_eq_some_iff.1 hz).1
          have hc := List.getElem?_eq_getElem hil
          exact ⟨_, hc, hp i _ u hc hu, p1 i _ z hc hz⟩
        refine ⟨.fn _ _ _ (by rw [l1, hl]) fun i z u hz hu => ?_, fun hlen => .fn _ _ _ (by rw [l1, hl]) fun i z u hz hu => ?_, fun _ _ => rfl, fun h => by simp at h⟩
        · obtain ⟨c, h1, h2, h3⟩ := hc i z u hz hu
          exact (hV c u z h2 h3).1
        · obtain ⟨c, h1, h2, h3⟩ := hc i z u hz hu
          exact (hV c u z h2 h3).2.1 (lendsL_get (by simpa [lends] using hlen) i c h1)
      | ptr id ver idx off =>
        simp only [snapV] at hs
        split at hs
        · rename_i b hb
          split at hs
          · rename_i x' hx'
            simp only [Option.map_eq_some_iff] at hs
            obtain ⟨y', hy, rfl⟩ := hs
            have hg := (Heap.blk_get hb).1
            obtain ⟨hver, _, hr⟩ := hx.ptr_inv
            obtain ⟨c, b0, q1, rfl⟩ := hr _ hb
            obtain ⟨bk, hbk, hok⟩ := hst.blk id _ q1
            rw [hg] at hbk
            simp only [Option.some.injEq] at hbk; subst hbk
            obtain ⟨arr, T, fr, k1, k2, k3, k4⟩ := hok.here c b0 rfl
            have hidx : idx < b.el.length := (List.getElem?_eq_some_iff.1 hx').1
            have hle := mul_lt_le (n := b.sz) hidx
            have hxl := hok.sized _ _ hx'
            let o := b0 + idx * b.sz
            let vs : List Value := (arr.extract o (o + b.sz)).toList
            have hvs : vs.length = b.sz := by simp [vs, o]; omega
            have hvg : ∀ j u, vs[j]? = some u → arr[o + j]? = some u := by
              intro j u hu
              simp only [vs, Array.getElem?_toList, Array.getElem?_extract] at hu
              split at hu
              · exact hu
              · simp at hu
            obtain ⟨l1, r1⟩ := hE x' vs y' (by rw [hvs, hxl]) (fun j c' u hj hu => (k4 idx x' j c' u hx' hj (hvg j u hu)).1) hy
            refine ⟨?_, fun h => by simp [lends] at h, fun _ _ => rfl, fun h => by simp at h⟩
            refine FR.fe y' off c o arr T fr k1 (hown c ⟨id, b0, q1⟩) (by rw [l1, hxl]; omega) (fun j v hj hv => ?_) (fun j c' v hc hv => ?_)
            · rw [l1] at hj
              exact (k4 idx x' j _ v hx' (List.getElem?_eq_getElem hj) hv).2
            · have hj : j < b.sz := by rw [← hxl, ← l1]; exact (List.getElem?_eq_some_iff.1 hc).1
              exact r1 j c' v hc (by simp only [vs, Array.getElem?_toList, Array.getElem?_extract]; rw [if_pos (by omega)]; exact hv)
          · simp at hs
        · simp at hs
      | ref id ver off len =>
        simp only [snapV] at hs
        split at hs
        · rename_i b hb
          split at hs
          · rename_i hol
            simp only [Option.map_eq_some_iff] at hs
            obtain ⟨ys, hm, rfl⟩ := hs
            obtain ⟨l1, p1⟩ := mapM_some hm
            have hg := (Heap.blk_get hb).1
            obtain ⟨hver, _, hr⟩ := hx.ref_inv
            obtain ⟨loc, a0, cap, q1, rfl, q3, q4, q5, q6⟩ := (hr b hb).out
            obtain ⟨bk, hbk, hok⟩ := hst.blk id _ q1
            rw [hg] at hbk
            simp only [Option.some.injEq] at hbk; subst hbk
            have hsub : (subL b.el off len).length = len := by simp [subL]; omega
            have hsubg : ∀ (i : Nat) (x : AV), (subL b.el off len)[i]? = some x → b.el[off + i]? = some x := by
              intro i x hi
              simp only [subL, List.getElem?_take, List.getElem?_drop] at hi
              split at hi
              · exact hi
              · simp at hi
            rw [hsub] at l1
            refine ⟨?_, fun h => by simp [lends] at h, fun _ _ => rfl, fun h => by simp at h⟩
            rcases Nat.eq_zero_or_pos len with hl0 | hlp
            · subst hl0
              have := List.eq_nil_of_length_eq_zero l1
              subst this
              exact .fz0 _ _
            · cases loc with
              | virt => have := hok.virt rfl; rw [this] at q3; simp at q3; omega
              | at_ c b0 =>
                simp only at q6
                rcases q6 with q6 | ⟨h1, h2⟩
                · omega
                obtain ⟨arr, T, fr, k1, k2, k3, k4⟩ := hok.here c b0 rfl
                have hmul : (off + len) * b.sz ≤ b.el.length * b.sz := Nat.mul_le_mul_right _ q3
                have hadd : (off + len) * b.sz = off * b.sz + len * b.sz := Nat.add_mul _ _ _
                have helt : ∀ (i : Nat) (a : AV), ys[i]? = some a → a.cells.length = b.sz ∧ ∀ (j : Nat) (c' : AV) (v : Value), a.cells[j]? = some c' → arr[b0 + (off + i) * b.sz + j]? = some v → FR w (lentA φ A) c' v := by
                  intro i a ha
                  have hi : i < len := by rw [← l1]; exact (List.getElem?_eq_some_iff.1 ha).1
                  have hx := List.getElem?_eq_getElem (l := subL b.el off len) (by rw [hsub]; exact hi)
                  have hx' := hsubg i _ hx
                  have hxl := hok.sized _ _ hx'
                  have hle := mul_lt_le (n := b.sz) (show off + i < b.el.length by omega)
                  let o := b0 + (off + i) * b.sz
                  let vs : List Value := (arr.extract o (o + b.sz)).toList
                  have hvs : vs.length = b.sz := by simp [vs, o]; omega
                  have hvg : ∀ j u, vs[j]? = some u → arr[o + j]? = some u := by
                    intro j u hu
                    simp only [vs, Array.getElem?_toList, Array.getElem?_extract] at hu
                    split at hu
                    · exact hu
                    · simp at hu
                  obtain ⟨l2, r2⟩ := hE _ vs a (by rw [hvs, hxl]) (fun j c' u hj hu => (k4 _ _ j c' u hx' hj (hvg j u hu)).1) (p1 i _ a hx ha)
                  refine ⟨by rw [l2, hxl], fun j c' v hc hv => r2 j c' v hc ?_⟩
                  have hj : j < b.sz := by rw [← hxl, ← l2]; exact (List.getElem?_eq_some_iff.1 hc).1
                  simp only [vs, Array.getElem?_toList, Array.getElem?_extract]; rw [if_pos (by omega)]; exact hv
                have hfz := FR.fz (A := lentA φ A) ys c (b0 + off * b.sz) cap b.sz arr T fr k1 (hown c ⟨id, b0, q1⟩) (by rw [l1]; exact q4) (by rw [l1]; omega)
                  (fun i a ha => (helt i a ha).1)
                  (fun j v hj hv => by
                    rw [l1] at hj
                    have hs0 : 0 < b.sz := by
                      rcases Nat.eq_zero_or_pos b.sz with h | h
                      · rw [h] at hj; simp at hj
                      · exact h
                    have hd1 : j / b.sz < len := Nat.div_lt_of_lt_mul (by rw [Nat.mul_comm]; exact hj)
                    have hd2 : j % b.sz < b.sz := Nat.mod_lt _ hs0
                    have hd3 : j = (j / b.sz) * b.sz + j % b.sz := by rw [Nat.mul_comm]; exact (Nat.div_add_mod j b.sz).symm
                    have hel : off + j / b.sz < b.el.length := by omega
                    have hx := List.getElem?_eq_getElem hel
                    have hxl := hok.sized _ _ hx
                    have e : b0 + off * b.sz + j = b0 + (off + j / b.sz) * b.sz + j % b.sz := by rw [Nat.add_mul]; omega
                    rw [e] at hv
                    exact (k4 _ _ _ _ v hx (List.getElem?_eq_getElem (show j % b.sz < _ by rw [hxl]; exact hd2)) hv).2)
                  (fun i a j c' v ha hc hv => by
                    have e : b0 + off * b.sz + i * b.sz + j = b0 + (off + i) * b.sz + j := by rw [Nat.add_mul]; omega
                    rw [e] at hv
                    exact (helt i a ha).2 j c' v hc hv)
                rw [l1] at hfz
                rw [h1]; exact hfz
          · simp at hs
        · simp at hs
    exact ⟨key, snapE_of key (fun m h => by have : m = n := by omega
                                            subst this; exact hV)⟩
end snap
end Go.VS

/-
  VS, part 25: a call's arguments come to the callee.
-/
namespace Go.VS

theorem thawL_id : ∀ (ys : List AV) (L : Heap), (∀ (i : Nat) (z : AV), ys[i]? = some z → ∀ L, thawV z L = (z, L)) → thawL ys L = (ys, L)
  | [], L, _ => rfl
  | y :: ys, L, h => by
    have h1 := h 0 y rfl L
    have h2 := thawL_id ys L (fun i z hz => h (i + 1) z hz)
    simp only [thawL, h1, h2]

theorem snap_thaw (H : Heap) : ∀ (n : Nat) (x y : AV), snapV n H x = some y → ∀ L, thawV y L = (y, L)
  | 0, x, y, h, L => by simp [snapV] at h
  | n + 1, x, y, h, L => by
    cases x with
    | agg cs =>
      simp only [snapV, Option.map_eq_some_iff] at h
      obtain ⟨ys, hm, rfl⟩ := h
      obtain ⟨l1, p1⟩ := mapM_some hm
      have := thawL_id ys L (fun i z hz => by
        have hil : i < cs.length := by rw [← l1]; exact (List.getElem?_eq_some_iff.1 hz).1
        exact snap_thaw H n _ z (p1 i _ z (List.getElem?_eq_getElem hil) hz))
      simp only [thawV, this]
    | fn f cs => simp only [snapV, Option.map_eq_some_iff] at h; obtain ⟨ys, _, rfl⟩ := h; rfl
    | ref id ver off len =>
      simp only [snapV] at h
      split at h
      · split at h
        · simp only [Option.map_eq_some_iff] at h; obtain ⟨ys, _, rfl⟩ := h; rfl
        · simp at h
      · simp at h
    | ptr id ver idx off =>
      simp only [snapV] at h
      split at h
      · split at h
        · simp only [Option.map_eq_some_iff] at h; obtain ⟨ys, _, rfl⟩ := h; rfl
        · simp at h
      · simp at h
    | own sz xs => simp [snapV] at h
    | optr sz xs => simp [snapV] at h
    | tup xs => simp [snapV] at h
    | _ => simp only [snapV, Option.some.injEq] at h; subst h; rfl

/-- How a root in the callee's heap stands to the caller's. -/
def RootOK (H : Heap) (φ : Phi) (L0 : Heap) (φ0 : Phi) (a x : AV) : Prop :=
  ∃ k kv bk, rootK x = some (k, kv) ∧ L0.blk k kv = some bk ∧ (∃ loc, φ0 k = some loc) ∧ (rootId a = none → bk.el = []) ∧
    ∀ id ver, rootId a = some (id, ver) → ∃ b c b0, H.blk id ver = some b ∧ bk.sz = b.sz ∧ bk.el.length = b.el.length ∧ φ id = some (.at_ c b0) ∧ φ0 k = some (.at_ c b0)

def Roots (H : Heap) (φ : Phi) (L0 : Heap) (φ0 : Phi) : List Mode → List AV → List AV → Prop
  | .io :: ms, a :: as, x :: xs => RootOK H φ L0 φ0 a x ∧ Roots H φ L0 φ0 ms as xs
  | _ :: ms, _ :: as, _ :: xs => Roots H φ L0 φ0 ms as xs
  | _, _, _ => True

theorem Heap.blk_less {L L1 : Heap} (h : Less L L1) {id ver : Nat} {b : Blk} (hb : L1.blk id ver = some b) : L.blk id ver = some b := by
  obtain ⟨h1, h2⟩ := Heap.blk_get hb
  have := Heap.blk_of_get (h.get id b h1)
  rwa [h2] at this

theorem blk_hget {L L1 : Heap} (h : ∀ id b, L.get id = some b → L1.get id = some b) {id ver : Nat} {b : Blk} (hb : L.blk id ver = some b) : L1.blk id ver = some b := by
  obtain ⟨h1, h2⟩ := Heap.blk_get hb
  have := Heap.blk_of_get (h id b h1)
  rwa [h2] at this

theorem RootOK.mono {H H' : Heap} {φ : Phi} {L0 L1 : Heap} {φ0 φ1 : Phi} {a x : AV} (hl : Less H H') (hget : ∀ id b, L0.get id = some b → L1.get id = some b) (hphi : ∀ id loc, φ0 id = some loc → φ1 id = some loc)
    (h : RootOK H' (restr φ H') L0 φ0 a x) : RootOK H φ L1 φ1 a x := by
  obtain ⟨k, kv, bk, h1, h2, ⟨loc, h2'⟩, h3, h4⟩ := h
  refine ⟨k, kv, bk, h1, blk_hget hget h2, ⟨loc, hphi _ _ h2'⟩, h3, fun id ver hr => ?_⟩
  obtain ⟨b, c, b0, q1, q2, q3, q4, q5⟩ := h4 id ver hr
  exact ⟨b, c, b0, Heap.blk_less hl q1, q2, q3, (restr_some q4).1, hphi _ _ q5⟩

theorem Roots.mono {H H' : Heap} {φ : Phi} {L0 L1 : Heap} {φ0 φ1 : Phi} (hl : Less H H') (hget : ∀ id b, L0.get id = some b → L1.get id = some b) (hphi : ∀ id loc, φ0 id = some loc → φ1 id = some loc) :
    ∀ {ms : List Mode} {as xs : List AV}, Roots H' (restr φ H') L0 φ0 ms as xs → Roots H φ L1 φ1 ms as xs
  | [], _, _, _ => by simp [Roots]
  | .io :: ms, a :: as, x :: xs, h => by
    simp only [Roots] at h ⊢
    exact ⟨h.1.mono hl hget hphi, Roots.mono hl hget hphi h.2⟩
  | .val :: ms, a :: as, x :: xs, h => by
    simp only [Roots] at h ⊢
    exact Roots.mono hl hget hphi h
  | .mov :: ms, a :: as, x :: xs, h => by
    simp only [Roots] at h ⊢
    exact Roots.mono hl hget hphi h
  | m :: ms, [], _, _ => by cases m <;> simp [Roots]
  | m :: ms, _ :: _, [], _ => by cases m <;> simp [Roots]

section duo
variable {w : World} {A : Avoid}

/-- An empty one, handed over and back. -/
theorem ioNil {H : Heap} {φ : Phi} {L : Heap} {φL : Phi} (hd : Duo w H φ A L φL A) (sz : Nat) {a : AV} {u : Value} (hv : ∃ p cap, u = .slice p 0 cap) (hr : rootId a = none) :
    ∃ φ1, Moved w H φ A L φL A H (L.new sz true []) φ1 ∧ R w (L.new sz true []) φ1 A (.ref L.bs.length L.st 0 0) u ∧ RootOK H φ (L.new sz true []) φ1 a (.ref L.bs.length L.st 0 0) := by
  obtain ⟨p, cap, rfl⟩ := hv
  have m := newAt (Moved.refl hd) (sz := sz) (fx := true) (el := []) (loc := .virt) (by simp) (fun _ => rfl) (by simp)
  have hg := Heap.get_new L sz true []
  refine ⟨_, m, .ref _ _ _ _ _ (Nat.lt_succ_self _) ⟨_, _, rfl⟩ fun b hb => ?_, _, _, _, rfl, Heap.blk_of_get hg, ⟨.virt, by simp⟩, fun _ => rfl, fun id ver h => by rw [hr] at h; simp at h⟩
  have := blk_same hg hb
  subst this
  exact ⟨.virt, p, cap, by simp, rfl, by simp, Nat.zero_le _, by simp, rfl, fun h => by simp at h⟩

/-- What is handed over, and back. -/
theorem ioStep {H : Heap} {φ : Phi} {L : Heap} {φL : Phi} (hd : Duo w H φ A L φL A) {sh : List Sh} {a : AV} {u : Value} (ha : R w H φ A a u) {z : AV} {H1 : Heap} (hz : prepM .io sh a H = some (z, H1)) :
    (∃ sz xs φ1, z = .own sz xs ∧ Moved w H φ A L φL A H1 ((thawL xs L).2.new sz true (thawL xs L).1) φ1 ∧
      R w ((thawL xs L).2.new sz true (thawL xs L).1) φ1 A (.ref (thawL xs L).2.bs.length (thawL xs L).2.st 0 (thawL xs L).1.length) u ∧
      RootOK H φ ((thawL xs L).2.new sz true (thawL xs L).1) φ1 a (.ref (thawL xs L).2.bs.length (thawL xs L).2.st 0 (thawL xs L).1.length)) ∨
    (∃ sz x φ1, z = .optr sz x ∧ Moved w H φ A L φL A H1 (thawV z L).2 φ1 ∧ R w (thawV z L).2 φ1 A (thawV z L).1 u ∧ RootOK H φ (thawV z L).2 φ1 a (thawV z L).1) := by
  cases a with
  | nil =>
    simp only [prepM, Option.some.injEq, Prod.mk.injEq] at hz
    obtain ⟨rfl, rfl⟩ := hz
    obtain ⟨φ1, h1, h2, h3⟩ := ioNil hd (elSh sh).length (a := .nil) ⟨none, 0, ha.nil_inv⟩ rfl
    exact .inl ⟨_, _, φ1, rfl, h1, h2, h3⟩
  | e0 =>
    simp only [prepM, Option.some.injEq, Prod.mk.injEq] at hz
    obtain ⟨rfl, rfl⟩ := hz
    obtain ⟨a0, ha0⟩ := ha.e0_inv
    obtain ⟨φ1, h1, h2, h3⟩ := ioNil hd (elSh sh).length (a := .e0) ⟨a0, 0, ha0⟩ rfl
    exact .inl ⟨_, _, φ1, rfl, h1, h2, h3⟩
  | ref id ver off len =>
    simp only [prepM] at hz
    split at hz
    · rename_i b hb
      obtain ⟨hver, _, hr⟩ := ha.ref_inv
      obtain ⟨loc, a0, cap, q1, rfl, q3, q4, q5, q6⟩ := (hr b hb).out
      split at hz
      · rename_i hl0; subst hl0
        simp only [Option.some.injEq, Prod.mk.injEq] at hz
        obtain ⟨rfl, rfl⟩ := hz
        obtain ⟨φ1, h1, h2, h3⟩ := ioNil hd (elSh sh).length (a := .ref id ver off 0) ⟨a0, cap, rfl⟩ (by simp [rootId])
        exact .inl ⟨_, _, φ1, rfl, h1, h2, h3⟩
      · rename_i hl0
        split at hz
        · rename_i hfull
          obtain ⟨rfl, hlen⟩ := hfull
          obtain ⟨e, rfl, ht⟩ := takeE_one (by simp) hz
          cases e with
          | sc => simp [takeT, plainA] at ht
          | pt es => simp [takeT] at ht
          | sl es =>
            simp only [takeT, hb] at ht
            split at ht
            · rename_i hc
              obtain ⟨c1, c2, c3⟩ := hc
              split at ht
              · rename_i ys L' hm
                simp only [Option.some.injEq, Prod.mk.injEq] at ht
                obtain ⟨rfl, rfl⟩ := ht
                left
                have hg := (Heap.blk_get hb).1
                obtain ⟨bk, hbk, hok⟩ := hd.sl.blk id _ q1
                rw [hg] at hbk
                simp only [Option.some.injEq] at hbk; subst hbk
                have hlss := Less.del H id
                have hd' : Duo w (H.del id) (restr φ (H.del id)) A L φL A := ⟨lessSt hd.sl hlss, hd.sh, fun c hc => hd.dis c (restr_ow hc), fun c hc => hd.cov c (restr_ow hc)⟩
                have hsub : subL b.el 0 len = b.el := by simp [subL, hlen]
                rw [hsub] at hm
                cases loc with
                | virt => have := hok.virt rfl; rw [this] at hlen; simp at hlen; omega
                | at_ c b0 =>
                simp only at q6
                rcases q6 with q6 | ⟨h1, h2⟩
                · omega
                obtain ⟨arr, T, fr, k1, k2, k3, k4⟩ := hok.here c b0 rfl
                let g : Nat → Nat → Value := fun i j => arr.getD (b0 + i * b.sz + j) undef
                have hrel : ∀ (i : Nat) (x : AV) (j : Nat) (y : AV), b.el[i]? = some x → x.cells[j]? = some y → R w (H.del id) (restr φ (H.del id)) A y (g i j) := by
                  intro i x j y hi hj
                  have hjl : j < b.sz := by rw [← hok.sized _ _ hi]; exact (List.getElem?_eq_some_iff.1 hj).1
                  have hle := mul_lt_le (n := b.sz) (List.getElem?_eq_some_iff.1 hi).1
                  have hlt : b0 + i * b.sz + j < arr.size := by omega
                  have : g i j = arr[b0 + i * b.sz + j] := by
                    simp only [g, Array.getD_eq_getD_getElem?, Array.getElem?_eq_getElem hlt, Option.getD_some]
                  rw [this]
                  exact ((k4 _ _ _ _ _ hi hj (Array.getElem?_eq_getElem hlt)).1).mono (lessEvo hlss)
                obtain ⟨φ1, m, l1, s1, r1⟩ := moveX (w := w) (es := es) (fun x vs L φL AL H φ AH y L1 a H1 => moveE es x vs L φL AL H φ AH y L1 a H1) _ g _ _ _ _ _ _ _ _ _ _ hd' hrel hm rfl (.inl fun _ h => h)
                have hlen2 : ∀ (i : Nat) (a : AV), (thawL ys L).1[i]? = some a → a.cells.length = b.sz := by
                  intro i a ha
                  have hil : i < b.el.length := by rw [← l1]; exact (List.getElem?_eq_some_iff.1 ha).1
                  have hxi := List.getElem?_eq_getElem hil
                  rw [s1 i _ a hxi ha]
                  exact hok.sized _ _ hxi
                have M := blkMove (off := 0) (n := len) hd hb c2 rfl q1 (fun c' b0' arr' T' fr' hl hh i j v hi hj hv => by
                  simp only [Loc.at_.injEq] at hl
                  obtain ⟨rfl, rfl⟩ := hl
                  rw [k1] at hh
                  simp only [Option.some.injEq, Obj.cells.injEq] at hh
                  obtain ⟨rfl, _, _⟩ := hh
                  simp only [Nat.zero_add] at hv
                  simp only [g, Array.getD_eq_getD_getElem?, hv, Option.getD_some]) m (by rw [l1, hlen]) hlen2 r1 true (.at_ c b0) (.inr ⟨c, b0, rfl, by simp⟩)
                rw [c1] at M
                have hgn := Heap.get_new (thawL ys L).2 es.length true (thawL ys L).1
                refine ⟨_, _, _, rfl, M, ?_, _, _, _, rfl, Heap.blk_of_get hgn, ⟨.at_ c b0, by simp⟩, fun h => by simp [rootId, hl0] at h, fun id' ver' h => ?_⟩
                · refine .ref _ _ _ _ _ (Nat.lt_succ_self _) ⟨a0, cap, by rw [l1, hlen]⟩ fun b' hb' => ?_
                  have := blk_same hgn hb'
                  subst this
                  refine ⟨.at_ c b0, a0, cap, by simp, by rw [l1, hlen], by simp, by omega, by simp only; omega, ?_⟩
                  refine Or.inr ⟨by rw [h1]; simp, ?_⟩
                  rw [c1] at h2
                  simpa using h2
                · simp only [rootId, hl0, if_false, Option.some.injEq, Prod.mk.injEq] at h
                  obtain ⟨rfl, rfl⟩ := h
                  exact ⟨b, c, b0, hb, c1.symm, l1, q1, by simp⟩
              · simp at ht
            · simp at ht
        · simp at hz
    · simp at hz
  | ptr id ver idx off =>
    simp only [prepM] at hz
    obtain ⟨e, rfl, ht⟩ := takeE_one (by simp) hz
    cases e with
    | sc => simp [takeT, plainA] at ht
    | sl es => simp [takeT] at ht
    | pt es =>
      rcases idx with _ | idx
      rotate_left
      · simp [takeT] at ht
      rcases off with _ | off
      rotate_left
      · simp [takeT] at ht
      simp only [takeT] at ht
      split at ht
      · rename_i bver sz bfix z' hb
        split at ht
        · rename_i y' L' hm
          simp only [Option.some.injEq, Prod.mk.injEq] at ht
          obtain ⟨rfl, rfl⟩ := ht
          right
          have hg := (Heap.blk_get hb).1
          obtain ⟨hver, _, hr⟩ := ha.ptr_inv
          obtain ⟨c, b0, q1, rfl⟩ := hr _ hb
          obtain ⟨bk, hbk, hok⟩ := hd.sl.blk id _ q1
          rw [hg] at hbk
          simp only [Option.some.injEq] at hbk; subst hbk
          obtain ⟨arr, T, fr, k1, k2, k3, k4⟩ := hok.here c b0 rfl
          have hlss := Less.del H id
          have hd' : Duo w (H.del id) (restr φ (H.del id)) A L φL A := ⟨lessSt hd.sl hlss, hd.sh, fun c hc => hd.dis c (restr_ow hc), fun c hc => hd.cov c (restr_ow hc)⟩
          have hzl : z'.cells.length = sz := hok.sized 0 z' rfl
          simp only [List.length_singleton, Nat.one_mul] at k3
          let vs : List Value := (arr.extract b0 (b0 + sz)).toList
          have hvs : vs.length = sz := by simp [vs]; omega
          have hvg : ∀ j u, vs[j]? = some u → arr[b0 + j]? = some u := by
            intro j u hu
            simp only [vs, Array.getElem?_toList, Array.getElem?_extract] at hu
            split at hu
            · exact hu
            · simp at hu
          obtain ⟨φ1, m, l1, r1⟩ := moveE es z' vs _ _ _ _ _ _ _ _ _ _ hd' (by rw [hvs, hzl]) (fun j c' u hj hu => ((k4 0 z' j c' u rfl hj (by simpa using hvg j u hu)).1).mono (lessEvo hlss)) hm rfl (.inl fun _ h => h)
          have M := blkMove (as := [(thawV y' L).1]) (n := 1) (off := 0) (sz := sz) (loc' := .at_ c b0) (g := fun i j => vs.getD j undef) hd hb (by simp) rfl q1 (fun c' b0' arr' T' fr' hl hh i j v hi hj hv => by
              simp only [Loc.at_.injEq] at hl
              obtain ⟨rfl, rfl⟩ := hl
              rw [k1] at hh
              simp only [Option.some.injEq, Obj.cells.injEq] at hh
              obtain ⟨rfl, _, _⟩ := hh
              have hi0 : i = 0 := by omega
              subst hi0
              simp only [Nat.zero_mul, Nat.add_zero] at hv
              have : vs[j]? = some v := by
                simp only [vs, Array.getElem?_toList, Array.getElem?_extract]
                rw [if_pos (by omega)]; exact hv
              simp [List.getD, this]) m rfl (fun i a ha => by
              cases i with
              | zero => simp at ha; subst ha; rw [l1, hzl]
              | succ i => simp at ha) (fun i a j c' ha hc => by
              cases i with
              | zero =>
                simp at ha; subst ha
                have hj : j < vs.length := by rw [hvs, ← hzl, ← l1]; exact (List.getElem?_eq_some_iff.1 hc).1
                have := r1 j c' vs[j] hc (List.getElem?_eq_getElem hj)
                simpa [List.getD, hj] using this
              | succ i => simp at ha) false (.inr ⟨c, b0, rfl, by simp⟩)
          have hgn := Heap.get_new (thawV y' L).2 sz false [(thawV y' L).1]
          refine ⟨_, _, _, rfl, M, ?_, _, _, _, rfl, Heap.blk_of_get hgn, ⟨.at_ c b0, by simp⟩, fun h => by simp [rootId] at h, fun id' ver' h => ?_⟩
          · refine .ptr _ _ _ _ _ (Nat.lt_succ_self _) ⟨_, rfl⟩ fun b' hb' => ⟨c, b0, by simp, ?_⟩
            simp
          · simp only [rootId, Option.some.injEq, Prod.mk.injEq] at h
            obtain ⟨rfl, rfl⟩ := h
            exact ⟨_, c, b0, hb, rfl, rfl, q1, by simp⟩
        · simp at ht
      · simp at ht
  | _ => simp [prepM] at hz
end duo
end Go.VS
