/-
  VS, part 12: append, copy, clear at the machine.
-/
import Derived.Test.YtkmcnmjjfgahpaaVsK
namespace Go.VS

theorem nextcap_le (need cap : Nat) (h : cap < need) : Builtin.nextslicecap need cap ≤ 2 * need + 512 := by
  have g : ∀ (r c : Nat), c ≤ 2 * need + 512 → Builtin.growBy need r c ≤ 2 * need + 512 := by
    intro r
    induction r with
    | zero => intro c hc; exact hc
    | succ r ih =>
      intro c hc
      simp only [Builtin.growBy]
      split
      · exact hc
      · exact ih _ (by omega)
  unfold Builtin.nextslicecap
  split
  · omega
  · split
    · omega
    · exact g _ _ (by omega)

section ops
variable {P : Program} {E : TEnv} (hE : ∀ t ti, E t = some ti → TyOK P t ti)
variable {w : World} {G : Heap} {φ : Phi} {A : Avoid}

theorem not_it {t : TypeId} {ti : TI} (h : TyOK P t ti) (hn : ∀ k, ti.und ≠ .it k) (w : World) : ∃ d, (underlying t).run P w = .ok d w ∧ (∀ k, d ≠ .int k) := by
  obtain ⟨i, d, z, _, hd, _, _, _, _, _, _, _, _, hud, _⟩ := h.out
  exact ⟨d, run_underlying hd w, fun k hk => hn k (by rw [← hud, hk]; rfl)⟩

/-- What is appended. -/
structure SrcAt (P : Program) (w : World) (G : Heap) (φ : Phi) (A : Avoid) (xs : List AV) (v : Value) (sz : Nat) (cs : Array Value) : Prop where
  len : (Builtin.lenOf v).run P w = .ok xs.length w
  run : ∀ m, m ≤ xs.length → (Builtin.firstCells sz m v).run P w = .ok (cs.extract 0 (m * sz)) w
  size : cs.size = xs.length * sz
  rel : ∀ (i : Nat) (x : AV) (j : Nat) (y : AV) (u : Value), xs[i]? = some x → x.cells[j]? = some y → cs[i * sz + j]? = some u → R w G φ A y u ∧ u.oneCell' = true
  one : ∀ u ∈ cs.toList, u.oneCell' = true

theorem src_ok {H0 : Heap} (hst : St w G φ A) (hX : Ext H0 G) {x : AV} {v : Value} {xs : List AV} {sz : Nat} (hx : R w G φ A x v) (h : elemsOf H0 x = some xs) (hs : szAll sz xs = true) (hz : 0 < sz) :
    ∃ cs, SrcAt P w G φ A xs v sz cs := by
  by_cases hstr : ∃ s, x = .str s
  · obtain ⟨s, rfl⟩ := hstr
    obtain ⟨b, rfl, rfl⟩ := hx.str_inv
    simp only [elemsOf, Option.some.injEq] at h
    have hxl : xs.length = b.size := by rw [← h, List.length_map]; exact Array.length_toList
    refine ⟨b.data.map fun c => .int .u8 c.toNat, by simp [Builtin.lenOf, hxl], fun m hm => ?_, ?_, fun i x j y u hi hy hu => ?_, fun u hu => ?_⟩
    · have hsz : sz = 1 ∨ xs = [] := by
        rcases xs with _ | ⟨y, ys⟩
        · exact .inr rfl
        · left
          have := szAll_get (i := 0) hs rfl
          have hy : (b.data.toList.map fun c : UInt8 => AV.int .u8 c.toNat)[0]? = some y := by rw [h]; rfl
          simp only [List.getElem?_map, Option.map_eq_some_iff] at hy
          obtain ⟨c, _, rfl⟩ := hy
          exact this.symm
      simp only [Builtin.firstCells, Sem.run_pure]
      congr 1
      rcases hsz with rfl | rfl
      · rw [ByteArray.data_extract, Nat.mul_one]
        apply Array.ext'; simp
      · simp at hm; subst hm
        rw [ByteArray.data_extract]
        apply Array.ext'; simp
    · rcases xs with _ | ⟨y, ys⟩
      · rw [Array.size_map, List.length_nil, Nat.zero_mul]; exact hxl.symm
      · have := szAll_get (i := 0) hs rfl
        have hy : (b.data.toList.map fun c : UInt8 => AV.int .u8 c.toNat)[0]? = some y := by rw [h]; rfl
        simp only [List.getElem?_map, Option.map_eq_some_iff] at hy
        obtain ⟨c, _, rfl⟩ := hy
        have h1 : sz = 1 := this.symm
        subst h1
        rw [Nat.mul_one, hxl, Array.size_map]; rfl
    · rw [← h] at hi
      simp only [List.getElem?_map, Option.map_eq_some_iff] at hi
      obtain ⟨c, hc, rfl⟩ := hi
      have h1 := szAll_get hs (i := i) (x := .int .u8 c.toNat) (by rw [← h]; simp [hc])
      have h1 : sz = 1 := h1.symm
      subst h1
      cases j with
      | zero =>
        simp only [AV.cells, List.getElem?_cons_zero, Option.some.injEq] at hy; subst hy
        simp only [Nat.mul_one, Nat.add_zero, Array.getElem?_map, Option.map_eq_some_iff] at hu
        obtain ⟨c', hc', rfl⟩ := hu
        have : b.data[i]? = some c := by simpa using hc
        rw [this] at hc'
        simp only [Option.some.injEq] at hc'; subst hc'
        exact ⟨.fr _ _ (.int _ _), rfl⟩
      | succ j => simp [AV.cells] at hy
    · simp only [Array.toList_map, List.mem_map] at hu
      obtain ⟨c, _, rfl⟩ := hu; rfl
  · have hel := elems_at hst hX hx h hs (fun s hs => hstr ⟨s, hs⟩)
    obtain ⟨cs, c1, c2, c3, c4⟩ := hel.cells (P := P) hz
    refine ⟨cs, ?_, fun m hm => ?_, c2, c3, c4⟩
    · rcases hel.out with ⟨rfl, a, cap, rfl⟩ | ⟨c, o, cap, arr, T, fr, rfl, _⟩ <;> simp [Builtin.lenOf]
    · rcases hel.out with ⟨rfl, a, cap, rfl⟩ | ⟨c, o, cap, arr, T, fr, rfl, h1, h2, _⟩
      · simp at hm; subst hm
        have : cs = #[] := Array.eq_empty_of_size_eq_zero (by simpa using c2)
        subst this
        cases a with
        | none => simp [Builtin.firstCells]
        | some a => simp [Builtin.firstCells, loadCells, loadCellsFrom]
      · simp only [Builtin.firstCells] at c1 ⊢
        have hle : m * sz ≤ xs.length * sz := Nat.mul_le_mul_right _ hm
        rw [run_loadCells_at P h1 o (xs.length * sz) h2] at c1
        rw [run_loadCells_at P h1 o (m * sz) (by omega)]
        simp only [Result.ok.injEq, and_true] at c1
        congr 1
        rw [← c1]
        simp only [Array.extract_extract]
        congr 1 <;> omega

theorem run_append_grow {t tx e : TypeId} {ti te txi : TI} (ht : TyOK P t ti) (hu : ti.und = .sl e) (hte : TyOK P e te) (htx : TyOK P tx txi) (hnx : ∀ k, txi.und ≠ .it k) (tys : Array TypeId) (h0 : tys[0]? = some t) (h1 : tys[1]? = some tx) (ty : TypeId)
    {base : Option Addr} {sLen sCap : Nat} {x : Value} {n : Nat} {csS csX : Array Value} (hlen : (Builtin.lenOf x).run P w = .ok n w) (hS : (Builtin.firstCells te.sz sLen (.slice base sLen sCap)).run P w.drew = .ok csS w.drew)
    (hX : (Builtin.firstCells te.sz n x).run P w.drew = .ok csX w.drew) (sS : csS.size = sLen * te.sz) (sX : csX.size = n * te.sz) (hneed : sCap < sLen + n) (hroom : roomy (sLen + n) te.bytes = true) :
    ∃ cap arr, sLen + n ≤ cap ∧ (Builtin.append_ tys ty #[.slice base sLen sCap, x]).run P w = .ok (.slice (some ⟨w.heap.size, 0, none⟩) (sLen + n) cap) (w.drew.alloc (.cells arr e)) ∧ arr.size = cap * te.sz ∧
      ∀ j, j < (sLen + n) * te.sz → arr[j]? = (csS ++ csX)[j]? := by
  obtain ⟨d, hd, hdn⟩ := not_it htx hnx w
  obtain ⟨inf, i1, i2, _⟩ := hte.typeInfo w
  obtain ⟨zv, z1, z2, _⟩ := hte.zeroValue w.drew
  simp only [roomy, Bool.and_eq_true, decide_eq_true_eq] at hroom
  obtain ⟨r1, r2⟩ := hroom
  have hnd : (match d with | .int _ => true | _ => false) = false := by cases d <;> first | rfl | exact absurd rfl (hdn _)
  have hb : ¬ (Builtin.nextslicecap (sLen + n) sCap * inf.bytes > 2 ^ 48) := by
    rw [i2]
    have h2 := nextcap_le (sLen + n) sCap hneed
    have h3 : Builtin.nextslicecap (sLen + n) sCap * te.bytes ≤ (2 * (sLen + n) + 512) * te.bytes := Nat.mul_le_mul_right _ h2
    have h4 : (2 * (sLen + n) + 512) * te.bytes ≤ 2 * ((sLen + n + 512) * te.bytes) := by
      rw [← Nat.mul_assoc]; exact Nat.mul_le_mul_right _ (by omega)
    omega
  have hmax : ¬ (((sLen + n : Nat) : Int) > IntKind.i64.max) := by have : IntKind.i64.max = 9223372036854775807 := rfl; omega
  let q : Question := .appendCap (sLen + n) sCap e
  let cap := q.cut (w.tape w.drawn q)
  have hcap : sLen + n ≤ cap := Nat.le_add_right _ _
  let arr := csS ++ csX ++ Builtin.zeroCells zv.cells (cap - (sLen + n))
  have hzs : (Builtin.zeroCells zv.cells (cap - (sLen + n))).size = (cap - (sLen + n)) * te.sz := by simp [Builtin.zeroCells, z2]
  refine ⟨cap, arr, hcap, ?_, ?_, fun j hj => ?_⟩
  · unfold Builtin.append_
    simp only [h0, h1, List.getElem?_toArray, List.getElem?_cons_zero, List.getElem?_cons_succ, Sem.run_bind, ht.sl w hu, Result.andThen_ok, hte.sizeOf, hd, Sem.run_pure]
    have hn1 : ¬ (sLen + n ≤ sCap) := by omega
    obtain ⟨inf', i1', i2', _⟩ := hte.typeInfo w.drew
    simp only [Bool.false_eq_true, if_false, Bool.not_false, if_true, Sem.run_bind, hlen, Result.andThen_ok, hn1, i1, hmax, false_and, hb, run_choose, Question.forced, World.drew_eq, i1', run_askRoom]
    show ((Builtin.firstCells te.sz sLen (.slice base sLen sCap)).run P w.drew).andThen _ = _
    simp only [hS, hX, Result.andThen_ok, z1, Sem.run_bind, newRow, run_newObj, Sem.run_pure, World.alloc_eq]
    rfl
  · simp only [arr, Array.size_append, sS, sX, hzs]
    rw [← Nat.add_mul, ← Nat.add_mul]; congr 1; omega
  · have : j < (csS ++ csX).size := by simp only [Array.size_append, sS, sX]; rw [← Nat.add_mul]; exact hj
    simp only [arr]
    rw [Array.getElem?_append_left this]
end ops
end Go.VS
