import Derived.Test.YtcgnkhdeckgaaaaVaE
import Derived.ChangeArms
import Derived.Carry
import Derived.ProofKit
import Derived.SizedLaws
/-
  VS, part 46: arguments that are read, and a law's end.
-/
namespace Go.VS
open Go.RowKit Go.WideShapes Go.ChangeAt Go.ChangeShapes

def NoA : Avoid := fun _ => False
def FRs (w : World) (xs : List AV) (cs : List Value) : Prop := xs.length = cs.length ∧ (∀ (i : Nat) (x : AV) (v : Value), xs[i]? = some x → cs[i]? = some v → FR w NoA x v) ∧ ∀ v ∈ cs, v.oneCell' = true

/-- What is read of a type: data of 'T', with cells 'c', within 'ok'. -/
structure Rd (P : Program) (t : TypeId) {T : Type} (n : Nat) (c : T → List AV) (ok : T → Prop) : Prop where
  sz : P.cellsOf t = n
  len : ∀ a, (c a).length = n
  rd : ∀ {H : Type} (enc : TypeId × Value → H) (w : World) (base : Nat) (sp : Nat → Bool) (held : Bool) (fuel : Nat) (cs : List Value) (x : DataW H × List MemPlace), DataW.trod enc P w base sp held fuel t cs = some x → (∀ z ∈ x.1.weights P t, z ≤ reachBytes) → ∃ a : T, ok a ∧ FRs w (c a) cs

section
variable {P : Program} {t : TypeId}

theorem FRs.one {w : World} {x : AV} {v : Value} (h : FR w NoA x v) (ho : v.oneCell' = true) : FRs w [x] [v] :=
  ⟨rfl, fun i y u hy hu => by
    cases i with
    | zero => simp at hy hu; subst hy; subst hu; exact h
    | succ i => simp at hy, by simp [ho]⟩

def inK (k : IntKind) (n : Int) : Prop := k.min ≤ n ∧ n ≤ k.max
theorem Rd.int {k : IntKind} (ht : P.underlying t = some (.int k)) (hs : P.cellsOf t = 1) : Rd P t 1 (fun n : Int => [.int k n]) (inK k) :=
  ⟨hs, fun _ => rfl, fun enc w base sp held fuel cs x h _ => by
    obtain ⟨n, rfl, _, hw⟩ := DataW.trod_int ht h
    simp only [Lit.wf, Bool.and_eq_true, decide_eq_true_eq] at hw
    exact ⟨n, hw, .one (.int k n) rfl⟩⟩
theorem Rd.bool (ht : P.underlying t = some .bool) (hs : P.cellsOf t = 1) : Rd P t 1 (fun b : Bool => [.bool b]) (fun _ => True) :=
  ⟨hs, fun _ => rfl, fun enc w base sp held fuel cs x h _ => by
    obtain ⟨b, rfl, _⟩ := DataW.trod_bool ht h
    exact ⟨b, trivial, .one (.bool b) rfl⟩⟩
theorem Rd.str (ht : P.underlying t = some .string) (hs : P.cellsOf t = 1) : Rd P t 1 (fun s : List UInt8 => [.str s]) (fun s => s.length < 2 ^ 47) :=
  ⟨hs, fun _ => rfl, fun enc w base sp held fuel cs x h hz => by
    obtain ⟨s, rfl, hx, hm⟩ := DataW.trod_string ht h
    have := hz s.data.toList.length (by rw [hx]; simp [DataW.weights])
    have hr := reachBytes_lt
    exact ⟨s.data.toList, by omega, .one (.str s) rfl⟩⟩

theorem cells_get {w : World} {base : Nat} {a : Addr} {n : Nat} {cs : List Value} (h : w.cells? base a n = some cs) : cs.length = n ∧ ∀ i, i < n → w.cell? (a.add i) = cs[i]? := by
  unfold World.cells? at h
  split at h
  · obtain ⟨h1, h2⟩ := mapM_some h
    refine ⟨by simpa using h1, fun i hi => ?_⟩
    have h3 : i < cs.length := by rw [h1]; simpa using hi
    rw [List.getElem?_eq_getElem h3]
    exact h2 i i _ (by simp [hi]) (List.getElem?_eq_getElem h3)
  · simp at h

theorem weightsAll_mem {H : Type} {P : Program} {e : TypeId} {d : DataW H} {l : List (DataW H)} {z : Nat} (h : d ∈ l) (hz : z ∈ d.weights P e) : z ∈ DataW.weightsAll P e l := by
  induction l with
  | nil => simp at h
  | cons x xs ih =>
    simp only [DataW.weightsAll, List.mem_append]
    rcases List.mem_cons.1 h with rfl | h
    · exact .inl hz
    · exact .inr (ih h)
theorem Rd.sl {T : Type} {e : TypeId} {n : Nat} {c : T → List AV} {ok : T → Prop} (he : Rd P e n c ok) (hn : 0 < n) (ce : T → AV) (hc : ∀ a, (ce a).cells = c a) (ht : P.underlying t = some (.slice e)) (hs : P.cellsOf t = 1) (hby : 0 < P.bytesOf e) :
    Rd P t 1 (fun l : List T => [.fz (l.map ce)]) (fun l => l.length < 2 ^ 47 ∧ ∀ a ∈ l, ok a) :=
  ⟨hs, fun _ => rfl, fun {H} enc w base sp held fuel cs x h hz => by
    rcases DataW.trod_slice ht h with ⟨rfl, _⟩ | ⟨a, len, cap, elems, rest, m, _, rfl, hxe, hb, hl, hm, hlen, hel, _, _⟩
    · exact ⟨[], ⟨by simp, by simp⟩, .one (.fz0 none 0) rfl⟩
    · rw [he.sz] at hel
      rw [hxe] at hz
      have hz1 := hz ((elems.length + rest.length) * P.bytesOf e) (by simp [DataW.weights, ht])
      have hz2 : len < 2 ^ 47 := by
        have h3 : elems.length ≤ (elems.length + rest.length) * P.bytesOf e := Nat.le_trans (Nat.le_add_right _ _) (Nat.le_mul_of_pos_right _ hby)
        have := reachBytes_lt
        omega
      -- each element
      have each : ∀ i, i < len → ∃ (x : T) (cs : List Value), ok x ∧ w.cells? base (a.add (i * n)) n = some cs ∧ FRs w (c x) cs := by
        intro i hi
        have h1 := hel i hi
        have hlt : i < elems.length := by omega
        rw [List.getElem?_eq_getElem hlt] at h1
        obtain ⟨cs, h2, h3⟩ := Option.bind_eq_some_iff.1 h1
        obtain ⟨x, h4, h5⟩ := he.rd enc w base sp held m cs _ h3 (fun z hq => hz z (by
          simp only [DataW.weights, ht]
          exact List.mem_cons_of_mem _ (List.mem_append_left _ (weightsAll_mem (List.mem_map_of_mem (List.getElem_mem hlt)) hq))))
        exact ⟨x, cs, h4, h2, h5⟩
      have build : ∀ k, k ≤ len → ∃ l : List T, l.length = k ∧ ∀ i x, l[i]? = some x → ok x ∧ ∃ cs, w.cells? base (a.add (i * n)) n = some cs ∧ FRs w (c x) cs := by
        intro k
        induction k with
        | zero => intro _; exact ⟨[], rfl, by simp⟩
        | succ k ih =>
          intro hk
          obtain ⟨l, h1, h2⟩ := ih (by omega)
          obtain ⟨x, cs, h3, h4, h5⟩ := each k (by omega)
          refine ⟨l ++ [x], by simp [h1], fun i y hy => ?_⟩
          rcases Nat.lt_or_ge i l.length with hi | hi
          · rw [List.getElem?_append_left hi] at hy; exact h2 i y hy
          · rw [List.getElem?_append_right hi] at hy
            have : i = k := by
              have := (List.getElem?_eq_some_iff.1 hy).1
              simp at this; omega
            subst this
            simp [h1] at hy
            subst hy
            exact ⟨h3, cs, h4, h5⟩
      obtain ⟨l, h1, h2⟩ := build len (Nat.le_refl _)
      refine ⟨l, ⟨by omega, fun y hy => ?_⟩, ?_⟩
      · obtain ⟨i, hi⟩ := List.mem_iff_getElem?.1 hy
        exact (h2 i y hi).1
      · refine .one ?_ rfl
        by_cases h0 : len = 0
        · subst h0
          have : l = [] := List.eq_nil_of_length_eq_zero h1
          subst this
          exact .fz0 (some a) cap
        · -- the block
          have hfirst : ∃ y, l[0]? = some y := ⟨_, List.getElem?_eq_getElem (by omega)⟩
          obtain ⟨y, hy⟩ := hfirst
          obtain ⟨_, cs0, hc0, _⟩ := h2 0 y hy
          obtain ⟨hcl, hcg⟩ := cells_get hc0
          have h00 := hcg 0 hn
          have hadd0 : ∀ b : Addr, b.add 0 = b := fun b => by simp [Addr.add]
          rw [Nat.zero_mul, hadd0, hadd0, List.getElem?_eq_getElem (by omega)] at h00
          obtain ⟨ab, ao, asp⟩ := a
          unfold World.cell? at h00
          split at h00
          rotate_left
          · simp at h00
          rename_i arr T0 fr hblk
          simp only at hblk h00
          cases hsp : asp with
          | some q => rw [hsp] at h00; simp at h00
          | none =>
            subst hsp
            have hcell : ∀ i y, l[i]? = some y → ∀ j, j < n → ∃ cs, FRs w (c y) cs ∧ cs.length = n ∧ arr[ao + i * n + j]? = cs[j]? := by
              intro i y hy j hj
              obtain ⟨_, cs, h3, h4⟩ := h2 i y hy
              obtain ⟨h5, h6⟩ := cells_get h3
              refine ⟨cs, h4, h5, ?_⟩
              have h7 := h6 j hj
              have : ((⟨ab, ao, none⟩ : Addr).add (i * n)).add j = ⟨ab, ao + i * n + j, none⟩ := by
                unfold Addr.add
                by_cases hi0 : i * n = 0 <;> by_cases hj0 : j = 0 <;> simp [hi0, hj0, Nat.add_assoc]
              rw [this, cell_at hblk] at h7
              exact h7
            have hlen' : (l.map ce).length = len := by simp [h1]
            have key : FR w NoA (.fz (l.map ce)) (.slice (some ⟨ab, ao, none⟩) (l.map ce).length cap) := by
              refine .fz (l.map ce) ab ao cap n arr T0 fr hblk (fun h => h) (by omega) ?_ ?_ ?_ ?_
              · rw [hlen']
                obtain ⟨z, hz⟩ : ∃ z, l[len - 1]? = some z := ⟨_, List.getElem?_eq_getElem (by omega)⟩
                obtain ⟨cs, _, k2, k3⟩ := hcell (len - 1) z hz (n - 1) (by omega)
                rw [List.getElem?_eq_getElem (by omega)] at k3
                have := (Array.getElem?_eq_some_iff.1 k3).1
                have e : (len - 1) * n + (n - 1) + 1 = len * n := by
                  have : len = (len - 1) + 1 := by omega
                  conv => rhs; rw [this, Nat.add_mul, Nat.one_mul]
                  omega
                omega
              · intro i x hx
                simp only [List.getElem?_map, Option.map_eq_some_iff] at hx
                obtain ⟨z, _, rfl⟩ := hx
                rw [hc, he.len]
              · intro j v hj hv
                rw [hlen'] at hj
                have hd : j / n < len := (Nat.div_lt_iff_lt_mul hn).2 hj
                obtain ⟨z, hz⟩ : ∃ z, l[j / n]? = some z := ⟨_, List.getElem?_eq_getElem (by omega)⟩
                obtain ⟨cs, k1, k2, k3⟩ := hcell (j / n) z hz (j % n) (Nat.mod_lt _ hn)
                have e : ao + j / n * n + j % n = ao + j := by rw [Nat.add_assoc, Nat.mul_comm, Nat.div_add_mod]
                rw [e, hv] at k3
                exact k1.2.2 v (List.mem_of_getElem? k3.symm)
              · intro i x j y v hx hy hv
                simp only [List.getElem?_map, Option.map_eq_some_iff] at hx
                obtain ⟨z, hz, rfl⟩ := hx
                rw [hc] at hy
                have hj : j < n := by rw [← he.len z]; exact (List.getElem?_eq_some_iff.1 hy).1
                obtain ⟨cs, k1, _, k3⟩ := hcell i z hz j hj
                rw [hv] at k3
                exact k1.2.1 j y v hy k3.symm
            rw [hlen'] at key
            exact key⟩

/-- The fields of a struct, one behind the other. -/
structure RdF (P : Program) (fs : List (Nat × TypeId)) {T : Type} (off n : Nat) (c : T → List AV) (ok : T → Prop) : Prop where
  len : ∀ a, (c a).length = n
  rd : ∀ {H : Type} (enc : TypeId × Value → H) (w : World) (base : Nat) (sp : Nat → Bool) (held : Bool) (fuel : Nat) (cs : List Value), cs.length = off + n →
    (∀ f ∈ fs, ∃ x : DataW H × List MemPlace, DataW.trod enc P w base sp held fuel f.2 ((cs.drop f.1).take (P.cellsOf f.2)) = some x ∧ ∀ z ∈ x.1.weights P f.2, z ≤ reachBytes) → ∃ a : T, ok a ∧ FRs w (c a) (cs.drop off)
theorem RdF.nil {off : Nat} : RdF P [] off 0 (fun _ : Unit => []) (fun _ => True) :=
  ⟨fun _ => rfl, fun enc w base sp held fuel cs hl _ => ⟨(), trivial, by rw [List.drop_of_length_le (by omega)]; exact ⟨rfl, by simp, by simp⟩⟩⟩
theorem RdF.cons {ft : TypeId} {fs : List (Nat × TypeId)} {T U : Type} {off n m : Nat} {c : T → List AV} {d : U → List AV} {ok : T → Prop} {ok' : U → Prop} (h : Rd P ft n c ok) (k : RdF P fs (off + n) m d ok') :
    RdF P ((off, ft) :: fs) off (n + m) (fun x : T × U => c x.1 ++ d x.2) (fun x => ok x.1 ∧ ok' x.2) :=
  ⟨fun a => by rw [List.length_append, h.len, k.len], fun enc w base sp held fuel cs hl hf => by
    obtain ⟨x, hx, hxz⟩ := hf (off, ft) (by simp)
    simp only [h.sz] at hx
    obtain ⟨a, a1, a2⟩ := h.rd enc w base sp held fuel _ _ hx hxz
    obtain ⟨b, b1, b2⟩ := k.rd enc w base sp held fuel cs (by omega) (fun g hg => hf g (by simp [hg]))
    refine ⟨(a, b), ⟨a1, b1⟩, ?_⟩
    have e : cs.drop off = (cs.drop off).take n ++ cs.drop (off + n) := by
      rw [← List.drop_drop, List.take_append_drop]
    rw [e]
    obtain ⟨l1, p1, o1⟩ := a2
    obtain ⟨l2, p2, o2⟩ := b2
    refine ⟨by simp only [List.length_append, l1, l2], fun i x v hx hv => ?_, fun v hv => ?_⟩
    · rcases Nat.lt_or_ge i (c a).length with hi | hi
      · rw [List.getElem?_append_left hi] at hx
        rw [List.getElem?_append_left (by rw [← l1]; exact hi)] at hv
        exact p1 i x v hx hv
      · rw [List.getElem?_append_right hi] at hx
        rw [List.getElem?_append_right (by rw [← l1]; exact hi), ← l1] at hv
        exact p2 _ x v hx hv
    · rcases List.mem_append.1 hv with h | h
      · exact o1 v h
      · exact o2 v h⟩
def fldsOf (P : Program) (t : TypeId) : Option (List (Nat × TypeId)) := match P.underlying t with
  | some (.struct fs) => some (fs.toList.map fun f => (f.offset, f.type))
  | _ => none
theorem Rd.st {fs : List (Nat × TypeId)} {T : Type} {n : Nat} {c : T → List AV} {ok : T → Prop} (ht : fldsOf P t = some fs) (hs : P.cellsOf t = n) (h : RdF P fs 0 n c ok) : Rd P t n c ok :=
  ⟨hs, h.len, fun enc w base sp held fuel cs x hx hz => by
    unfold fldsOf at ht
    split at ht
    · rename_i fa hu
      simp only [Option.some.injEq] at ht
      obtain ⟨xs, m, _, hxe, hl, hxl, hf⟩ := DataW.trod_struct hu hx
      rw [hxe] at hz
      obtain ⟨a, h1, h2⟩ := h.rd enc w base sp held m cs (by omega) (fun f hfm => by
        rw [← ht] at hfm
        obtain ⟨g, hg, rfl⟩ := List.mem_map.1 hfm
        obtain ⟨i, hi⟩ := List.mem_iff_getElem?.1 hg
        rw [Array.getElem?_toList] at hi
        have := hf i g hi
        have hlt : i < xs.length := by rw [hxl]; exact (Array.getElem?_eq_some_iff.1 hi).1
        exact ⟨_, by rw [this, List.getElem?_eq_getElem hlt], fun z hq => hz z (by
          simp only [DataW.weights, hu]
          exact DataW.weights_mem_each (j := i) (t := g.type) (d := xs[i].1) (by simp [hi]) (by simp [List.getElem?_eq_getElem hlt]) z hq)⟩)
      exact ⟨a, h1, by simpa using h2⟩
    · simp at ht⟩
/-- The same, under another name. -/
theorem Rd.map {T U : Type} {n : Nat} {c : T → List AV} {ok : T → Prop} (h : Rd P t n c ok) (g : T → U) {d : U → List AV} {ok' : U → Prop} (hc : ∀ a, d (g a) = c a) (hl : ∀ b, (d b).length = n) (ho : ∀ a, ok a → ok' (g a)) : Rd P t n d ok' :=
  ⟨h.sz, hl, fun enc w base sp held fuel cs x hx hz => by
    obtain ⟨a, h1, h2⟩ := h.rd enc w base sp held fuel cs x hx hz
    exact ⟨g a, ho a h1, by rw [hc]; exact h2⟩⟩

/-- An argument of one cell, and one that is a struct. -/
theorem Rd.arg1 {H : Type} {enc : TypeId × Value → H} {w : World} {base : Nat} {sp : Nat → Bool} {held : Bool} {T : Type} {f : T → AV} {ok : T → Prop} (h : Rd P t 1 (fun a : T => [f a]) ok) {v : Value} {d : DataW H} {ps : List MemPlace} (hd : DataW.Trod enc P w base sp held t v d ps) (hv : v.cells = #[v]) {ts : List TypeId} {ds : List (DataW H)} {j : Nat} (hz : (DataW.weightsEach P ts ds).all (· ≤ reachBytes) = true) (ht : ts[j]? = some t) (hdj : ds[j]? = some d) :
    ∃ a, ok a ∧ FR w NoA (f a) v := by
  obtain ⟨fuel, hf⟩ := hd
  obtain ⟨a, h1, h2⟩ := h.rd enc w base sp held fuel _ _ hf (fun z hq => by simpa using List.all_eq_true.1 hz z (DataW.weights_mem_each ht hdj z hq))
  rw [hv] at h2
  exact ⟨a, h1, h2.2.1 0 _ _ rfl rfl⟩
end

/-- A law that comes to true: nothing that was there has turned. -/
theorem law_calls {P : Program} {f : FuncId} {ys : List AV} (h : Sim P f ys ⟨0, []⟩ (fun v _ => v = .bool true)) (W : World) (us : Array Value) (hl : ys.length = us.size) (hr : ∀ (i : Nat) (x : AV) (u : Value), ys[i]? = some x → us[i]? = some u → FR W NoA x u) :
    Calls P f us W fun e w' => e = .returned (.bool true) ∧ Below W.heap.size W w' := by
  have hst : St W ⟨0, []⟩ (fun _ => none) NoA := ⟨fun _ _ _ _ _ h => by simp at h, fun c ⟨_, _, h⟩ => by simp at h, fun c h => h.elim, fun _ _ h => by simp at h⟩
  refine (h.2 W NoA (fun _ => none) us hst hl (fun i x u hx hu => .fr _ _ (hr i x u hx hu))).mono fun e w' he => ?_
  cases e with
  | returned v' =>
    obtain ⟨x, H', φ', A', ho, hx, rfl⟩ := he
    have := hx.bool_inv
    subst this
    exact ⟨rfl, ⟨ho.post.os, ho.post.tape, ho.post.output, ho.post.size, fun k hk => ho.post.kept k hk (fun ⟨_, _, h⟩ => by simp at h)⟩⟩
  | panicked c => exact he.elim
  | outgrown => exact he.elim

theorem trodAll_stays {H : Type} {enc : TypeId × Value → H} {P : Program} (hl : laidOutB P = true) {W W' : World} {sp' : Nat → Bool} : ∀ (ts : List TypeId) (vs : List Value) (ds : List (DataW H)) (ps : List MemPlace), (∀ t ∈ ts, P.readableRec t = true ∧ t < P.types.size) →
    DataW.TrodAll enc P W 0 (fun _ => true) true ts vs ds ps → (∀ p ∈ ps, W.sameAt W' p) → (∀ p ∈ ps, sp' p.block = true) → DataW.TrodAll enc P W' 0 sp' true ts vs ds ps
  | [], [], [], ps, _, h, _, _ => h
  | t :: ts, v :: vs, d :: ds, ps, hr, h, h1, h2 => by
    obtain ⟨p, q, k1, k2, rfl⟩ := h
    exact ⟨p, q, WideElems.Trod_stays hl (hr t (by simp)).1 (hr t (by simp)).2 k1 (fun x hx => h1 x (by simp [hx])) (fun x hx => h2 x (by simp [hx])),
      trodAll_stays hl ts vs ds q (fun t ht => hr t (by simp [ht])) k2 (fun x hx => h1 x (by simp [hx])) (fun x hx => h2 x (by simp [hx])), rfl⟩
  | [], _ :: _, _, _, _, h, _, _ => h.elim
  | [], [], _ :: _, _, _, h, _, _ => h.elim
  | _ :: _, [], _, _, _, h, _, _ => h.elim
  | _ :: _, _ :: _, [], _, _, h, _, _ => h.elim

/-- What a law's row asks, where it came to true and nothing turned. -/
theorem law_post {H : Type} {enc : TypeId × Value → H} {P : Program} {fn : Func} {s : ChangeSpec} {apart fresh handsOn : Bool} {W W' : World} {args : Array Value} {ds gs : List (DataW H)} {before : List MemPlace} {t : TypeId}
    (hW : DataW.Whole enc P fn.params.toList s.vars apart W args.toList ds gs before) (hv : s.vars = []) (hs : (s.fn H (ds ++ gs)).results = [.lit (.bool true)] ∧ (s.fn H (ds ++ gs)).args = ds ∧ (s.fn H (ds ++ gs)).vars = []) (hr : fn.resultTypes = #[t]) (ht : P.underlying t = some .bool)
    (hl : laidOutB P = true) (hre : ∀ t ∈ fn.params.toList, P.readableRec t = true ∧ t < P.types.size) (hb : Below W.heap.size W W') : s.post enc P fn apart fresh handsOn false W args (.bool true) W' := by
  have hW' := hW
  obtain ⟨p, q, h1, h2, rfl, h3, h4⟩ := hW
  rw [hv] at h2
  have hq : q = [] ∧ gs = [] := by
    cases gs with
    | nil => exact ⟨h2, rfl⟩
    | cons _ _ => exact h2.elim
  obtain ⟨rfl, rfl⟩ := hq
  refine ⟨ds, [], p ++ [], [], p, [], hW', ?_, ?_, ?_, hb.frame _, fun h => by simp at h⟩
  · rw [hs.1, hr]
    exact ChangeShapes.trodAll_mk1 (shut_bool ht true)
  · rw [hs.2.1]
    have hlt : ∀ x ∈ p, x.block < W.heap.size := fun x hx => hW'.lt x (by simp [hx])
    exact trodAll_stays hl _ _ _ _ hre h1 (fun x hx => hb.same (hlt x hx)) (fun x hx => by simpa using hlt x hx)
  · rw [hs.2.2, hv]
    rfl

theorem arg_cells1 {P : Program} {w : World} {r : Reach} {b : Nat} {t : TypeId} {v : Value} (h : Value.okWide P w r b t v) (ht : ∀ fs, P.underlying t ≠ some (.struct fs)) (ht' : ∀ n e, P.underlying t ≠ some (.array n e)) : v.cells = #[v] := by
  unfold Value.okWide at h
  split at h
  · rename_i fs hu; exact absurd hu (ht fs)
  · rename_i n e hu; exact absurd hu (ht' n e)
  · have no : ∀ cs, v ≠ .agg cs ∧ v ≠ .tuple cs := by
      intro cs
      constructor
      all_goals
        rintro rfl
        unfold Cell.okWide at h
        split at h
        all_goals first | (rename_i he _; simp at he; done) | skip
        all_goals first | contradiction | skip
        all_goals (unfold Cell.ok at h; split at h <;> first | contradiction | simp_all)
    cases v with
    | agg cs => exact absurd rfl (no cs).1
    | tuple cs => exact absurd rfl (no cs).2
    | _ => rfl
end Go.VS

/-
  VS, part 47: plain words about loops and numbers, for what is left when the code is gone.
-/
namespace Go.VS

section
open Go.ChangeShapes Go.WideShapes Go.ChangeAt
theorem trodCons {H : Type} {enc : TypeId × Value → H} {P : Program} {W : World} {b : Nat} {sp : Nat → Bool} {held : Bool} {t : TypeId} {ts : List TypeId} {vs : List Value} {ds : List (DataW H)} {ps : List MemPlace} (h : DataW.TrodAll enc P W b sp held (t :: ts) vs ds ps) :
    ∃ v vs' d ds' p q, vs = v :: vs' ∧ ds = d :: ds' ∧ DataW.Trod enc P W b sp held t v d p ∧ DataW.TrodAll enc P W b sp held ts vs' ds' q := by
  match vs, ds, h with
  | v :: vs', d :: ds', h =>
    obtain ⟨p, q, h1, h2, _⟩ := h
    exact ⟨v, vs', d, ds', p, q, rfl, rfl, h1, h2⟩
  | [], _ :: _, h => exact h.elim
  | [], [], h => exact h.elim
  | _ :: _, [], h => exact h.elim
/-- How long a slice handed in may be. -/
theorem slice_sized {H : Type} {enc : TypeId × Value → H} {P : Program} {W : World} {b : Nat} {sp : Nat → Bool} {held : Bool} {t e : TypeId} {v : Value} {d : DataW H} {ps : List MemPlace} {ts : List TypeId} {ds : List (DataW H)} {j : Nat} {xs : List AV} {A : Avoid}
    (h : DataW.Trod enc P W b sp held t v d ps) (hv : v.cells = #[v]) (hu : P.underlying t = some (.slice e)) (hr : FR W A (.fz xs) v) (hz : (DataW.weightsEach P ts ds).all (· ≤ reachBytes) = true) (ht : ts[j]? = some t) (hd : ds[j]? = some d) (hb : 0 < P.bytesOf e) : xs.length < 2 ^ 47 := by
  obtain ⟨fuel, hf⟩ := h
  rw [hv] at hf
  rcases DataW.trod_slice hu hf with ⟨h1, _⟩ | ⟨a, len, cap, elems, rest, m, _, h1, h2, _, _, _, hlen, _⟩
  · have h1 : v = .slice none 0 0 := by simpa using h1
    subst h1
    cases hr
    simp
  · have h1 : v = .slice (some a) len cap := by simpa using h1
    subst h1
    have hd' : d = .slice (elems.map (·.1)) (rest.map (·.1)) := congrArg Prod.fst h2
    subst hd'
    have hs := sized_slice hz ht hd hu
    have hl : xs.length = len := by
      cases hr <;> rfl
    have := reachBytes_lt
    have h3 : elems.length ≤ (elems.length + rest.length) * P.bytesOf e := Nat.le_trans (Nat.le_add_right _ _) (Nat.le_mul_of_pos_right _ hb)
    simp only [List.length_map] at hs
    omega
theorem trodNil {H : Type} {enc : TypeId × Value → H} {P : Program} {W : World} {b : Nat} {sp : Nat → Bool} {held : Bool} {vs : List Value} {ds : List (DataW H)} {ps : List MemPlace} (h : DataW.TrodAll enc P W b sp held [] vs ds ps) : vs = [] ∧ ds = [] := by
  match vs, ds, h with
  | [], [], _ => exact ⟨rfl, rfl⟩
  | [], _ :: _, h => exact h.elim
  | _ :: _, _, h => exact h.elim
end

def R64 (x : Int) : Prop := -9223372036854775808 ≤ x ∧ x ≤ 9223372036854775807
/-- A loop that comes nearer its end each round. -/
theorem whl_inv {σ ρ : Type} {f : σ → Option (LR σ ρ)} (m : σ → Nat) (I : σ → Prop) (Q : ρ → Prop) (h : ∀ x, I x → ∃ y, f x = some y ∧ match y with | .next x' => I x' ∧ m x' < m x | .done r => Q r) :
    ∀ x, I x → ∃ r, whl f x = some r ∧ Q r := by
  intro x
  generalize hn : m x = n
  induction n using Nat.strongRecOn generalizing x with
  | ind n ih =>
    intro hi
    obtain ⟨y, h1, h2⟩ := h x hi
    rw [whl_eq, h1]
    cases y with
    | next x' =>
      subst hn
      exact ih _ h2.2 x' rfl h2.1
    | done r => exact ⟨r, rfl, h2⟩
theorem whl_to {σ ρ : Type} {f : σ → Option (LR σ ρ)} (m : σ → Nat) (I : σ → Prop) (r : ρ) (h : ∀ x, I x → ∃ y, f x = some y ∧ match y with | .next x' => I x' ∧ m x' < m x | .done r' => r' = r) (x : σ) (hx : I x) : whl f x = some r := by
  obtain ⟨r', h1, rfl⟩ := whl_inv m I (· = r) h x hx
  exact h1
/-- Two loops in step. -/
theorem whl2 {σ ρ : Type} {f g : σ → Option (LR σ ρ)} (m : σ → Nat) (I : σ → Prop) (Q : ρ → Prop) (h : ∀ x, I x → ∃ y, f x = some y ∧ g x = some y ∧ match y with | .next x' => I x' ∧ m x' < m x | .done r => Q r) :
    ∀ x, I x → ∃ r, whl f x = some r ∧ whl g x = some r ∧ Q r := by
  intro x
  generalize hn : m x = n
  induction n using Nat.strongRecOn generalizing x with
  | ind n ih =>
    intro hi
    obtain ⟨y, h1, h2, h3⟩ := h x hi
    rw [whl_eq f, h1, whl_eq g, h2]
    cases y with
    | next x' =>
      subst hn
      exact ih _ h3.2 x' rfl h3.1
    | done r => exact ⟨r, rfl, rfl, h3⟩
theorem idx_nat {α : Type} (l : List α) (k : Nat) : idx l (k : Int) = l[k]? := by
  simp [idx]
theorem idx_lt {α : Type} {l : List α} {k : Nat} (h : k < l.length) : idx l (k : Int) = some l[k] := by
  rw [idx_nat, List.getElem?_eq_getElem h]
theorem roomy_of {n b : Nat} (h : n ≤ 2 ^ 32) (hb : b ≤ 4096) : roomy n b = true := by
  have h1 : (n + 512) * b ≤ (2 ^ 32 + 512) * 4096 := Nat.mul_le_mul (by omega) hb
  simp only [roomy, Bool.and_eq_true, decide_eq_true_eq]
  constructor
  · omega
  · omega
theorem mkL_of {α : Type} {b : Nat} {n : Nat} {d : α} (h : n ≤ 2 ^ 32) (hb : b ≤ 4096) : mkL b (n : Int) d = some (List.replicate n d) := by
  have := roomy_of h hb
  simp only [mkL, Int.toNat_natCast, this, and_true, Int.natCast_nonneg, if_true]
theorem app_of {α : Type} {b : Nat} {l m : List α} (h : l.length + m.length ≤ 2 ^ 32) (hb : b ≤ 4096) : app b l m = some (l ++ m) := by
  simp only [app, roomy_of h hb, if_true]
end Go.VS

/-
  VS, part 48: loops over lists as plain recursion; what a piece of plain code comes to.
-/
namespace Go.VS

/-- A loop over a list: 'g' is a round's work, 'fin' what is left at the end. -/
def lgo {α σ ρ : Type} (g : Nat → α → σ → LR σ ρ) (fin : σ → ρ) : Nat → List α → σ → ρ
  | _, [], s => fin s
  | k, x :: xs, s => match g k x s with
    | .next s' => lgo g fin (k + 1) xs s'
    | .done r => r
def LR.mapN {σ τ ρ : Type} (f : σ → τ) : LR σ ρ → LR τ ρ
  | .next s => .next (f s)
  | .done r => .done r

theorem whl_lgo_aux {α σ ρ τ : Type} (l : List α) (f : τ → Option (LR τ ρ)) (mk : Int → σ → τ) (g : Nat → α → σ → LR σ ρ) (fin : σ → ρ) (I : Nat → σ → Prop)
    (hs : ∀ (k : Nat) (hk : k < l.length) (s : σ), I k s → f (mk k s) = some ((g k l[k] s).mapN (mk ((k : Int) + 1))) ∧ ∀ s', g k l[k] s = .next s' → I (k + 1) s')
    (hz : ∀ s, I l.length s → f (mk l.length s) = some (.done (fin s))) : ∀ (n k : Nat), k + n = l.length → ∀ s, I k s → whl f (mk k s) = some (lgo g fin k (l.drop k) s) := by
  intro n
  induction n with
  | zero =>
    intro k hk s hi
    have : k = l.length := by omega
    subst this
    rw [whl_eq, hz s hi]
    simp [lgo]
  | succ n ih =>
    intro k hk s hi
    have hl : k < l.length := by omega
    obtain ⟨h1, h2⟩ := hs k hl s hi
    rw [whl_eq, h1, List.drop_eq_getElem_cons hl]
    simp only [lgo]
    cases hg : g k l[k] s with
    | next s' =>
      have := ih (k + 1) (by omega) s' (h2 s' hg)
      simpa [LR.mapN] using this
    | done r => rfl
theorem whl_lgo {α σ ρ τ : Type} (l : List α) (f : τ → Option (LR τ ρ)) (mk : Int → σ → τ) (g : Nat → α → σ → LR σ ρ) (fin : σ → ρ) (I : Nat → σ → Prop)
    (hs : ∀ (k : Nat) (hk : k < l.length) (s : σ), I k s → f (mk k s) = some ((g k l[k] s).mapN (mk ((k : Int) + 1))) ∧ ∀ s', g k l[k] s = .next s' → I (k + 1) s')
    (hz : ∀ s, I l.length s → f (mk l.length s) = some (.done (fin s))) (s : σ) (h0 : I 0 s) : whl f (mk 0 s) = some (lgo g fin 0 l s) := by
  have := whl_lgo_aux l f mk g fin I hs hz l.length 0 (by omega) s h0
  simpa using this

/-- The same, where nothing is to be known of the state. -/
theorem whl_lg {α σ ρ τ : Type} (l : List α) (f : τ → Option (LR τ ρ)) (mk : Int → σ → τ) (g : Nat → α → σ → LR σ ρ) (fin : σ → ρ)
    (hs : ∀ (k : Nat) (hk : k < l.length) (s : σ), f (mk k s) = some ((g k l[k] s).mapN (mk ((k : Int) + 1))))
    (hz : ∀ s, f (mk l.length s) = some (.done (fin s))) (s : σ) : whl f (mk 0 s) = some (lgo g fin 0 l s) :=
  whl_lgo l f mk g fin (fun _ _ => True) (fun k hk s _ => ⟨hs k hk s, fun _ _ => trivial⟩) (fun s _ => hz s) s trivial

/-- A loop that stops at the first that is not so. -/
theorem lgo_all {α σ ρ : Type} {g : Nat → α → σ → LR σ ρ} {fin : σ → ρ} (p : α → Bool) (r : ρ) (h : ∀ k x s, g k x s = if p x then .next s else .done r) (l : List α) (k : Nat) (s : σ) : lgo g fin k l s = if l.all p then fin s else r := by
  induction l generalizing k with
  | nil => simp [lgo]
  | cons x xs ih =>
    simp only [lgo, h]
    cases hp : p x
    · simp [hp]
    · simp only [if_true, List.all_cons, hp, Bool.true_and]; exact ih _
/-- A loop that only adds up. -/
theorem lgo_fold {α σ ρ : Type} {g : Nat → α → σ → LR σ ρ} {fin : σ → ρ} (u : σ → α → σ) (h : ∀ k x s, g k x s = .next (u s x)) (l : List α) (k : Nat) (s : σ) : lgo g fin k l s = fin (l.foldl u s) := by
  induction l generalizing k s with
  | nil => simp [lgo]
  | cons x xs ih => simp only [lgo, h, List.foldl_cons]; exact ih _ _

/-! What a piece of code comes to. -/
def Tot {α : Type} (m : Option α) (Q : α → Prop) : Prop := ∃ r, m = some r ∧ Q r
section
variable {α β : Type} {m : Option α} {Q P : α → Prop} {R : β → Prop}
theorem Tot.ret {a : α} (h : Q a) : Tot (some a) Q := ⟨a, rfl, h⟩
theorem Tot.bind {k : α → Option β} (h : Tot m fun x => Tot (k x) R) : Tot (m.bind k) R := by
  obtain ⟨a, rfl, b, hb, hr⟩ := h
  exact ⟨b, hb, hr⟩
theorem Tot.use (h : Tot m P) (hq : ∀ x, P x → Q x) : Tot m Q := by
  obtain ⟨a, rfl, hp⟩ := h
  exact ⟨a, rfl, hq a hp⟩
theorem Tot.then {k : α → Option β} (h : Tot m P) (hk : ∀ x, P x → Tot (k x) R) : Tot (m.bind k) R := Tot.bind (h.use hk)
theorem Tot.whl {σ ρ : Type} {f : σ → Option (LR σ ρ)} {Q : ρ → Prop} {x : σ} (μ : σ → Nat) (I : σ → Prop) (h : ∀ x, I x → Tot (f x) fun y => match y with | .next x' => I x' ∧ μ x' < μ x | .done r => Q r) (hi : I x) : Tot (whl f x) Q :=
  whl_inv μ I Q h x hi
end
theorem cnd_if {α : Type} (c : Bool) (a b : α) : (bif c then a else b) = if c = true then a else b := by cases c <;> rfl
theorem u64 {x : Int} (h : 0 ≤ x ∧ x < 18446744073709551616) : IntKind.u64.wrap x = x := IntWalk.u64_in x (by omega)
theorem idx_in {α : Type} {l : List α} {i : Int} (h0 : 0 ≤ i) (h1 : i < l.length) : idx l i = some (l[i.toNat]'(by omega)) := by
  obtain ⟨n, rfl⟩ := Int.eq_ofNat_of_zero_le h0
  simp only [Int.toNat_natCast]
  exact idx_lt (by omega)
end Go.VS

/-
  VS, part 51: loops of the library and of the laws' own frame, as words over lists.
-/
namespace Go.VS

theorem dec_t {p : Prop} [Decidable p] (h : p) : decide p = true := by simpa using h
theorem dec_f {p : Prop} [Decidable p] (h : ¬ p) : decide p = false := by simpa using h

/-- The place of the first such, -1 where there is none. -/
def ixF {α : Type} (p : α → Bool) : List α → Int
  | [] => -1
  | x :: xs => if p x then 0 else if ixF p xs < 0 then -1 else ixF p xs + 1
theorem ixF_ge {α : Type} (p : α → Bool) : ∀ l : List α, -1 ≤ ixF p l ∧ ixF p l < l.length
  | [] => by simp [ixF]
  | x :: xs => by
    have := ixF_ge p xs
    unfold ixF
    simp only [List.length_cons]
    split
    · omega
    · split <;> omega
theorem ixF_any {α : Type} (p : α → Bool) : ∀ l : List α, decide (0 ≤ ixF p l) = l.any p
  | [] => by simp [ixF]
  | x :: xs => by
    have h := ixF_any p xs
    have h2 := ixF_ge p xs
    unfold ixF
    simp only [List.any_cons]
    cases hp : p x
    · simp only [Bool.false_eq_true, if_false, Bool.false_or, ← h]
      by_cases hc : 0 ≤ ixF p xs
      · rw [if_neg (by omega)]; simp; omega
      · rw [if_pos (by omega)]; simp; omega
    · simp
theorem ixF_get {α : Type} (p : α → Bool) : ∀ (l : List α), 0 ≤ ixF p l → ∃ x, l[(ixF p l).toNat]? = some x ∧ p x = true ∧ ∀ k y, k < (ixF p l).toNat → l[k]? = some y → p y = false
  | [], h => by simp [ixF] at h
  | x :: xs, h => by
    have h2 := ixF_ge p xs
    unfold ixF at h ⊢
    cases hp : p x
    · simp only [hp, Bool.false_eq_true, if_false] at h ⊢
      by_cases hc : ixF p xs < 0
      · rw [if_pos hc] at h; omega
      · rw [if_neg hc] at h ⊢
        obtain ⟨y, h3, h4, h5⟩ := ixF_get p xs (by omega)
        have e : (ixF p xs + 1).toNat = (ixF p xs).toNat + 1 := by omega
        rw [e]
        refine ⟨y, by simpa using h3, h4, fun k z hk hz => ?_⟩
        cases k with
        | zero => simp at hz; subst hz; exact hp
        | succ k => exact h5 k z (by omega) (by simpa using hz)
    · simp only [if_true]
      exact ⟨x, rfl, hp, fun k z hk _ => by simp at hk⟩

/-- slices.IndexFunc. -/
theorem ixf_go {α : Type} {l : List α} {g : α → Option Bool} (p : α → Bool) {f : Int → Option (LR Int (LR Unit Int))}
    (hf : ∀ i, f i = (bif decide (i < (l.length : Int)) then (idx l i).bind fun b => (g b).bind fun c => (bif c then some (.done (.done i)) else some (.next (IntKind.i64.wrap (i + 1)))) else some (.done (.next ()))))
    (hl : l.length < 2 ^ 60) (hg : ∀ x ∈ l, g x = some (p x)) : whl f 0 = some (if ixF p l < 0 then .next () else .done (ixF p l)) := by
  have key := whl_lg l f (fun k (_ : Unit) => k) (fun k x s => if p x then .done (.done (k : Int)) else .next s) (fun _ => .next ()) (fun k hk s => by
    rw [hf, dec_t (by simpa using hk), idx_lt hk]
    simp only [cond_true, Option.bind_some]
    rw [hg _ (List.getElem_mem hk), w64 (by omega), Option.bind_some]
    cases p l[k] <;> rfl) (fun s => by rw [hf]; simp) ()
  rw [key]
  have go : ∀ (l : List α) (k : Nat), lgo (fun (k : Nat) x (s : Unit) => if p x then LR.done (LR.done (k : Int)) else .next s) (fun _ => .next ()) k l () = if ixF p l < 0 then (.next () : LR Unit Int) else .done ((k : Int) + ixF p l) := by
    intro l
    induction l with
    | nil => intro k; simp [lgo, ixF]
    | cons x xs ih =>
      intro k
      have h2 := ixF_ge p xs
      simp only [lgo]
      unfold ixF
      by_cases hp : p x = true
      · simp [hp]
      · simp only [hp, if_false, Bool.false_eq_true]
        have := ih (k + 1)
        rw [this]
        by_cases hc : ixF p xs < 0
        · simp [hc]
        · rw [if_neg hc, if_neg hc, if_neg (by omega)]
          congr 1; push_cast; omega
  rw [go]
  simp
/-- A list against itself. -/
theorem eqS_go {α : Type} {l : List α} {f : Int → Option (LR Int (LR Unit Bool))} (hs : ∀ (k : Nat) (_ : k < l.length), f k = some (.next ((k : Int) + 1))) (hz : f l.length = some (.done (.next ()))) : whl f 0 = some (.next ()) := by
  rw [whl_lg l f (fun k (_ : Unit) => k) (fun _ _ s => .next s) (fun _ => .next ()) (fun k hk s => by rw [hs k hk]; rfl) (fun s => hz) (), lgo_fold (fun s _ => s) (fun _ _ _ => rfl)]
/-- A list is copied into one of its length. -/
theorem toS_go {α β : Type} {l : List α} {h : α → β} {f : List β × Int → Option (LR (List β × Int) (List β))}
    (hs : ∀ (k : Nat) (hk : k < l.length) (x : List β), x.length = l.length → f (x, k) = some (.next (x.set k (h l[k]), (k : Int) + 1))) (hz : ∀ x, f (x, l.length) = some (.done x)) {d : List β} (hd : d.length = l.length) : whl f (d, 0) = some (l.map h) := by
  have key := whl_lgo l f (fun k (s : List β) => (s, k)) (fun k x s => .next (s.set k (h x))) (fun s => s) (fun _ s => s.length = l.length) (fun k hk s hi => by
    rw [hs k hk s hi]
    exact ⟨rfl, fun s' e => by simp at e; rw [← e, List.length_set]; exact hi⟩) (fun s _ => hz s) d hd
  rw [key]
  congr 1
  have go : ∀ (m : List α) (k : Nat) (s : List β), s.length = k + m.length → lgo (fun k x (s : List β) => LR.next (s.set k (h x))) (fun s => s) k m s = s.take k ++ m.map h := by
    intro m
    induction m with
    | nil => intro k s hs; simp [lgo]; simp at hs; rw [List.take_of_length_le (by omega)]
    | cons x xs ih =>
      intro k s hs
      simp only [lgo]
      simp only [List.length_cons] at hs
      rw [ih (k + 1) _ (by rw [List.length_set]; omega)]
      simp only [List.map_cons]
      rw [List.take_set, List.take_add_one, List.getElem?_eq_getElem (by omega), List.set_append, if_neg (by rw [List.length_take]; omega), List.append_assoc]
      simp [Nat.min_eq_left (show k ≤ s.length by omega)]
  have := go l 0 d (by omega)
  simpa using this

/-! marks -/
def markL {α : Type} (mk : Int → α → α) (c n : Int) : List α → List α
  | [] => []
  | x :: xs => mk n x :: markL mk c (n + c) xs
theorem markL_len {α : Type} (mk : Int → α → α) (c n : Int) (l : List α) : (markL mk c n l).length = l.length := by
  induction l generalizing n with
  | nil => rfl
  | cons x xs ih => simp [markL, ih]
theorem markL_get {α : Type} (mk : Int → α → α) (c n : Int) (l : List α) (k : Nat) : (markL mk c n l)[k]? = (l[k]?).map (mk (n + c * k)) := by
  induction l generalizing n k with
  | nil => simp [markL]
  | cons x xs ih =>
    cases k with
    | zero => simp [markL]
    | succ k =>
      simp only [markL, List.getElem?_cons_succ, ih]
      have : n + c + c * (k : Int) = n + c * ((k + 1 : Nat) : Int) := by push_cast; rw [Int.mul_add]; omega
      rw [this]
theorem markL_snoc {α : Type} (mk : Int → α → α) (c n : Int) (l : List α) (x : α) : markL mk c n (l ++ [x]) = markL mk c n l ++ [mk (n + c * l.length) x] := by
  induction l generalizing n with
  | nil => simp [markL]
  | cons y ys ih =>
    simp only [List.cons_append, markL, ih, List.length_cons]
    have : n + c + c * (ys.length : Int) = n + c * ((ys.length + 1 : Nat) : Int) := by push_cast; rw [Int.mul_add]; omega
    rw [this]
theorem mark_go {α : Type} {l : List α} {n0 c : Int} {mk : Int → α → α} {f : List α × Int × Int → Option (LR (List α × Int × Int) (Int × List α))}
    (hs : ∀ (k : Nat) (x : List α) (hk : k < x.length), x.length = l.length → f (x, n0 + c * k, k) = some (.next (x.set k (mk (n0 + c * k) x[k]), n0 + c * k + c, (k : Int) + 1))) (hz : ∀ x : List α, x.length = l.length → f (x, n0 + c * l.length, l.length) = some (.done (n0 + c * l.length, x))) :
    whl f (l, n0, 0) = some (n0 + c * l.length, markL mk c n0 l) := by
  refine whl_to (fun s => ((l.length : Int) - s.2.2).toNat) (fun s => ∃ k : Nat, k ≤ l.length ∧ s = (markL mk c n0 (l.take k) ++ l.drop k, n0 + c * k, (k : Int))) _ ?_ _ ⟨0, by omega, by simp [markL]⟩
  rintro _ ⟨k, hk, rfl⟩
  have hlen : (markL mk c n0 (l.take k) ++ l.drop k).length = l.length := by simp [markL_len]; omega
  by_cases hkl : k < l.length
  · refine ⟨_, hs k _ (by omega) hlen, ⟨k + 1, by omega, ?_⟩, by dsimp only; omega⟩
    have e : n0 + c * (k : Int) + c = n0 + c * ((k + 1 : Nat) : Int) := by push_cast; rw [Int.mul_add]; omega
    simp only [Prod.mk.injEq, e]
    refine ⟨?_, trivial, by push_cast; rfl⟩
    have hm : (markL mk c n0 (l.take k)).length = k := by rw [markL_len, List.length_take]; omega
    have hx : (markL mk c n0 (l.take k) ++ l.drop k)[k] = l[k] := by
      rw [List.getElem_append_right (by omega)]
      simp [hm]
    rw [hx, List.set_append, if_neg (by omega), hm, List.drop_eq_getElem_cons hkl, List.take_add_one, List.getElem?_eq_getElem hkl]
    simp only [Nat.sub_self, List.set_cons_zero, Option.toList]
    rw [markL_snoc, List.append_assoc, List.length_take, Nat.min_eq_left (by omega)]
    rfl
  · have : k = l.length := by omega
    subst this
    exact ⟨_, hz _ hlen, by simp⟩
theorem held_go {n0 c : Int} {len : Nat} {f : Int × Int → Option (LR (Int × Int) (LR Int Int))} (hs : ∀ (k : Nat), k < len → f (n0 + c * k, k) = some (.next (n0 + c * k + c, (k : Int) + 1))) (hz : f (n0 + c * len, len) = some (.done (.next (n0 + c * len)))) : whl f (n0, 0) = some (.next (n0 + c * len)) := by
  refine whl_to (fun s => ((len : Int) - s.2).toNat) (fun s => ∃ k : Nat, k ≤ len ∧ s = (n0 + c * k, (k : Int))) _ ?_ _ ⟨0, by omega, by simp⟩
  rintro _ ⟨k, hk, rfl⟩
  by_cases hkl : k < len
  · refine ⟨_, hs k hkl, ⟨k + 1, by omega, ?_⟩, by dsimp only; omega⟩
    have e : n0 + c * (k : Int) + c = n0 + c * ((k + 1 : Nat) : Int) := by push_cast; rw [Int.mul_add]; omega
    rw [e]; push_cast; rfl
  · have : k = len := by omega
    subst this
    exact ⟨_, hz, rfl⟩
theorem idx_set {α : Type} {l : List α} {k : Nat} {v : α} (h : k < l.length) : idx (l.set k v) (k : Int) = some v := by
  rw [idx_lt (by simpa using h)]
  simp
end Go.VS
