/-
  VS, part 29: a call, from the caller's side.
-/
import Derived.Test.YtkmcnmjjfgahpaaVtB
namespace Go.VS

def oneVal : List Value → Value
  | [v] => v
  | vs => .tuple vs.toArray

/-- A function with a body that the machine enters. -/
def Callable (P : Program) (f : FuncId) : Prop := ∃ fn, P.funcs[f]? = some fn ∧ (fn.name == "runtime.NumGoroutine") = false ∧ fn.body.isNone = false

/-- What a call comes to. -/
def CRes (w : World) (H : Heap) (φ : Phi) (A : Avoid) (K : AV → Heap → Prop) (e : Ending) (w' : World) : Prop :=
  match e with
  | .returned v' => ∃ x H' φ' A', Out w H φ A w' H' φ' A' ∧ R w' H' φ' A' x v' ∧ K x H'
  | _ => False

theorem CRes.mono {w : World} {H : Heap} {φ : Phi} {A : Avoid} {K K' : AV → Heap → Prop} (h : ∀ v H, K v H → K' v H) {e : Ending} {w' : World} (k : CRes w H φ A K e w') : CRes w H φ A K' e w' := by
  cases e with
  | returned v' => obtain ⟨x, H', φ', A', h1, h2, h3⟩ := k; exact ⟨x, H', φ', A', h1, h2, h _ _ h3⟩
  | panicked c => exact k
  | outgrown => exact k

/-- A call really ends so. -/
def Sim (P : Program) : CallRel := fun f ys H K => Callable P f ∧
  ∀ (w : World) (A : Avoid) (φ : Phi) (us : Array Value), St w H φ A → ys.length = us.size →
    (∀ (i : Nat) (x : AV) (u : Value), ys[i]? = some x → us[i]? = some u → R w H φ A x u) → Calls P f us w (CRes w H φ A K)

theorem Sim.mono {P : Program} {f : FuncId} {ys : List AV} {H : Heap} {K K' : AV → Heap → Prop} (h : ∀ v H, K v H → K' v H) (k : Sim P f ys H K) : Sim P f ys H K' :=
  ⟨k.1, fun w A φ us h1 h2 h3 => (k.2 w A φ us h1 h2 h3).mono fun _ _ he => he.mono h⟩

/-- What a call gives is one thing. -/
def Exact (X : CallRel) : Prop := ∀ f ys H K, X f ys H K → ∃ v H', X f ys H (fun v1 H1 => v1 = v ∧ H1 = H') ∧ K v H'

theorem St.shrink {w : World} {H : Heap} {φ : Phi} {A A' : Avoid} (h : St w H φ A) (h1 : ∀ c, A' c → A c) (h2 : ∀ c, Ow φ c → A' c) : St w H φ A' := by
  refine ⟨h.inj, h2, fun c hc => h.bnd c (h1 c hc), fun id loc hl => ?_⟩
  obtain ⟨b, hb, hok⟩ := h.blk id loc hl
  refine ⟨b, hb, hok.ver, hok.sized, hok.virt, fun c b0 he => ?_⟩
  obtain ⟨arr, T, fr, k1, k2, k3, k4⟩ := hok.here c b0 he
  exact ⟨arr, T, fr, k1, k2, k3, fun i x j y v hx hy hv => ⟨(k4 i x j y v hx hy hv).1.shrinkA h1, (k4 i x j y v hx hy hv).2⟩⟩

section
variable {w : World} {H : Heap} {φ : Phi} {A : Avoid}

theorem R_one {xs : List AV} {us : List Value} (hl : xs.length = us.length) (h : ∀ (i : Nat) (x : AV) (u : Value), xs[i]? = some x → us[i]? = some u → R w H φ A x u) : R w H φ A (oneOrTup xs) (oneVal us) := by
  have key : ∀ {xs : List AV} {us : List Value}, xs.length = us.length → (∀ (i : Nat) (x : AV) (u : Value), xs[i]? = some x → us[i]? = some u → R w H φ A x u) → R w H φ A (.tup xs) (.tuple us.toArray) :=
    fun hl h => .tup _ _ (by simpa using hl) fun i x v hx hv => h i x v hx (by simpa using hv)
  match xs, us, hl with
  | [], [], hl => exact key hl h
  | [x], [u], _ => exact h 0 x u rfl rfl
  | x :: x' :: xs, u :: u' :: us, hl => exact key hl h

theorem FR_one {xs : List AV} {us : List Value} (hl : xs.length = us.length) (h : ∀ (i : Nat) (x : AV) (u : Value), xs[i]? = some x → us[i]? = some u → FR w A x u) : FR w A (oneOrTup xs) (oneVal us) := by
  have key : ∀ {xs : List AV} {us : List Value}, xs.length = us.length → (∀ (i : Nat) (x : AV) (u : Value), xs[i]? = some x → us[i]? = some u → FR w A x u) → FR w A (.tup xs) (.tuple us.toArray) :=
    fun hl h => .tup _ _ (by simpa using hl) fun i x v hx hv => h i x v hx (by simpa using hv)
  match xs, us, hl with
  | [], [], hl => exact key hl h
  | [x], [u], _ => exact h 0 x u rfl rfl
  | x :: x' :: xs, u :: u' :: us, hl => exact key hl h
end

theorem thaw_one (zs : List AV) (H : Heap) : thawV (oneOrTup zs) H = (oneOrTup (thawL zs H).1, (thawL zs H).2) := by
  match zs with
  | [] => rfl
  | [z] => rfl
  | z :: z' :: zs => rfl

theorem frz_one (zs : List AV) : frzV (oneOrTup zs) = oneOrTup (frzL zs) := by
  match zs with
  | [] => rfl
  | [z] => rfl
  | z :: z' :: zs => rfl

theorem noFz_one (zs : List AV) : noFz (oneOrTup zs) = noFzL zs := by
  match zs with
  | [] => rfl
  | [z] => simp [oneOrTup, noFzL]
  | z :: z' :: zs => rfl

theorem one_R {xs : List AV} {v : Value} {w : World} {H : Heap} {φ : Phi} {A : Avoid} (h : R w H φ A (oneOrTup xs) v) : ∃ us : List Value, v = oneVal us ∧ xs.length = us.length ∧ ∀ (i : Nat) (x : AV) (u : Value), xs[i]? = some x → us[i]? = some u → R w H φ A x u := by
  have key : ∀ {xs : List AV}, xs.length ≠ 1 → R w H φ A (.tup xs) v → ∃ us : List Value, v = oneVal us ∧ xs.length = us.length ∧ ∀ (i : Nat) (x : AV) (u : Value), xs[i]? = some x → us[i]? = some u → R w H φ A x u := by
    intro xs hl h
    obtain ⟨vs, rfl, h1, h2⟩ := h.tup_inv
    refine ⟨vs.toList, ?_, by simpa using h1, fun i x u hx hu => h2 i x u hx (by simpa using hu)⟩
    have hl' : vs.toList.length ≠ 1 := by simp only [Array.length_toList]; omega
    generalize hv : vs.toList = l at hl'
    have : Value.tuple vs = .tuple l.toArray := by rw [← hv]
    rw [this]
    match l with
    | [] => rfl
    | [u] => exact absurd rfl hl'
    | u :: u' :: l => rfl
  match xs with
  | [] => exact key (by simp) h
  | [x] => exact ⟨[v], rfl, rfl, fun i x' u hx hu => by
      cases i with
      | zero => simp at hx hu; subst hx; subst hu; exact h
      | succ i => simp at hx⟩
  | x :: x' :: xs => exact key (by simp) h
def allVal (ms : List Mode) : Prop := ∀ m ∈ ms, m = .val

theorem prepMove_val : ∀ (ms : List Mode) (sh : List (List Sh)) (as : List AV) (H : Heap), allVal ms → prepMove ms sh as H = some (as, H)
  | [], sh, as, H, _ => rfl
  | m :: ms, sh, [], H, _ => rfl
  | m :: ms, sh, a :: as, H, h => by
    have hm := h m (by simp)
    subst hm
    simp only [prepMove, prepM, prepMove_val ms sh.tail as H (fun m hm => h m (by simp [hm]))]

theorem putJunk_val (H0 : Heap) : ∀ (ms : List Mode) (as : List AV) (H : Heap), allVal ms → putJunk H0 ms as H = H
  | [], as, H, _ => by simp [putJunk]
  | m :: ms, [], H, _ => by cases m <;> simp [putJunk]
  | m :: ms, a :: as, H, h => by
    have hm := h m (by simp)
    subst hm
    simp only [putJunk]
    exact putJunk_val H0 ms as H (fun m hm => h m (by simp [hm]))

theorem putEls_val : ∀ (ms : List Mode) (as outs : List AV) (H : Heap), allVal ms → putEls ms as outs H = some H
  | [], as, outs, H, _ => by simp [putEls]
  | m :: ms, [], outs, H, h => by
    have hm := h m (by simp)
    subst hm
    simp [putEls]
  | m :: ms, a :: as, outs, H, h => by
    have hm := h m (by simp)
    subst hm
    simp only [putEls]
    exact putEls_val ms as outs H (fun m hm => h m (by simp [hm]))

theorem restr_self {w : World} {H : Heap} {φ : Phi} {A : Avoid} (hst : St w H φ A) : restr φ H = φ := by
  funext id
  unfold restr
  cases hp : φ id with
  | none => simp
  | some loc => obtain ⟨b, hb, _⟩ := hst.blk id loc hp; simp [hb]

theorem thawArgs_snap {H : Heap} : ∀ (as ys : List AV) (b : Bool), prepVal [] as H = some (ys, b) → ∀ L, thawArgs [] ys L = (ys, L)
  | [], ys, b, h, L => by simp only [prepVal, Option.some.injEq, Prod.mk.injEq] at h; obtain ⟨rfl, _⟩ := h; rfl
  | a :: as, ys, b, h, L => by
    simp only [prepVal] at h
    split at h
    · rename_i y hy
      split at h
      · rename_i ys' b' hys
        simp only [Option.some.injEq, Prod.mk.injEq] at h
        obtain ⟨rfl, _⟩ := h
        simp only [thawArgs, snap_thaw H 8 a y hy, List.tail_nil, thawArgs_snap as ys' b' hys]
      · simp at h
    · simp at h

theorem callSimQ {P : Program} {C : Ctx} {X : CallRel} (hX : ∀ f ys H K, X f ys H K → Sim P f ys H K) {w : World} {H : Heap} {φ : Phi} {A : Avoid} (hst : St w H φ A) {f : FuncId} {as : List AV} {us : Array Value} (hl : as.length = us.size)
    (hr : ∀ (i : Nat) (x : AV) (u : Value), as[i]? = some x → us[i]? = some u → R w H φ A x u) {th : Bool} {K : AV → Heap → Prop} (h : wpCallQ X C f as th H K) : Callable P f ∧ Calls P f us w (CRes w H φ A K) := by
  unfold wpCallQ at h
  split at h
  · exact h.elim
  rename_i ys lent hy
  obtain ⟨y, hXf, hfz, hp⟩ := h
  have hm : allVal [] := fun m hm => by simp at hm
  have hd0 : Duo w H φ A ⟨0, []⟩ (fun _ => none) A := by
    refine ⟨hst, ⟨fun i i' c b b' h => by simp at h, fun c hc => ?_, hst.bnd, fun id loc h => by simp at h⟩, fun c _ hc => ?_, hst.own⟩
    · obtain ⟨i, b, h⟩ := hc; simp at h
    · obtain ⟨i, b, h⟩ := hc; simp at h
  have hva : thawArgs [] ys ⟨0, []⟩ = (ys, ⟨0, []⟩) := thawArgs_snap _ _ _ hy _
  obtain ⟨φ0, m, hin, hro⟩ := handIn as [] [] us.toList H φ as H ys lent ⟨0, []⟩ (fun _ => none) ys ⟨0, []⟩ hd0 (by simpa using hl) (fun i x u hx hu => hr i x u hx (by simpa using hu)) (prepMove_val _ _ _ _ hm) hy hva
  have hsub : ∀ c, ¬ Ow φ0 c := fun c hc => by
    rcases m.oh c hc with ⟨i, b, h⟩ | ⟨h1, h2⟩
    · simp at h
    · rw [restr_self hst] at h2; exact h2 h1
  let A0 : Avoid := if lent = true then Ow φ0 else A
  have hA0 : ∀ c, A0 c → A c := by
    intro c hc
    simp only [A0] at hc
    split at hc
    · exact absurd hc (hsub c)
    · exact hc
  have hB0 : lent = true → ∀ c, A0 c → lentA (restr φ H) A c := by
    intro hlt c hc
    simp only [A0, hlt, if_true] at hc
    exact absurd hc (hsub c)
  have hst0 : St w ⟨0, []⟩ φ0 A0 := m.duo.sh.shrink hA0 (fun c hc => absurd hc (hsub c))
  have hvl : ys.length = us.size := by simpa using hin.1
  refine ⟨(hX _ _ _ _ hXf).1, ((hX _ _ _ _ hXf).2 w A0 φ0 us hst0 hvl (fun i x u hx hu => hin.2 A0 hA0 hB0 i x u hx (by simpa using hu))).mono fun e w' he => ?_⟩
  cases e with
  | panicked c => exact he.elim
  | outgrown => exact he.elim
  | returned v' =>
  obtain ⟨x0, L, φ', A', ho, hRx, rs, zs', L2, rfl, htv, rfl⟩ := he
  obtain ⟨rus, rfl, hrl, hrr⟩ := one_R hRx
  let AH : Avoid := if lent = true then fun c => A c ∨ (A' c ∧ w.heap.size ≤ c) else A'
  have hown' : ∀ c, Ow φ' c → w.heap.size ≤ c := fun c hc => (ho.post.own c hc).resolve_left (hsub c)
  have ha : AHok w A φ0 w' φ' AH := by
    refine ⟨fun c hc hn => ?_, fun c hc => ?_, fun c hc => ?_, fun c arr T fr hc hn => ?_⟩
    · simp only [AH]
      split
      · exact .inl hc
      · rename_i hlt
        refine ho.keep c ?_ hn
        simp only [A0, hlt]; exact hc
    · simp only [AH]
      split
      · exact .inr ⟨ho.st.own c hc, hown' c hc⟩
      · exact ho.st.own c hc
    · simp only [AH] at hc
      split at hc
      · rcases hc with h | ⟨h, _⟩
        · exact Nat.lt_of_lt_of_le (hst.bnd c h) ho.post.size
        · exact ho.st.bnd c h
      · exact ho.st.bnd c hc
    · obtain ⟨h1, h2⟩ := ho.evo.fz c arr T fr hc (fun h => hn (hA0 c h))
      refine ⟨h1, ?_⟩
      simp only [AH]
      split
      · rintro (h | ⟨_, h⟩)
        · exact hn h
        · have : c < w.heap.size := by rcases Nat.lt_or_ge c w.heap.size with h' | h'; · exact h'
                                       · rw [Array.getElem?_eq_none h'] at hc; simp at hc
          omega
      · exact h2
  obtain ⟨D, E⟩ := junk_ok (ls := []) (Lm := L) hst m (by rw [hl, hvl]) hro ho ha (by simp [takeRoots])
  rw [putJunk_val _ _ _ _ hm, restr_self hst] at D E
  have hkf : KfzL A' AH zs' := by
    cases hlt : lent with
    | false => exact .inl fun c h => by simpa [AH, hlt] using h
    | true =>
      rcases hfz with h | h
      · rw [hlt] at h; simp at h
      · rw [noFz_one] at h
        exact .inr h
  have hrs : ∀ (i : Nat) (x : AV) (u : Value), rs[i]? = some x → rus[i]? = some u → R w' L (restr φ' L) A' x u := fun i x u hx hu => by
    rw [restr_self ho.st]
    exact hrr i x u hx hu
  have hpost : ∀ {φ3 : Phi}, (∀ c, Ow φ3 c → Ow φ c ∨ Ow φ' c) → Post w φ w' φ3 := fun hq =>
    ⟨ho.post.os, ho.post.tape, ho.post.output, ho.post.size, fun c hc _ => ho.post.kept c hc (hsub c), ho.post.bsz, fun c hc => by
      rcases hq c hc with h | h
      · exact .inl h
      · exact .inr (hown' c h)⟩
  have hkeep : ∀ c, A c → ¬ Ow φ c → AH c := fun c hc _ => ha.own c hc (hsub c)
  have hbs : ∀ c, Ow φ c → bsz w' c = bsz w c := fun c hc => ho.post.bsz c (Ow.lt hst hc)
  cases htl : (th || lent) with
  | true =>
    rw [htl] at hp
    simp only [if_true, thaw_one] at hp
    obtain ⟨φ3, m3, l3, r3⟩ := moveVals _ rs rus L _ H φ zs' L2 D hrl hrs htv hkf
    refine ⟨_, _, φ3, AH, ⟨m3.duo.sh, hpost fun c hc => ?_, E.trans m3.eh hbs, hkeep⟩, R_one l3 r3, hp⟩
    rcases m3.oh c hc with h | ⟨h, _⟩
    · exact .inl h
    · exact .inr (restr_ow h)
  | false =>
    rw [htl] at hp
    simp only [Bool.false_eq_true, if_false, frz_one] at hp
    simp only [Bool.or_eq_false_iff] at htl
    have hAH : AH = A' := by simp [AH, htl.2]
    rw [hAH] at D E hkeep
    let A2 : Avoid := gone (restr φ' L) A' L2
    obtain ⟨l3, r3⟩ := frzVals (A' := A2) _ rs rus L (restr φ' L) zs' L2 D.sl hrl hrs htv (fun c h => h)
    have hA2 : ∀ c, Ow φ c → A2 c := fun c hc => ⟨D.sh.own c hc, fun h => absurd hc (D.dis c h)⟩
    have hE2 : Evo w H φ A w' H φ A2 := ⟨fun c arr T fr hc hn => ⟨(E.fz c arr T fr hc hn).1, fun h2 => (E.fz c arr T fr hc hn).2 h2.1⟩, E.st, E.ids, E.sz⟩
    refine ⟨_, _, φ, A2, ⟨D.sh.shrink (fun c h => h.1) hA2, hpost fun c hc => .inl hc, hE2, fun c hc hn => ⟨hkeep c hc hn, fun h => ?_⟩⟩, .fr _ _ (FR_one l3 r3), hp⟩
    have := hown' c (restr_ow h)
    have := hst.bnd c hc
    omega
end Go.VS
