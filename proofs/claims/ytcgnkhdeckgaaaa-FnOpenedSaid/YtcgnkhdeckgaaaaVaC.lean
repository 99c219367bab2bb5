import Derived.Test.YtcgnkhdeckgaaaaVaB
import Derived.Tactics
import Derived.Laws.Sem
/-
  VS, part 26: all of a call's arguments.
-/
namespace Go.VS

section duo
variable {w : World} {A : Avoid}

theorem prepM_less {m : Mode} {sh : List Sh} {v : AV} {H : Heap} {y : AV} {H1 : Heap} (h : prepM m sh v H = some (y, H1)) : Less H H1 := by
  cases m with
  | val => simp only [prepM, Option.some.injEq, Prod.mk.injEq] at h; obtain ⟨_, rfl⟩ := h; exact .refl _
  | mov => exact takeE_less sh v H y H1 h
  | io =>
    cases v <;> simp only [prepM] at h
    case nil => simp only [Option.some.injEq, Prod.mk.injEq] at h; obtain ⟨_, rfl⟩ := h; exact .refl _
    case e0 => simp only [Option.some.injEq, Prod.mk.injEq] at h; obtain ⟨_, rfl⟩ := h; exact .refl _
    case ref =>
      split at h
      · split at h
        · simp only [Option.some.injEq, Prod.mk.injEq] at h; obtain ⟨_, rfl⟩ := h; exact .refl _
        · split at h
          · exact takeE_less _ _ H y H1 h
          · simp at h
      · simp at h
    case ptr => exact takeE_less _ _ H y H1 h
    all_goals simp at h

theorem prepMove_less : ∀ (ms : List Mode) (sh : List (List Sh)) (as : List AV) (H : Heap) (zs : List AV) (H1 : Heap), prepMove ms sh as H = some (zs, H1) → Less H H1
  | [], sh, as, H, zs, H1, h => by
    simp only [prepMove, Option.some.injEq, Prod.mk.injEq] at h; obtain ⟨_, rfl⟩ := h; exact .refl _
  | m :: ms, sh, [], H, zs, H1, h => by
    simp only [prepMove, Option.some.injEq, Prod.mk.injEq] at h; obtain ⟨_, rfl⟩ := h; exact .refl _
  | m :: ms, sh, a :: as, H, zs, H1, h => by
    simp only [prepMove] at h
    split at h
    · rename_i y H' h1
      split at h
      · rename_i ys H'' h2
        simp only [Option.some.injEq, Prod.mk.injEq] at h
        obtain ⟨_, rfl⟩ := h
        exact (prepM_less h1).trans (prepMove_less ms _ as H' ys _ h2)
      · simp at h
    · simp at h

/-- Values in the callee's eyes, for whatever it shall keep off. -/
def Hin (w : World) (A : Avoid) (B : Avoid) (L0 : Heap) (φ0 : Phi) (lent : Bool) (vs : List AV) (us : List Value) : Prop :=
  vs.length = us.length ∧ ∀ A0 : Avoid, (∀ c, A0 c → A c) → (lent = true → ∀ c, A0 c → B c) → ∀ (i : Nat) (x : AV) (u : Value), vs[i]? = some x → us[i]? = some u → R w L0 φ0 A0 x u

theorem Hin.cons {B : Avoid} {L L0 : Heap} {φL φ0 : Phi} {l1 l2 : Bool} {x : AV} {u : Value} {vs : List AV} {us : List Value} (hx : ∀ A0 : Avoid, (∀ c, A0 c → A c) → (l1 = true → ∀ c, A0 c → B c) → R w L φL A0 x u)
    (he : ∀ A0, Evo w L φL A0 w L0 φ0 A0) (h : Hin w A B L0 φ0 l2 vs us) : Hin w A B L0 φ0 (l1 || l2) (x :: vs) (u :: us) := by
  refine ⟨by simp [h.1], fun A0 h1 h2 i x' u' hx' hu' => ?_⟩
  cases i with
  | zero => simp at hx' hu'; subst hx'; subst hu'; exact (hx A0 h1 (fun hl => h2 (by simp [hl]))).mono (he A0)
  | succ i => exact h.2 A0 h1 (fun hl => h2 (by simp [hl])) i x' u' hx' hu'

theorem Evo.any {L L0 : Heap} {φL φ0 : Phi} {A1 : Avoid} (h : Evo w L φL A1 w L0 φ0 A1) (A0 : Avoid) : Evo w L φL A0 w L0 φ0 A0 :=
  ⟨fun _c _a _t fr hc hn => ⟨⟨fr, hc⟩, hn⟩, h.st, h.ids, h.sz⟩

theorem snapIn {H : Heap} {φ : Phi} {H1 : Heap} {L : Heap} {φL : Phi} (hst : St w H φ A) (hl : Less H H1) {a : AV} {u : Value} (ha : R w H φ A a u) {y : AV} (hs : snapV 8 H1 a = some y) :
    ∀ A0 : Avoid, (∀ c, A0 c → A c) → (lends a = true → ∀ c, A0 c → lentA (restr φ H1) A c) → R w L φL A0 y u := by
  intro A0 h1 h2
  obtain ⟨s1, s2, _⟩ := (snap_ok (lessSt hst hl) 8).1 a u y (ha.mono (lessEvo hl)) hs
  cases hle : lends a with
  | false => exact .fr _ _ ((s2 hle).shrink h1)
  | true => exact .fr _ _ (s1.shrink (h2 hle))

theorem handIn : ∀ (as : List AV) (ms : List Mode) (psh : List (List Sh)) (us : List Value) (H : Heap) (φ : Phi) (zs : List AV) (H1 : Heap) (ys : List AV) (lent : Bool) (L : Heap) (φL : Phi) (vs : List AV) (L0 : Heap),
    Duo w H φ A L φL A → as.length = us.length → (∀ (i : Nat) (x : AV) (u : Value), as[i]? = some x → us[i]? = some u → R w H φ A x u) → prepMove ms psh as H = some (zs, H1) → prepVal ms zs H1 = some (ys, lent) → thawArgs ms ys L = (vs, L0) →
    ∃ φ0, Moved w H φ A L φL A H1 L0 φ0 ∧ Hin w A (lentA (restr φ H1) A) L0 φ0 lent vs us ∧ Roots H φ L0 φ0 ms as vs
  | [], ms, psh, us, H, φ, zs, H1, ys, lent, L, φL, vs, L0, hd, hl, hr, h1, h2, h3 => by
    have hzs : zs = [] ∧ H1 = H := by
      cases ms <;> simp only [prepMove, Option.some.injEq, Prod.mk.injEq] at h1 <;> exact ⟨h1.1.symm, h1.2.symm⟩
    obtain ⟨rfl, rfl⟩ := hzs
    have hys : ys = [] ∧ lent = false := by
      cases ms <;> simp only [prepVal, Option.some.injEq, Prod.mk.injEq] at h2 <;> exact ⟨h2.1.symm, h2.2.symm⟩
    obtain ⟨rfl, rfl⟩ := hys
    have hvs : vs = [] ∧ L0 = L := by
      cases ms <;> simp only [thawArgs, Prod.mk.injEq] at h3 <;> exact ⟨h3.1.symm, h3.2.symm⟩
    obtain ⟨rfl, rfl⟩ := hvs
    refine ⟨φL, .refl hd, ⟨by simpa using hl, by simp⟩, ?_⟩
    cases ms with
    | nil => simp [Roots]
    | cons m ms => cases m <;> simp [Roots]
  | a :: as, [], psh, us, H, φ, zs, H1, ys, lent, L, φL, vs, L0, hd, hl, hr, h1, h2, h3 => by
    match us, hl with
    | u :: us, hl =>
    simp only [prepMove, Option.some.injEq, Prod.mk.injEq] at h1
    obtain ⟨rfl, rfl⟩ := h1
    simp only [prepVal] at h2
    split at h2
    · rename_i y hy
      split at h2
      · rename_i ys' b hys
        simp only [Option.some.injEq, Prod.mk.injEq] at h2
        obtain ⟨rfl, rfl⟩ := h2
        simp only [thawArgs, snap_thaw _ _ _ _ hy, List.tail_nil, Prod.mk.injEq] at h3
        obtain ⟨rfl, rfl⟩ := h3
        obtain ⟨φ0, m, hin, _⟩ := handIn as [] psh us H φ as H ys' b L φL _ _ hd (by simpa using hl) (fun i x u hx hu => hr (i + 1) x u hx hu) rfl hys rfl
        exact ⟨φ0, m, Hin.cons (snapIn (L := L) (φL := φL) hd.sl (.refl _) (hr 0 a u rfl rfl) hy) (fun A0 => m.eh.any A0) hin, by simp [Roots]⟩
      · simp at h2
    · simp at h2
  | a :: as, md :: ms, psh, us, H, φ, zs, H1, ys, lent, L, φL, vs, L0, hd, hl, hr, h1, h2, h3 => by
    match us, hl with
    | u :: us, hl =>
    simp only [prepMove] at h1
    split at h1
    rotate_left
    · simp at h1
    rename_i z H' hz
    split at h1
    rotate_left
    · simp at h1
    rename_i zs' H'' hzs
    simp only [Option.some.injEq, Prod.mk.injEq] at h1
    obtain ⟨rfl, rfl⟩ := h1
    have hl1 := prepM_less hz
    have hl2 := prepMove_less _ _ _ _ _ _ hzs
    have ha := hr 0 a u rfl rfl
    -- the rest
    have rest : ∀ {ys' : List AV} {b : Bool} {L' : Heap} {φ' : Phi} (m1 : Moved w H φ A L φL A H' L' φ') (hys : prepVal ms zs' H'' = some (ys', b)),
        ∃ φ0, Moved w H' (restr φ H') A L' φ' A H'' (thawArgs ms ys' L').2 φ0 ∧ Hin w A (lentA (restr φ H'') A) (thawArgs ms ys' L').2 φ0 b (thawArgs ms ys' L').1 us ∧ Roots H' (restr φ H') (thawArgs ms ys' L').2 φ0 ms as (thawArgs ms ys' L').1 := by
      intro ys' b L' φ' m1 hys
      obtain ⟨φ0, m, hin, hro⟩ := handIn as ms psh.tail us H' (restr φ H') zs' H'' ys' b L' φ' _ _ m1.duo (by simpa using hl) (fun i x u hx hu => (hr (i + 1) x u hx hu).mono (lessEvo hl1)) hzs hys rfl
      refine ⟨φ0, m, ?_, hro⟩
      rw [restr_restr hl2] at hin
      exact hin
    cases md with
    | val =>
      simp only [prepM, Option.some.injEq, Prod.mk.injEq] at hz
      obtain ⟨rfl, rfl⟩ := hz
      simp only [prepVal] at h2
      split at h2
      rotate_left
      · simp at h2
      rename_i y hy
      split at h2
      rotate_left
      · simp at h2
      rename_i ys' b hys
      simp only [Option.some.injEq, Prod.mk.injEq] at h2
      obtain ⟨rfl, rfl⟩ := h2
      have hth : thawArgs (.val :: ms) (y :: ys') L = (y :: (thawArgs ms ys' L).1, (thawArgs ms ys' L).2) := by
        simp only [thawArgs, snap_thaw _ _ _ _ hy, List.tail_cons]
      rw [hth] at h3
      simp only [Prod.mk.injEq] at h3
      obtain ⟨rfl, rfl⟩ := h3
      obtain ⟨φ0, m, hin, hro⟩ := rest (Moved.refl hd) hys
      refine ⟨φ0, (Moved.refl hd).trans m, Hin.cons (L := L) (φL := φL) (fun A0 q1 q2 => ?_) (fun A0 => m.eh.any A0) hin, ?_⟩
      · exact snapIn (L := L) (φL := φL) hd.sl hl2 ha hy A0 q1 q2
      · simp only [Roots]
        exact Roots.mono (.refl _) (fun _ _ h => h) (fun _ _ h => h) hro
    | mov =>
      have hz' : takeE (psh.headD []) a H = some (z, H') := hz
      simp only [prepVal] at h2
      split at h2
      rotate_left
      · simp at h2
      rename_i ys' b hys
      simp only [Option.some.injEq, Prod.mk.injEq] at h2
      obtain ⟨rfl, rfl⟩ := h2
      have hth : thawArgs (.mov :: ms) (z :: ys') L = ((thawV z L).1 :: (thawArgs ms ys' (thawV z L).2).1, (thawArgs ms ys' (thawV z L).2).2) := by
        simp only [thawArgs, List.tail_cons]
      rw [hth] at h3
      simp only [Prod.mk.injEq] at h3
      obtain ⟨rfl, rfl⟩ := h3
      obtain ⟨φ1, m1, r1⟩ := moveV hd ha hz' rfl (.inl fun _ h => h)
      obtain ⟨φ0, m, hin, hro⟩ := rest m1 hys
      have := Hin.cons (l1 := false) (L := (thawV z L).2) (φL := φ1) (x := (thawV z L).1) (u := u) (fun A0 q1 _ => r1.shrinkA q1) (fun A0 => m.eh.any A0) hin
      refine ⟨φ0, m1.trans m, by simpa using this, ?_⟩
      simp only [Roots]
      exact Roots.mono hl1 (fun _ _ h => h) (fun _ _ h => h) hro
    | io =>
      simp only [prepVal] at h2
      split at h2
      rotate_left
      · simp at h2
      rename_i ys' b hys
      simp only [Option.some.injEq, Prod.mk.injEq] at h2
      obtain ⟨rfl, rfl⟩ := h2
      rcases ioStep hd ha hz with ⟨sz, xs, φ1, rfl, m1, r1, ro⟩ | ⟨sz, x, φ1, rfl, m1, r1, ro⟩
      · have hth : thawArgs (.io :: ms) (.own sz xs :: ys') L = (.ref (thawL xs L).2.bs.length (thawL xs L).2.st 0 (thawL xs L).1.length :: (thawArgs ms ys' ((thawL xs L).2.new sz true (thawL xs L).1)).1, (thawArgs ms ys' ((thawL xs L).2.new sz true (thawL xs L).1)).2) := by
          simp only [thawArgs]
        rw [hth] at h3
        simp only [Prod.mk.injEq] at h3
        obtain ⟨rfl, rfl⟩ := h3
        obtain ⟨φ0, m, hin, hro⟩ := rest m1 hys
        have := Hin.cons (l1 := false) (φL := φ1) (u := u) (fun A0 q1 _ => r1.shrinkA q1) (fun A0 => m.eh.any A0) hin
        refine ⟨φ0, m1.trans m, by simpa using this, ?_⟩
        simp only [Roots]
        refine ⟨?_, Roots.mono hl1 (fun _ _ h => h) (fun _ _ h => h) hro⟩
        obtain ⟨k, kv, bk, e1, e2, ⟨loc, e2'⟩, e3, e4⟩ := ro
        exact ⟨k, kv, bk, e1, blk_hget m.hget e2, ⟨loc, m.hphi _ _ e2'⟩, e3, fun id ver hr => by obtain ⟨b, c, b0, q1, q2, q3, q4, q5⟩ := e4 id ver hr; exact ⟨b, c, b0, q1, q2, q3, q4, m.hphi _ _ q5⟩⟩
      · have hth : thawArgs (.io :: ms) (.optr sz x :: ys') L = ((thawV (.optr sz x) L).1 :: (thawArgs ms ys' (thawV (.optr sz x) L).2).1, (thawArgs ms ys' (thawV (.optr sz x) L).2).2) := by
          simp only [thawArgs, List.tail_cons]
        rw [hth] at h3
        simp only [Prod.mk.injEq] at h3
        obtain ⟨rfl, rfl⟩ := h3
        obtain ⟨φ0, m, hin, hro⟩ := rest m1 hys
        have := Hin.cons (l1 := false) (φL := φ1) (u := u) (fun A0 q1 _ => r1.shrinkA q1) (fun A0 => m.eh.any A0) hin
        refine ⟨φ0, m1.trans m, by simpa using this, ?_⟩
        simp only [Roots]
        refine ⟨?_, Roots.mono hl1 (fun _ _ h => h) (fun _ _ h => h) hro⟩
        obtain ⟨k, kv, bk, e1, e2, ⟨loc, e2'⟩, e3, e4⟩ := ro
        exact ⟨k, kv, bk, e1, blk_hget m.hget e2, ⟨loc, m.hphi _ _ e2'⟩, e3, fun id ver hr => by obtain ⟨b, c, b0, q1, q2, q3, q4, q5⟩ := e4 id ver hr; exact ⟨b, c, b0, q1, q2, q3, q4, m.hphi _ _ q5⟩⟩
end duo
end Go.VS

/-
  VS, part 27: a call comes back, what was lent in its place again.
-/
namespace Go.VS

/-- What left the callee's heap. -/
def RootEls (L Lm : Heap) : List Mode → List AV → List (List AV) → Prop
  | .io :: ms, x :: xs, l :: ls => (∃ k kv b, rootK x = some (k, kv) ∧ L.blk k kv = some b ∧ b.el = l ∧ Lm.get k = none) ∧ RootEls L Lm ms xs ls
  | .io :: _, _ :: _, [] => False
  | .val :: ms, _ :: xs, ls => RootEls L Lm ms xs ls
  | .mov :: ms, _ :: xs, ls => RootEls L Lm ms xs ls
  | _, _, _ => True

theorem RootEls.mono {L0 L Lm : Heap} (h : Less L0 L) : ∀ {ms : List Mode} {xs : List AV} {ls : List (List AV)}, RootEls L Lm ms xs ls → RootEls L0 Lm ms xs ls
  | [], xs, ls, _ => by simp [RootEls]
  | m :: ms, [], ls, _ => by cases m <;> simp [RootEls]
  | .val :: ms, x :: xs, ls, hr => by simp only [RootEls] at hr ⊢; exact hr.mono h
  | .mov :: ms, x :: xs, ls, hr => by simp only [RootEls] at hr ⊢; exact hr.mono h
  | .io :: ms, x :: xs, [], hr => by simp only [RootEls] at hr
  | .io :: ms, x :: xs, l :: ls, hr => by
    simp only [RootEls] at hr ⊢
    obtain ⟨⟨k, kv, b, h1, h2, h3, h4⟩, h5⟩ := hr
    exact ⟨⟨k, kv, b, h1, Heap.blk_less h h2, h3, h4⟩, h5.mono h⟩

theorem takeRoots_spec : ∀ (ms : List Mode) (vs : List AV) (L : Heap) (ls : List (List AV)) (Lm : Heap), takeRoots ms vs L = some (ls, Lm) → Less L Lm ∧ RootEls L Lm ms vs ls
  | [], vs, L, ls, Lm, h => by
    simp only [takeRoots, Option.some.injEq, Prod.mk.injEq] at h; obtain ⟨rfl, rfl⟩ := h; exact ⟨.refl _, by simp [RootEls]⟩
  | m :: ms, [], L, ls, Lm, h => by
    cases m <;> (simp only [takeRoots, Option.some.injEq, Prod.mk.injEq] at h; obtain ⟨rfl, rfl⟩ := h; exact ⟨.refl _, by simp [RootEls]⟩)
  | .val :: ms, x :: xs, L, ls, Lm, h => by simp only [takeRoots] at h; simpa only [RootEls] using takeRoots_spec ms xs L ls Lm h
  | .mov :: ms, x :: xs, L, ls, Lm, h => by simp only [takeRoots] at h; simpa only [RootEls] using takeRoots_spec ms xs L ls Lm h
  | .io :: ms, x :: xs, L, ls, Lm, h => by
    simp only [takeRoots] at h
    split at h
    · rename_i id ver hk
      split at h
      · rename_i b hb
        split at h
        · rename_i r H' hr
          simp only [Option.some.injEq, Prod.mk.injEq] at h
          obtain ⟨rfl, rfl⟩ := h
          obtain ⟨h1, h2⟩ := takeRoots_spec ms xs _ _ _ hr
          refine ⟨(Less.del L id).trans h1, ?_⟩
          simp only [RootEls]
          refine ⟨⟨id, ver, b, hk, hb, rfl, ?_⟩, h2.mono (Less.del L id)⟩
          cases hq : H'.get id with
          | none => rfl
          | some b => have := h1.get _ _ hq; rw [Heap.get_del, if_pos rfl] at this; simp at this
        · simp at h
      · simp at h
    · simp at h

def junk (b : Blk) : Blk := { b with el := b.el.map fun _ => .agg (List.replicate b.sz .undef) }

theorem upd_get {H : Heap} {id k : Nat} {b b' : Blk} (h : (H.upd id b).get k = some b') : (k = id ∧ b' = b) ∨ H.get k = some b' := by
  unfold Heap.upd Heap.get at h
  simp only [List.getElem?_set] at h
  by_cases hk : id = k
  · subst hk
    simp only [if_true] at h
    split at h
    · simp at h; exact .inl ⟨rfl, h.symm⟩
    · simp at h
  · rw [if_neg hk] at h
    exact .inr h

theorem get_upd_new {H : Heap} {id : Nat} {b : Blk} (h : id < H.bs.length) (k : Nat) : (H.upd id b).get k = if k = id then some b else H.get k := by
  unfold Heap.upd Heap.get
  simp only [List.getElem?_set]
  by_cases hk : id = k
  · subst hk; simp [h]
  · rw [if_neg hk, if_neg (fun e => hk e.symm)]

/-- One step of 'putJunk'. -/
def junk1 (H0 : Heap) (v : AV) (H : Heap) : Heap :=
  match rootId v with
  | some (id, ver) => match H0.blk id ver with
    | some b => H.upd id (junk b)
    | none => H
  | none => H

theorem junk1_len (H0 : Heap) (v : AV) (H : Heap) : (junk1 H0 v H).bs.length = H.bs.length ∧ (junk1 H0 v H).st = H.st := by
  unfold junk1
  split
  · split
    · simp [Heap.upd]
    · exact ⟨rfl, rfl⟩
  · exact ⟨rfl, rfl⟩

theorem putJunk_io (H0 : Heap) (ms : List Mode) (v : AV) (vs : List AV) (H : Heap) : putJunk H0 (.io :: ms) (v :: vs) H = putJunk H0 ms vs (junk1 H0 v H) := rfl

theorem junk1_get {H0 : Heap} {v : AV} {H : Heap} {k : Nat} {b' : Blk} (h : (junk1 H0 v H).get k = some b') : H.get k = some b' ∨ ∃ ver b, rootId v = some (k, ver) ∧ H0.blk k ver = some b ∧ b' = junk b := by
  unfold junk1 at h
  split at h
  · rename_i id ver hr
    split at h
    · rename_i b hb
      rcases upd_get h with ⟨rfl, rfl⟩ | h
      · exact .inr ⟨ver, b, hr, hb, rfl⟩
      · exact .inl h
    · exact .inl h
  · exact .inl h

theorem putJunk_len (H0 : Heap) : ∀ (ms : List Mode) (as : List AV) (H : Heap), (putJunk H0 ms as H).bs.length = H.bs.length ∧ (putJunk H0 ms as H).st = H.st
  | [], as, H => by simp [putJunk]
  | m :: ms, [], H => by cases m <;> simp [putJunk]
  | .val :: ms, a :: as, H => by simp only [putJunk]; exact putJunk_len H0 ms as H
  | .mov :: ms, a :: as, H => by simp only [putJunk]; exact putJunk_len H0 ms as H
  | .io :: ms, a :: as, H => by
    rw [putJunk_io]
    have := putJunk_len H0 ms as (junk1 H0 a H)
    have h2 := junk1_len H0 a H
    exact ⟨this.1.trans h2.1, this.2.trans h2.2⟩

/-- What a block is, by where it stands. 'P' holds of every root. -/
theorem putJunk_get (H0 : Heap) {Lx Lm : Heap} {φ : Phi} {L0 : Heap} {φ0 : Phi} : ∀ (ms : List Mode) (as vs : List AV) (ls : List (List AV)) (H : Heap) (k : Nat) (b' : Blk), as.length = vs.length → Roots H0 φ L0 φ0 ms as vs → RootEls Lx Lm ms vs ls →
    (putJunk H0 ms as H).get k = some b' → H.get k = some b' ∨ ∃ a x ver b kk kv bk, rootId a = some (k, ver) ∧ H0.blk k ver = some b ∧ b' = junk b ∧ RootOK H0 φ L0 φ0 a x ∧ rootK x = some (kk, kv) ∧ Lx.blk kk kv = some bk ∧ Lm.get kk = none
  | [], as, vs, ls, H, k, b', _, _, _, h => by simp only [putJunk] at h; exact .inl h
  | m :: ms, [], vs, ls, H, k, b', _, _, _, h => by cases m <;> (simp only [putJunk] at h; exact .inl h)
  | m :: ms, a :: as, [], ls, H, k, b', hl, _, _, h => by simp at hl
  | .val :: ms, a :: as, x :: vs, ls, H, k, b', hl, h1, h2, h => by
    simp only [putJunk] at h
    exact putJunk_get H0 ms as vs ls H k b' (by simpa using hl) (by simpa only [Roots] using h1) (by simpa only [RootEls] using h2) h
  | .mov :: ms, a :: as, x :: vs, ls, H, k, b', hl, h1, h2, h => by
    simp only [putJunk] at h
    exact putJunk_get H0 ms as vs ls H k b' (by simpa using hl) (by simpa only [Roots] using h1) (by simpa only [RootEls] using h2) h
  | .io :: ms, a :: as, x :: vs, [], H, k, b', hl, h1, h2, h => by simp only [RootEls] at h2
  | .io :: ms, a :: as, x :: vs, l :: ls, H, k, b', hl, h1, h2, h => by
    rw [putJunk_io] at h
    simp only [Roots] at h1
    simp only [RootEls] at h2
    rcases putJunk_get H0 ms as vs ls _ k b' (by simpa using hl) h1.2 h2.2 h with h3 | h3
    · rcases junk1_get h3 with h4 | ⟨ver, b, q1, q2, q3⟩
      · exact .inl h4
      · obtain ⟨kk, kv, bk, p1, p2, _, p4⟩ := h2.1
        exact .inr ⟨a, x, ver, b, kk, kv, bk, q1, q2, q3, h1.1, p1, p2, p4⟩
    · exact .inr h3

/-- A root is there again. -/
def Has (Hx : Heap) (id ver : Nat) (b : Blk) : Prop := ∃ b', Hx.blk id ver = some b' ∧ b'.sz = b.sz ∧ b'.el.length = b.el.length

theorem Has.junk1 {H0 Hx : Heap} {id ver : Nat} {b : Blk} (h0 : H0.blk id ver = some b) (h : Has Hx id ver b) (v : AV) : Has (junk1 H0 v Hx) id ver b := by
  obtain ⟨b', h1, h2, h3⟩ := h
  unfold VS.junk1
  split
  · rename_i id2 ver2 hr
    split
    · rename_i b2 hb2
      have hlt : id < Hx.bs.length := Heap.get_lt (Heap.blk_get h1).1
      by_cases hid : id2 = id
      · subst hid
        have g1 := Heap.blk_get h0
        have g2 := Heap.blk_get hb2
        have : b2 = b := by have := g1.1.symm.trans g2.1; simp only [Option.some.injEq] at this; exact this.symm
        subst this
        refine ⟨junk b2, ?_, rfl, by simp [junk]⟩
        have := Heap.blk_of_get (H := Hx.upd id2 (junk b2)) (id := id2) (b := junk b2) (by rw [get_upd_new hlt, if_pos rfl])
        rw [← g1.2]; exact this
      · refine ⟨b', ?_, h2, h3⟩
        have g := Heap.blk_get h1
        have : (Hx.upd id2 (junk b2)).get id = some b' := by
          unfold Heap.upd Heap.get
          simp only [List.getElem?_set]
          rw [if_neg hid]; exact g.1
        rw [← g.2]; exact Heap.blk_of_get this
    · exact ⟨b', h1, h2, h3⟩
  · exact ⟨b', h1, h2, h3⟩

/-- What the caller keeps off from then on. -/
structure AHok (w : World) (A : Avoid) (φ0 : Phi) (w' : World) (φ' : Phi) (AH : Avoid) : Prop where
  own : ∀ c, A c → ¬ Ow φ0 c → AH c
  cov : ∀ c, Ow φ' c → AH c
  bnd : ∀ c, AH c → c < w'.heap.size
  fz : ∀ c arr T fr, w.heap[c]? = some (.cells arr T fr) → ¬ A c → (∃ fr', w'.heap[c]? = some (.cells arr T fr')) ∧ ¬ AH c

/-- A root's elements, and where they go. -/
def RootL (w : World) (L : Heap) (φL : Phi) (AL : Avoid) (H : Heap) (φ : Phi) (a : AV) (l : List AV) : Prop :=
  (rootId a = none → l = []) ∧ ∀ id ver, rootId a = some (id, ver) → ∃ c b0 b arr T fr, H.blk id ver = some b ∧ φ id = some (.at_ c b0) ∧ w.heap[c]? = some (.cells arr T fr) ∧ l.length = b.el.length ∧
    (∀ (i : Nat) (x : AV), l[i]? = some x → x.cells.length = b.sz) ∧ ∀ (i : Nat) (x : AV) (j : Nat) (y : AV) (v : Value), l[i]? = some x → x.cells[j]? = some y → arr[b0 + i * b.sz + j]? = some v → R w L φL AL y v

def RootLs (w : World) (L : Heap) (φL : Phi) (AL : Avoid) (H : Heap) (φ : Phi) : List Mode → List AV → List (List AV) → Prop
  | .io :: ms, a :: as, l :: ls => RootL w L φL AL H φ a l ∧ RootLs w L φL AL H φ ms as ls
  | .val :: ms, _ :: as, ls => RootLs w L φL AL H φ ms as ls
  | .mov :: ms, _ :: as, ls => RootLs w L φL AL H φ ms as ls
  | _, _, _ => True

section back
variable {w w' : World} {A : Avoid} {H : Heap} {φ : Phi} {H1 L0 : Heap} {φ0 : Phi} {A0 : Avoid} {L : Heap} {φ' : Phi} {A' AH : Avoid} {ms : List Mode} {as vs : List AV} {ls : List (List AV)} {Lm : Heap}

/-- A root at the call's end. -/
theorem root_end (m : Moved w H φ A ⟨0, []⟩ (fun _ => none) A H1 L0 φ0) (ho : Out w L0 φ0 A0 w' L φ' A') {a x : AV} (hr : RootOK H φ L0 φ0 a x) {kk kv : Nat} {bk : Blk} (hk : rootK x = some (kk, kv)) (hb : L.blk kk kv = some bk) :
    (rootId a = none → bk.el = []) ∧ ∀ id ver, rootId a = some (id, ver) → ∃ b c b0, H.blk id ver = some b ∧ bk.sz = b.sz ∧ bk.el.length = b.el.length ∧ φ id = some (.at_ c b0) ∧ φ' kk = some (.at_ c b0) ∧ BlkOK w' L φ' A' bk (.at_ c b0) := by
  obtain ⟨k, kv', b1, e1, e2, ⟨loc, e2'⟩, e3, e4⟩ := hr
  rw [hk] at e1
  simp only [Option.some.injEq, Prod.mk.injEq] at e1
  obtain ⟨rfl, rfl⟩ := e1
  obtain ⟨g1, g2⟩ := Heap.blk_get hb
  obtain ⟨f1, f2⟩ := Heap.blk_get e2
  have hlt : kv < L0.st := by
    obtain ⟨bb, p1, p2⟩ := m.duo.sh.blk kk loc e2'
    rw [f1] at p1
    simp only [Option.some.injEq] at p1; subst p1
    rw [← f2]; exact p2.ver
  · obtain ⟨b2, i1, i2, i3, i4, i5, i6⟩ := ho.evo.ids kk bk g1 (by omega)
    rw [f1] at i1
    simp only [Option.some.injEq] at i1; subst i1
    refine ⟨fun h => List.eq_nil_of_length_eq_zero (by rw [i5, e3 h]; rfl), fun id ver h => ?_⟩
    obtain ⟨b, c, b0, q1, q2, q3, q4, q5⟩ := e4 id ver h
    have hp := i6 _ q5
    obtain ⟨bb, p1, p2⟩ := ho.st.blk kk _ hp
    rw [g1] at p1
    simp only [Option.some.injEq] at p1; subst p1
    exact ⟨b, c, b0, q1, i3.trans q2, i5.trans q3, q4, hp, p2⟩

/-- The caller's side, as the callee ends; what was lent is there, its content open. -/
theorem junk_ok (hst : St w H φ A) (m : Moved w H φ A ⟨0, []⟩ (fun _ => none) A H1 L0 φ0) (hlen : as.length = vs.length) (hro : Roots H φ L0 φ0 ms as vs) (ho : Out w L0 φ0 A0 w' L φ' A') (ha : AHok w A φ0 w' φ' AH) (ht : takeRoots ms vs L = some (ls, Lm)) :
    Duo w' Lm (restr φ' Lm) A' (putJunk H ms as H1) (restr φ (putJunk H ms as H1)) AH ∧ Evo w H φ A w' (putJunk H ms as H1) (restr φ (putJunk H ms as H1)) AH := by
  obtain ⟨hl1, hre⟩ := takeRoots_spec _ _ _ _ _ ht
  have hsub : ∀ c, Ow φ0 c → Ow φ c := fun c hc => by
    rcases m.oh c hc with ⟨i, b, h⟩ | h
    · simp at h
    · exact h.1
  have hget := fun k b' => putJunk_get H ms as vs ls H1 k b' hlen hro hre
  have hstj := (putJunk_len H ms as H1).2
  have hevo : Evo w H φ A w' (putJunk H ms as H1) (restr φ (putJunk H ms as H1)) AH := by
    refine ⟨ha.fz, by rw [hstj, m.less.st]; exact Nat.le_refl _, fun id b' hb' _ => ?_, fun c hc => ho.post.bsz c (Ow.lt hst hc)⟩
    have hphi : ∀ loc, φ id = some loc → restr φ (putJunk H ms as H1) id = some loc := fun loc h => by simp [restr, hb', h]
    rcases hget id b' hb' with h | ⟨a, x, ver, b, kk, kv, bk, q1, q2, rfl, q4, q5, q6, q7⟩
    · exact ⟨b', m.less.get _ _ h, rfl, rfl, rfl, rfl, hphi⟩
    · exact ⟨b, (Heap.blk_get q2).1, rfl, rfl, rfl, by simp [junk], hphi⟩
  refine ⟨⟨lessSt ho.st hl1, ⟨fun i i' c b b' h1 h2 => hst.inj _ _ _ _ _ (restr_some h1).1 (restr_some h2).1, fun c hc => ?_, ha.bnd, fun id loc hl => ?_⟩, fun c hc hj => ?_, fun c hc => ha.cov c (restr_ow hc)⟩, hevo⟩
  · obtain ⟨id, b0, h⟩ := hc
    obtain ⟨h1, b', hb'⟩ := restr_some h
    rcases hget id b' hb' with h2 | ⟨a, x, ver, b, kk, kv, bk, q1, q2, rfl, q4, q5, q6, q7⟩
    · refine ha.own c (hst.own c ⟨id, b0, h1⟩) (m.duo.dis c ⟨id, b0, ?_⟩)
      simp [restr, h2, h1]
    · obtain ⟨_, re⟩ := root_end m ho q4 q5 q6
      obtain ⟨b2, c2, b02, _, _, _, r4, r5, _⟩ := re id _ q1
      rw [h1] at r4
      simp only [Option.some.injEq, Loc.at_.injEq] at r4
      obtain ⟨rfl, rfl⟩ := r4
      exact ha.cov c ⟨kk, b0, r5⟩
  · obtain ⟨h1, b', hb'⟩ := restr_some hl
    refine ⟨b', hb', ?_⟩
    rcases hget id b' hb' with h2 | ⟨a, x, ver, b, kk, kv, bk, q1, q2, rfl, q4, q5, q6, q7⟩
    · obtain ⟨b2, hb2, hok⟩ := hst.blk id loc h1
      rw [m.less.get _ _ h2] at hb2
      simp only [Option.some.injEq] at hb2; subst hb2
      refine ⟨by rw [hstj, m.less.st]; exact hok.ver, hok.sized, hok.virt, fun c b0 he => ?_⟩
      subst he
      obtain ⟨arr, T, fr, k1, k2, k3, k4⟩ := hok.here c b0 rfl
      have hn : ¬ Ow φ0 c := m.duo.dis c ⟨id, b0, by simp [restr, h2, h1]⟩
      refine ⟨arr, T, fr, ?_, k2, k3, fun i x j y v hx hy hv => ⟨(k4 i x j y v hx hy hv).1.mono hevo, (k4 i x j y v hx hy hv).2⟩⟩
      rw [ho.post.kept c (Ow.lt hst ⟨id, b0, h1⟩) hn]
      exact k1
    · obtain ⟨_, re⟩ := root_end m ho q4 q5 q6
      obtain ⟨b2, c2, b02, r1, r2, r3, r4, r5, hok⟩ := re id _ q1
      rw [h1] at r4
      simp only [Option.some.injEq] at r4; subst r4
      rw [q2] at r1
      simp only [Option.some.injEq] at r1; subst r1
      obtain ⟨b3, hb3, hok3⟩ := hst.blk id _ h1
      rw [(Heap.blk_get q2).1] at hb3
      simp only [Option.some.injEq] at hb3; subst hb3
      have hcs : ∀ (i : Nat) (x : AV), (junk b).el[i]? = some x → i < b.el.length ∧ x = .agg (List.replicate b.sz .undef) := by
        intro i x hx
        simp only [junk, List.getElem?_map, Option.map_eq_some_iff] at hx
        obtain ⟨z, hz, rfl⟩ := hx
        exact ⟨(List.getElem?_eq_some_iff.1 hz).1, rfl⟩
      refine ⟨by rw [hstj, m.less.st]; exact hok3.ver, fun i x hx => by rw [(hcs i x hx).2]; simp [AV.cells, junk], fun h => by simp at h, fun c b0 he => ?_⟩
      simp only [Loc.at_.injEq] at he
      obtain ⟨rfl, rfl⟩ := he
      obtain ⟨arr, T, fr, k1, k2, k3, k4⟩ := hok.here c2 b02 rfl
      refine ⟨arr, T, fr, k1, k2, by simp only [junk, List.length_map]; rw [← r3, ← r2]; exact k3, fun i x j y v hx hy hv => ?_⟩
      obtain ⟨hi, rfl⟩ := hcs i x hx
      have hj : j < b.sz := by have := (List.getElem?_eq_some_iff.1 hy).1; simpa [AV.cells] using this
      have hyu : y = .undef := by simp only [AV.cells] at hy; rw [List.getElem?_replicate, if_pos hj] at hy; simpa using hy.symm
      subst hyu
      refine ⟨.fr _ _ (.undef _), ?_⟩
      have hbi := List.getElem?_eq_getElem (show i < bk.el.length by omega)
      exact (k4 i _ j _ v hbi (List.getElem?_eq_getElem (show j < _ by rw [hok.sized _ _ hbi, r2]; exact hj)) (by rw [r2]; exact hv)).2
  · obtain ⟨id, b0, h⟩ := hj
    obtain ⟨h1, b', hb'⟩ := restr_some h
    rcases hget id b' hb' with h2 | ⟨a, x, ver, b, kk, kv, bk, q1, q2, rfl, q4, q5, q6, q7⟩
    · rcases ho.post.own c (restr_ow hc) with h3 | h3
      · exact m.duo.dis c ⟨id, b0, by simp [restr, h2, h1]⟩ h3
      · have := Ow.lt hst ⟨id, b0, h1⟩
        omega
    · obtain ⟨_, re⟩ := root_end m ho q4 q5 q6
      obtain ⟨b2, c2, b02, _, _, _, r4, r5, _⟩ := re id _ q1
      rw [h1] at r4
      simp only [Option.some.injEq, Loc.at_.injEq] at r4
      obtain ⟨rfl, rfl⟩ := r4
      obtain ⟨i, bb, hi⟩ := hc
      obtain ⟨hi1, bx, hbx⟩ := restr_some hi
      have := ho.st.inj _ _ _ _ _ hi1 r5
      subst this
      rw [q7] at hbx; simp at hbx

end back
end Go.VS

/-
  VS, part 28: what was lent, and the results, come back.
-/
namespace Go.VS

section back
variable {w : World} {AL AH : Avoid}

structure Mv (w : World) (L : Heap) (φL : Phi) (AL : Avoid) (H : Heap) (φ : Phi) (AH : Avoid) (L1 H1 : Heap) (φ1 : Phi) : Prop where
  less : Less L L1
  duo : Duo w L1 (restr φL L1) AL H1 φ1 AH
  eh : Evo w H φ AH w H1 φ1 AH
  oh : ∀ c, Ow φ1 c → Ow φ c ∨ (Ow φL c ∧ ¬ Ow (restr φL L1) c)
  has : ∀ id ver b, H.blk id ver = some b → ∃ b', H1.blk id ver = some b' ∧ b'.sz = b.sz ∧ b'.el.length = b.el.length
  hphi : ∀ id loc, φ id = some loc → φ1 id = some loc

theorem Mv.trans {L L1 L2 : Heap} {φL : Phi} {H H1 H2 : Heap} {φ φ1 φ2 : Phi} (h : Mv w L φL AL H φ AH L1 H1 φ1) (k : Mv w L1 (restr φL L1) AL H1 φ1 AH L2 H2 φ2) : Mv w L φL AL H φ AH L2 H2 φ2 := by
  have hr := restr_restr (φ := φL) k.less
  refine ⟨h.less.trans k.less, by rw [← hr]; exact k.duo, h.eh.trans k.eh (fun _ _ => rfl), fun c hc => ?_, fun id ver b hb => ?_, fun id loc hl => k.hphi id loc (h.hphi id loc hl)⟩
  · rcases k.oh c hc with h1 | ⟨h1, h2⟩
    · rcases h.oh c h1 with h3 | ⟨h3, h4⟩
      · exact .inl h3
      · refine .inr ⟨h3, fun h5 => h4 ?_⟩
        rw [← hr] at h5
        exact restr_ow h5
    · rw [hr] at h2
      exact .inr ⟨restr_ow h1, h2⟩
  · obtain ⟨b1, e1, e2, e3⟩ := h.has id ver b hb
    obtain ⟨b2, f1, f2, f3⟩ := k.has id ver b1 e1
    exact ⟨b2, f1, f2.trans e2, f3.trans e3⟩

theorem Upd.refl {w : World} {c : Nat} {o : Obj} (h : w.heap[c]? = some o) : Upd w c o w := ⟨h, fun _ _ => rfl, rfl, rfl, rfl, rfl⟩

theorem RootLs.mono {L L1 : Heap} {φL : Phi} {H H1 : Heap} {φ φ1 : Phi} (hl : Less L L1) (has : ∀ id ver b, H.blk id ver = some b → ∃ b', H1.blk id ver = some b' ∧ b'.sz = b.sz ∧ b'.el.length = b.el.length) (hphi : ∀ id loc, φ id = some loc → φ1 id = some loc) :
    ∀ {ms : List Mode} {as : List AV} {ls : List (List AV)}, RootLs w L φL AL H φ ms as ls → RootLs w L1 (restr φL L1) AL H1 φ1 ms as ls
  | [], as, ls, _ => by simp [RootLs]
  | m :: ms, [], ls, _ => by cases m <;> simp [RootLs]
  | .val :: ms, a :: as, ls, h => by simp only [RootLs] at h ⊢; exact RootLs.mono hl has hphi h
  | .mov :: ms, a :: as, ls, h => by simp only [RootLs] at h ⊢; exact RootLs.mono hl has hphi h
  | .io :: ms, a :: as, [], h => by simp [RootLs]
  | .io :: ms, a :: as, l :: ls, h => by
    simp only [RootLs] at h ⊢
    refine ⟨⟨h.1.1, fun id ver hr => ?_⟩, RootLs.mono hl has hphi h.2⟩
    obtain ⟨c, b0, b, arr, T, fr, k1, k2, k3, k4, k5, k6⟩ := h.1.2 id ver hr
    obtain ⟨b', e1, e2, e3⟩ := has id ver b k1
    exact ⟨c, b0, b', arr, T, fr, e1, hphi _ _ k2, k3, by rw [k4, e3], fun i x hx => by rw [e2]; exact k5 i x hx, fun i x j y v hx hy hv => (k6 i x j y v hx hy (by rw [← e2]; exact hv)).mono (lessEvo hl)⟩

/-- Results, handed over. -/
theorem moveVals : ∀ (sh : List (List Sh)) (rs : List AV) (us : List Value) (L : Heap) (φL : Phi) (H : Heap) (φ : Phi) (ys : List AV) (L1 : Heap), Duo w L φL AL H φ AH → rs.length = us.length →
    (∀ (i : Nat) (x : AV) (u : Value), rs[i]? = some x → us[i]? = some u → R w L φL AL x u) → takeVals sh rs L = some (ys, L1) → KfzL AL AH ys →
    ∃ φ1, Moved w L φL AL H φ AH L1 (thawL ys H).2 φ1 ∧ (thawL ys H).1.length = us.length ∧ ∀ (i : Nat) (x : AV) (u : Value), (thawL ys H).1[i]? = some x → us[i]? = some u → R w (thawL ys H).2 φ1 AH x u
  | sh, [], us, L, φL, H, φ, ys, L1, hd, hl, hr, ht, hk => by
    simp only [takeVals, Option.some.injEq, Prod.mk.injEq] at ht
    obtain ⟨rfl, rfl⟩ := ht
    exact ⟨φ, .refl hd, hl, by simp [thawL]⟩
  | sh, x :: rs, u :: us, L, φL, H, φ, ys, L1, hd, hl, hr, ht, hk => by
    simp only [takeVals] at ht
    split at ht
    rotate_left
    · simp at ht
    rename_i y L' h1
    split at ht
    rotate_left
    · simp at ht
    rename_i ys' L'' h2
    simp only [Option.some.injEq, Prod.mk.injEq] at ht
    obtain ⟨rfl, rfl⟩ := ht
    obtain ⟨k1, k2⟩ := hk.cons
    obtain ⟨φ1, m1, r1⟩ := moveV hd (hr 0 x u rfl rfl) h1 rfl k1
    obtain ⟨φ2, m2, l2, r2⟩ := moveVals sh.tail rs us L' (restr φL L') (thawV y H).2 φ1 ys' L'' m1.duo (by simpa using hl) (fun i x u hx hu => (hr (i + 1) x u hx hu).mono (lessEvo m1.less)) h2 k2
    refine ⟨φ2, m1.trans m2, by simp [thawL, l2], fun i x' u' hx hu => ?_⟩
    cases i with
    | zero => simp [thawL] at hx hu; subst hx; subst hu; exact r1.mono m2.eh
    | succ i => simp only [thawL, List.getElem?_cons_succ] at hx hu; exact r2 i x' u' hx hu
  | sh, x :: rs, [], L, φL, H, φ, ys, L1, hd, hl, hr, ht, hk => by simp at hl

theorem takeVals_less : ∀ (sh : List (List Sh)) (rs : List AV) (L : Heap) (ys : List AV) (L1 : Heap), takeVals sh rs L = some (ys, L1) → Less L L1
  | sh, [], L, ys, L1, ht => by simp only [takeVals, Option.some.injEq, Prod.mk.injEq] at ht; obtain ⟨rfl, rfl⟩ := ht; exact .refl _
  | sh, x :: rs, L, ys, L1, ht => by
    simp only [takeVals] at ht
    split at ht
    · rename_i y L' h1
      split at ht
      · rename_i ys' L'' h2
        simp only [Option.some.injEq, Prod.mk.injEq] at ht
        obtain ⟨rfl, rfl⟩ := ht
        exact (takeE_less _ _ _ _ _ h1).trans (takeVals_less _ rs _ _ _ h2)
      · simp at ht
    · simp at ht

theorem frzWhole {es : List Sh} {x : AV} {v : Value} {L : Heap} {φL : Phi} {A' : Avoid} {y : AV} {L1 : Heap} (hst : St w L φL AL) (hx : R w L φL AL x v) (ht : takeE es x L = some (y, L1)) (hk : ∀ c, A' c → gone φL AL L1 c) : FR w A' (frzV y) v := by
  by_cases hag : ∃ cs, x = .agg cs
  · obtain ⟨cs, rfl⟩ := hag
    obtain ⟨cs', hc, rfl⟩ := takeE_agg ht
    obtain ⟨vs, rfl, hl, ho, hp⟩ := hx.agg_inv
    obtain ⟨l1, r1⟩ := frzC es cs vs.toList L φL AL A' cs' L1 hst (by simpa using hl) (fun j c u hj hu => hp j c u hj (by simpa using hu)) hc hk
    exact .agg _ _ (by rw [l1, hl]) ho fun i x v hx hv => r1 i x v hx (by simpa using hv)
  · obtain ⟨e, rfl, ht'⟩ := takeE_one (fun cs h => hag ⟨cs, h⟩) ht
    exact (frzT e x v L φL AL A' y L1 hst hx ht' hk).1

/-- Results, kept for good. -/
theorem frzVals {A' : Avoid} : ∀ (sh : List (List Sh)) (rs : List AV) (us : List Value) (L : Heap) (φL : Phi) (ys : List AV) (L1 : Heap), St w L φL AL → rs.length = us.length →
    (∀ (i : Nat) (x : AV) (u : Value), rs[i]? = some x → us[i]? = some u → R w L φL AL x u) → takeVals sh rs L = some (ys, L1) → (∀ c, A' c → gone φL AL L1 c) →
    (frzL ys).length = us.length ∧ ∀ (i : Nat) (x : AV) (u : Value), (frzL ys)[i]? = some x → us[i]? = some u → FR w A' x u
  | sh, [], us, L, φL, ys, L1, hd, hl, hr, ht, hk => by
    simp only [takeVals, Option.some.injEq, Prod.mk.injEq] at ht
    obtain ⟨rfl, rfl⟩ := ht
    exact ⟨hl, by simp [frzL]⟩
  | sh, x :: rs, u :: us, L, φL, ys, L1, hd, hl, hr, ht, hk => by
    simp only [takeVals] at ht
    split at ht
    rotate_left
    · simp at ht
    rename_i y L' h1
    split at ht
    rotate_left
    · simp at ht
    rename_i ys' L'' h2
    simp only [Option.some.injEq, Prod.mk.injEq] at ht
    obtain ⟨rfl, rfl⟩ := ht
    have hl1 := takeE_less _ _ _ _ _ h1
    have hl2 := takeVals_less _ _ _ _ _ h2
    have r1 := frzWhole (A' := A') hd (hr 0 x u rfl rfl) h1 (fun c hc => gone_less hl2 (hk c hc))
    obtain ⟨l2, r2⟩ := frzVals sh.tail rs us L' (restr φL L') ys' L'' (lessSt hd hl1) (by simpa using hl) (fun i x u hx hu => (hr (i + 1) x u hx hu).mono (lessEvo hl1)) h2 (fun c hc => by
      obtain ⟨k1, k2⟩ := hk c hc
      exact ⟨k1, fun ho => by rw [restr_restr hl2]; exact k2 (restr_ow ho)⟩)
    refine ⟨by simp [frzL, l2], fun i x' u' hx hu => ?_⟩
    cases i with
    | zero => simp [frzL] at hx hu; subst hx; subst hu; exact r1
    | succ i => simp only [frzL, List.getElem?_cons_succ] at hx hu; exact r2 i x' u' hx hu
  | sh, x :: rs, [], L, φL, ys, L1, hd, hl, hr, ht, hk => by simp at hl
end back
end Go.VS

/-
  VS, part 29: a call, from the caller's side.
-/
namespace Go.VS

def oneVal : List Value → Value
  | [v] => v
  | vs => .tuple vs.toArray

/-- A function with a body that the machine enters. -/
def Callable (P : Program) (f : FuncId) : Prop := ∃ fn, P.funcs[f]? = some fn ∧ (fn.name == "runtime.NumGoroutine") = false ∧ fn.body.isNone = false

/-- What a call comes to. -/
def CRes (w : World) (H : Heap) (φ : Phi) (A : Avoid) (K : AV → Heap → Prop) (e : Ending) (w' : World) : Prop :=
  match e with
  | .returned v' => ∃ x H' φ' A', Out w H φ A w' H' φ' A' ∧ R w' H' φ' A' x v' ∧ K x H'
  | _ => False

theorem CRes.mono {w : World} {H : Heap} {φ : Phi} {A : Avoid} {K K' : AV → Heap → Prop} (h : ∀ v H, K v H → K' v H) {e : Ending} {w' : World} (k : CRes w H φ A K e w') : CRes w H φ A K' e w' := by
  cases e with
  | returned v' => obtain ⟨x, H', φ', A', h1, h2, h3⟩ := k; exact ⟨x, H', φ', A', h1, h2, h _ _ h3⟩
  | panicked c => exact k
  | outgrown => exact k

/-- A call really ends so. -/
def Sim (P : Program) : CallRel := fun f ys H K => Callable P f ∧
  ∀ (w : World) (A : Avoid) (φ : Phi) (us : Array Value), St w H φ A → ys.length = us.size →
    (∀ (i : Nat) (x : AV) (u : Value), ys[i]? = some x → us[i]? = some u → R w H φ A x u) → Calls P f us w (CRes w H φ A K)

theorem Sim.mono {P : Program} {f : FuncId} {ys : List AV} {H : Heap} {K K' : AV → Heap → Prop} (h : ∀ v H, K v H → K' v H) (k : Sim P f ys H K) : Sim P f ys H K' :=
  ⟨k.1, fun w A φ us h1 h2 h3 => (k.2 w A φ us h1 h2 h3).mono fun _ _ he => he.mono h⟩

/-- What a call gives is one thing. -/
def Exact (X : CallRel) : Prop := ∀ f ys H K, X f ys H K → ∃ v H', X f ys H (fun v1 H1 => v1 = v ∧ H1 = H') ∧ K v H'

theorem St.shrink {w : World} {H : Heap} {φ : Phi} {A A' : Avoid} (h : St w H φ A) (h1 : ∀ c, A' c → A c) (h2 : ∀ c, Ow φ c → A' c) : St w H φ A' := by
  refine ⟨h.inj, h2, fun c hc => h.bnd c (h1 c hc), fun id loc hl => ?_⟩
  obtain ⟨b, hb, hok⟩ := h.blk id loc hl
  refine ⟨b, hb, hok.ver, hok.sized, hok.virt, fun c b0 he => ?_⟩
  obtain ⟨arr, T, fr, k1, k2, k3, k4⟩ := hok.here c b0 he
  exact ⟨arr, T, fr, k1, k2, k3, fun i x j y v hx hy hv => ⟨(k4 i x j y v hx hy hv).1.shrinkA h1, (k4 i x j y v hx hy hv).2⟩⟩

section
variable {w : World} {H : Heap} {φ : Phi} {A : Avoid}

theorem R_one {xs : List AV} {us : List Value} (hl : xs.length = us.length) (h : ∀ (i : Nat) (x : AV) (u : Value), xs[i]? = some x → us[i]? = some u → R w H φ A x u) : R w H φ A (oneOrTup xs) (oneVal us) := by
  have key : ∀ {xs : List AV} {us : List Value}, xs.length = us.length → (∀ (i : Nat) (x : AV) (u : Value), xs[i]? = some x → us[i]? = some u → R w H φ A x u) → R w H φ A (.tup xs) (.tuple us.toArray) :=
    fun hl h => .tup _ _ (by simpa using hl) fun i x v hx hv => h i x v hx (by simpa using hv)
  match xs, us, hl with
  | [], [], hl => exact key hl h
  | [x], [u], _ => exact h 0 x u rfl rfl
  | x :: x' :: xs, u :: u' :: us, hl => exact key hl h

theorem FR_one {xs : List AV} {us : List Value} (hl : xs.length = us.length) (h : ∀ (i : Nat) (x : AV) (u : Value), xs[i]? = some x → us[i]? = some u → FR w A x u) : FR w A (oneOrTup xs) (oneVal us) := by
  have key : ∀ {xs : List AV} {us : List Value}, xs.length = us.length → (∀ (i : Nat) (x : AV) (u : Value), xs[i]? = some x → us[i]? = some u → FR w A x u) → FR w A (.tup xs) (.tuple us.toArray) :=
    fun hl h => .tup _ _ (by simpa using hl) fun i x v hx hv => h i x v hx (by simpa using hv)
  match xs, us, hl with
  | [], [], hl => exact key hl h
  | [x], [u], _ => exact h 0 x u rfl rfl
  | x :: x' :: xs, u :: u' :: us, hl => exact key hl h
end

theorem thaw_one (zs : List AV) (H : Heap) : thawV (oneOrTup zs) H = (oneOrTup (thawL zs H).1, (thawL zs H).2) := by
  match zs with
  | [] => rfl
  | [z] => rfl
  | z :: z' :: zs => rfl

theorem frz_one (zs : List AV) : frzV (oneOrTup zs) = oneOrTup (frzL zs) := by
  match zs with
  | [] => rfl
  | [z] => rfl
  | z :: z' :: zs => rfl

theorem noFz_one (zs : List AV) : noFz (oneOrTup zs) = noFzL zs := by
  match zs with
  | [] => rfl
  | [z] => simp [oneOrTup, noFzL]
  | z :: z' :: zs => rfl

theorem one_R {xs : List AV} {v : Value} {w : World} {H : Heap} {φ : Phi} {A : Avoid} (h : R w H φ A (oneOrTup xs) v) : ∃ us : List Value, v = oneVal us ∧ xs.length = us.length ∧ ∀ (i : Nat) (x : AV) (u : Value), xs[i]? = some x → us[i]? = some u → R w H φ A x u := by
  have key : ∀ {xs : List AV}, xs.length ≠ 1 → R w H φ A (.tup xs) v → ∃ us : List Value, v = oneVal us ∧ xs.length = us.length ∧ ∀ (i : Nat) (x : AV) (u : Value), xs[i]? = some x → us[i]? = some u → R w H φ A x u := by
    intro xs hl h
    obtain ⟨vs, rfl, h1, h2⟩ := h.tup_inv
    refine ⟨vs.toList, ?_, by simpa using h1, fun i x u hx hu => h2 i x u hx (by simpa using hu)⟩
    have hl' : vs.toList.length ≠ 1 := by simp only [Array.length_toList]; omega
    generalize hv : vs.toList = l at hl'
    have : Value.tuple vs = .tuple l.toArray := by rw [← hv]
    rw [this]
    match l with
    | [] => rfl
    | [u] => exact absurd rfl hl'
    | u :: u' :: l => rfl
  match xs with
  | [] => exact key (by simp) h
  | [x] => exact ⟨[v], rfl, rfl, fun i x' u hx hu => by
      cases i with
      | zero => simp at hx hu; subst hx; subst hu; exact h
      | succ i => simp at hx⟩
  | x :: x' :: xs => exact key (by simp) h
def allVal (ms : List Mode) : Prop := ∀ m ∈ ms, m = .val

theorem prepMove_val : ∀ (ms : List Mode) (sh : List (List Sh)) (as : List AV) (H : Heap), allVal ms → prepMove ms sh as H = some (as, H)
  | [], sh, as, H, _ => rfl
  | m :: ms, sh, [], H, _ => rfl
  | m :: ms, sh, a :: as, H, h => by
    have hm := h m (by simp)
    subst hm
    simp only [prepMove, prepM, prepMove_val ms sh.tail as H (fun m hm => h m (by simp [hm]))]

theorem putJunk_val (H0 : Heap) : ∀ (ms : List Mode) (as : List AV) (H : Heap), allVal ms → putJunk H0 ms as H = H
  | [], as, H, _ => by simp [putJunk]
  | m :: ms, [], H, _ => by cases m <;> simp [putJunk]
  | m :: ms, a :: as, H, h => by
    have hm := h m (by simp)
    subst hm
    simp only [putJunk]
    exact putJunk_val H0 ms as H (fun m hm => h m (by simp [hm]))

theorem restr_self {w : World} {H : Heap} {φ : Phi} {A : Avoid} (hst : St w H φ A) : restr φ H = φ := by
  funext id
  unfold restr
  cases hp : φ id with
  | none => simp
  | some loc => obtain ⟨b, hb, _⟩ := hst.blk id loc hp; simp [hb]

theorem thawArgs_snap {H : Heap} : ∀ (as ys : List AV) (b : Bool), prepVal [] as H = some (ys, b) → ∀ L, thawArgs [] ys L = (ys, L)
  | [], ys, b, h, L => by simp only [prepVal, Option.some.injEq, Prod.mk.injEq] at h; obtain ⟨rfl, _⟩ := h; rfl
  | a :: as, ys, b, h, L => by
    simp only [prepVal] at h
    split at h
    · rename_i y hy
      split at h
      · rename_i ys' b' hys
        simp only [Option.some.injEq, Prod.mk.injEq] at h
        obtain ⟨rfl, _⟩ := h
        simp only [thawArgs, snap_thaw H 8 a y hy, List.tail_nil, thawArgs_snap as ys' b' hys]
      · simp at h
    · simp at h

theorem callSimQ {P : Program} {C : Ctx} {X : CallRel} (hX : ∀ f ys H K, X f ys H K → Sim P f ys H K) {w : World} {H : Heap} {φ : Phi} {A : Avoid} (hst : St w H φ A) {f : FuncId} {as : List AV} {us : Array Value} (hl : as.length = us.size)
    (hr : ∀ (i : Nat) (x : AV) (u : Value), as[i]? = some x → us[i]? = some u → R w H φ A x u) {th : Bool} {K : AV → Heap → Prop} (h : wpCallQ X C f as th H K) : Callable P f ∧ Calls P f us w (CRes w H φ A K) := by
  unfold wpCallQ at h
  split at h
  · exact h.elim
  rename_i ys lent hy
  obtain ⟨y, hXf, hfz, hp⟩ := h
  have hm : allVal [] := fun m hm => by simp at hm
  have hd0 : Duo w H φ A ⟨0, []⟩ (fun _ => none) A := by
    refine ⟨hst, ⟨fun i i' c b b' h => by simp at h, fun c hc => ?_, hst.bnd, fun id loc h => by simp at h⟩, fun c _ hc => ?_, hst.own⟩
    · obtain ⟨i, b, h⟩ := hc; simp at h
    · obtain ⟨i, b, h⟩ := hc; simp at h
  have hva : thawArgs [] ys ⟨0, []⟩ = (ys, ⟨0, []⟩) := thawArgs_snap _ _ _ hy _
  obtain ⟨φ0, m, hin, hro⟩ := handIn as [] [] us.toList H φ as H ys lent ⟨0, []⟩ (fun _ => none) ys ⟨0, []⟩ hd0 (by simpa using hl) (fun i x u hx hu => hr i x u hx (by simpa using hu)) (prepMove_val _ _ _ _ hm) hy hva
  have hsub : ∀ c, ¬ Ow φ0 c := fun c hc => by
    rcases m.oh c hc with ⟨i, b, h⟩ | ⟨h1, h2⟩
    · simp at h
    · rw [restr_self hst] at h2; exact h2 h1
  let A0 : Avoid := if lent = true then Ow φ0 else A
  have hA0 : ∀ c, A0 c → A c := by
    intro c hc
    simp only [A0] at hc
    split at hc
    · exact absurd hc (hsub c)
    · exact hc
  have hB0 : lent = true → ∀ c, A0 c → lentA (restr φ H) A c := by
    intro hlt c hc
    simp only [A0, hlt, if_true] at hc
    exact absurd hc (hsub c)
  have hst0 : St w ⟨0, []⟩ φ0 A0 := m.duo.sh.shrink hA0 (fun c hc => absurd hc (hsub c))
  have hvl : ys.length = us.size := by simpa using hin.1
  refine ⟨(hX _ _ _ _ hXf).1, ((hX _ _ _ _ hXf).2 w A0 φ0 us hst0 hvl (fun i x u hx hu => hin.2 A0 hA0 hB0 i x u hx (by simpa using hu))).mono fun e w' he => ?_⟩
  cases e with
  | panicked c => exact he.elim
  | outgrown => exact he.elim
  | returned v' =>
  obtain ⟨x0, L, φ', A', ho, hRx, rs, zs', L2, rfl, htv, rfl⟩ := he
  obtain ⟨rus, rfl, hrl, hrr⟩ := one_R hRx
  let AH : Avoid := if lent = true then fun c => A c ∨ (A' c ∧ w.heap.size ≤ c) else A'
  have hown' : ∀ c, Ow φ' c → w.heap.size ≤ c := fun c hc => (ho.post.own c hc).resolve_left (hsub c)
  have ha : AHok w A φ0 w' φ' AH := by
    refine ⟨fun c hc hn => ?_, fun c hc => ?_, fun c hc => ?_, fun c arr T fr hc hn => ?_⟩
    · simp only [AH]
      split
      · exact .inl hc
      · rename_i hlt
        refine ho.keep c ?_ hn
        simp only [A0, hlt]; exact hc
    · simp only [AH]
      split
      · exact .inr ⟨ho.st.own c hc, hown' c hc⟩
      · exact ho.st.own c hc
    · simp only [AH] at hc
      split at hc
      · rcases hc with h | ⟨h, _⟩
        · exact Nat.lt_of_lt_of_le (hst.bnd c h) ho.post.size
        · exact ho.st.bnd c h
      · exact ho.st.bnd c hc
    · obtain ⟨h1, h2⟩ := ho.evo.fz c arr T fr hc (fun h => hn (hA0 c h))
      refine ⟨h1, ?_⟩
      simp only [AH]
      split
      · rintro (h | ⟨_, h⟩)
        · exact hn h
        · have : c < w.heap.size := by rcases Nat.lt_or_ge c w.heap.size with h' | h'; · exact h'
                                       · rw [Array.getElem?_eq_none h'] at hc; simp at hc
          omega
      · exact h2
  obtain ⟨D, E⟩ := junk_ok (ls := []) (Lm := L) hst m (by rw [hl, hvl]) hro ho ha (by simp [takeRoots])
  rw [putJunk_val _ _ _ _ hm, restr_self hst] at D E
  have hkf : KfzL A' AH zs' := by
    cases hlt : lent with
    | false => exact .inl fun c h => by simpa [AH, hlt] using h
    | true =>
      rcases hfz with h | h
      · rw [hlt] at h; simp at h
      · rw [noFz_one] at h
        exact .inr h
  have hrs : ∀ (i : Nat) (x : AV) (u : Value), rs[i]? = some x → rus[i]? = some u → R w' L (restr φ' L) A' x u := fun i x u hx hu => by
    rw [restr_self ho.st]
    exact hrr i x u hx hu
  have hpost : ∀ {φ3 : Phi}, (∀ c, Ow φ3 c → Ow φ c ∨ Ow φ' c) → Post w φ w' φ3 := fun hq =>
    ⟨ho.post.os, ho.post.tape, ho.post.output, ho.post.size, fun c hc _ => ho.post.kept c hc (hsub c), ho.post.bsz, fun c hc => by
      rcases hq c hc with h | h
      · exact .inl h
      · exact .inr (hown' c h)⟩
  have hkeep : ∀ c, A c → ¬ Ow φ c → AH c := fun c hc _ => ha.own c hc (hsub c)
  have hbs : ∀ c, Ow φ c → bsz w' c = bsz w c := fun c hc => ho.post.bsz c (Ow.lt hst hc)
  cases htl : (th || lent) with
  | true =>
    rw [htl] at hp
    simp only [if_true, thaw_one] at hp
    obtain ⟨φ3, m3, l3, r3⟩ := moveVals _ rs rus L _ H φ zs' L2 D hrl hrs htv hkf
    refine ⟨_, _, φ3, AH, ⟨m3.duo.sh, hpost fun c hc => ?_, E.trans m3.eh hbs, hkeep⟩, R_one l3 r3, hp⟩
    rcases m3.oh c hc with h | ⟨h, _⟩
    · exact .inl h
    · exact .inr (restr_ow h)
  | false =>
    rw [htl] at hp
    simp only [Bool.false_eq_true, if_false, frz_one] at hp
    simp only [Bool.or_eq_false_iff] at htl
    have hAH : AH = A' := by simp [AH, htl.2]
    rw [hAH] at D E hkeep
    let A2 : Avoid := gone (restr φ' L) A' L2
    obtain ⟨l3, r3⟩ := frzVals (A' := A2) _ rs rus L (restr φ' L) zs' L2 D.sl hrl hrs htv (fun c h => h)
    have hA2 : ∀ c, Ow φ c → A2 c := fun c hc => ⟨D.sh.own c hc, fun h => absurd hc (D.dis c h)⟩
    have hE2 : Evo w H φ A w' H φ A2 := ⟨fun c arr T fr hc hn => ⟨(E.fz c arr T fr hc hn).1, fun h2 => (E.fz c arr T fr hc hn).2 h2.1⟩, E.st, E.ids, E.sz⟩
    refine ⟨_, _, φ, A2, ⟨D.sh.shrink (fun c h => h.1) hA2, hpost fun c hc => .inl hc, hE2, fun c hc hn => ⟨hkeep c hc hn, fun h => ?_⟩⟩, .fr _ _ (FR_one l3 r3), hp⟩
    have := hown' c (restr_ow h)
    have := hst.bnd c hc
    omega
end Go.VS

/-
  VS, part 30: one operation of a region.
-/
namespace Go.VS

section ops
variable {P : Program} {C : Ctx} {X : CallRel} {w : World} {H : Heap} {φ : Phi} {A : Avoid}

theorem run_callFunc {f : FuncId} (h : Callable P f) (args : Array Value) (w : World) : (callFunc f args).run P w = .ok (.enter f args) w := by
  obtain ⟨fn, h1, h2, h3⟩ := h
  have h2' : fn.name ≠ "runtime.NumGoroutine" := by simpa using h2
  have h3' : fn.body ≠ none := by intro e; rw [e] at h3; simp at h3
  simp [callFunc, h1, h2', h3']

theorem run_call {o : Oper} {ρ : Operand → Value} {x : Operand} {args : Array Operand} {tys : Array TypeId} (ho : o.op = .call { callee := .value x, args, argTypes := tys }) {g : FuncId} {caps : Array Value} (hx : ρ x = .func (.func g) #[] caps) (hc : Callable P g) :
    (execOp ρ o).run P w = .ok (.enter g (args.map ρ ++ caps)) w := by
  simp [execOp, ho, resolve, hx, Deferred.ofValue, invoke, run_callFunc hc]

theorem run_builtin {o : Oper} {ρ : Operand → Value} {b : Builtin} {args : Array Operand} {tys : Array TypeId} (ho : o.op = .call { callee := .builtin b, args, argTypes := tys }) :
    ∃ consts, (execOp ρ o).run P w = (builtin b tys o.type consts (args.map ρ)).run P w :=
  ⟨_, by simp only [execOp, ho, resolve, invoke, Sem.run_bind, Sem.run_pure, Result.andThen_ok]; rfl⟩

theorem MRes.upon {H' : Heap} {r : Result Next} {x : AV} (h : MRes w H φ A H' r x) {o : Oper} {a : Act} {next : Act → World → Prop} {Q : Exit → Act → World → Prop}
    (hn : ∀ v w' φ' A', Out w H φ A w' H' φ' A' → R w' H' φ' A' x v → next (a.put o.dst v) w') : o.upon P a next Q r := by
  obtain ⟨n, v, w', φ', A', rfl, hv, hr, ho⟩ := h
  rcases hv with rfl | ⟨rfl, rfl⟩
  · exact hn v w' φ' A' ho hr
  · exact hn _ w' φ' A' ho hr

theorem opSim (hE : ∀ t ti, C.E t = some ti → TyOK P t ti) (hX : ∀ f ys H K, X f ys H K → Sim P f ys H K) (hst : St w H φ A) {o : Oper} {s : Frm} {a : Act} (hs : ∀ x ∈ o.op.operands, R w H φ A (ev s x) (a.eval x)) {th : Bool} {K : AV → Heap → Prop} (h : wpOp X C false th o s H K)
    {next : Act → World → Prop} {Q : Exit → Act → World → Prop} (hn : ∀ x v w' H' φ' A', Out w H φ A w' H' φ' A' → R w' H' φ' A' x v → K x H' → next (a.put o.dst v) w') : o.wp P a w next Q := by
  have hany : ∀ (hh : (match evalOp C.E o.op s H with | some (v, H') => K v H' | none => False)), o.wp P a w next Q := by
    intro hh
    split at hh
    · rename_i v H' he
      exact (simOp hE hst hs he).upon (fun u w' φ' A' h1 h2 => hn v u w' H' φ' A' h1 h2 hh)
    · exact hh.elim
  unfold wpOp at h
  split at h
  · rename_i b args tys hop
    obtain ⟨_, h⟩ := h
    split at h
    · rename_i v H' he
      obtain ⟨consts, hrun⟩ := run_builtin (P := P) (w := w) (ρ := a.eval) hop
      have := simBuiltin hE hst (ty := o.type) (consts := consts) (vs := args.map a.eval) (by simp) (fun i x u hx hu => by
        simp only [List.getElem?_map, Option.map_eq_some_iff] at hx
        obtain ⟨y, hy, rfl⟩ := hx
        simp only [Array.getElem?_map, Option.map_eq_some_iff] at hu
        obtain ⟨y', hy', rfl⟩ := hu
        have : y' = y := by simp at hy; rw [hy] at hy'; simpa using hy'.symm
        subst this
        exact hs y' (by rw [hop]; simp only [Op.operands, Call.operands]; simp [Array.mem_of_getElem? hy'])) he
      rw [← hrun] at this
      exact this.upon (fun u w' φ' A' h1 h2 => hn v u w' H' φ' A' h1 h2 h)
    · exact h.elim
  · rename_i x args tys hop
    split at h
    · rename_i g caps hg
      simp only [Bool.false_eq_true, if_false] at h
      have hx := hs x (by rw [hop]; simp [Op.operands, Call.operands])
      rw [hg] at hx
      obtain ⟨vs, hv, hl, hp⟩ := hx.fn_inv
      have hargs : ∀ (i : Nat) (y : AV) (u : Value), (args.toList.map (ev s) ++ caps)[i]? = some y → (args.map a.eval ++ vs)[i]? = some u → R w H φ A y u := fun i y u hy hu => by
        rcases Nat.lt_or_ge i args.size with hi | hi
        · rw [List.getElem?_append_left (by simpa using hi)] at hy
          rw [Array.getElem?_append_left (by simpa using hi)] at hu
          simp only [List.getElem?_map, Option.map_eq_some_iff] at hy
          obtain ⟨z, hz, rfl⟩ := hy
          simp only [Array.getElem?_map, Option.map_eq_some_iff] at hu
          obtain ⟨z', hz', rfl⟩ := hu
          have : z' = z := by simp at hz; rw [hz] at hz'; simpa using hz'.symm
          subst this
          exact hs z' (by rw [hop]; simp only [Op.operands, Call.operands]; simp [Array.mem_of_getElem? hz'])
        · rw [List.getElem?_append_right (by simpa using hi)] at hy
          rw [Array.getElem?_append_right (by simpa using hi)] at hu
          exact hp _ y u (by simpa using hy) (by simpa using hu)
      have hc : Callable P g ∧ Calls P g (args.map a.eval ++ vs) w (CRes w H φ A K) := by
        rcases h with h | h
        · exact ⟨(hX _ _ _ _ h).1, (hX _ _ _ _ h).2 w A φ (args.map a.eval ++ vs) hst (by simp [hl]) hargs⟩
        · exact callSimQ hX hst (us := args.map a.eval ++ vs) (by simp [hl]) hargs h
      unfold Oper.wp
      rw [run_call hop hv hc.1, Oper.upon_enter]
      refine hc.2.mono fun e w' he => ?_
      cases e with
      | returned v' =>
        obtain ⟨x', H', φ', A', h1, h2, h3⟩ := he
        exact hn x' v' w' H' φ' A' h1 h2 h3
      | panicked c => exact he.elim
      | outgrown => exact he.elim
    · exact h.elim
  · exact hany h.2
end ops
end Go.VS

/-
  VS, part 31: the code.
-/
namespace Go.VS

structure PermOK (π : List Nat) (ops : Array Oper) : Prop where
  len : π.length = ops.size
  nodup : π.Nodup
  lt : ∀ i ∈ π, i < ops.size
  mem : ∀ i, i < ops.size → i ∈ π
  aft : ∀ (i : Nat) (o : Oper), ops[i]? = some o → ∀ e ∈ o.after.toList, Region.binds .any e = true → e.on < ops.size
  grd : ∀ (i : Nat) (o : Oper) (j : Nat) (b : Bool), ops[i]? = some o → o.guard = some (j, b) → j < ops.size
theorem permOK_ok {π : List Nat} {ops : Array Oper} (h : permOK π ops = true) : PermOK π ops := by
  simp only [permOK, Bool.and_eq_true, beq_iff_eq, List.all_eq_true, decide_eq_true_eq, List.mem_range, List.contains_iff_mem] at h
  obtain ⟨⟨⟨⟨h1, h0⟩, h2⟩, h3⟩, h4⟩ := h
  refine ⟨h1, h0, h2, h3, fun i o ho e he hb => ?_, fun i o j b ho hg => ?_⟩
  · have := (h4 o (by rw [← Array.getElem?_toList] at ho; exact List.mem_of_getElem? ho)).1
    rw [Array.all_eq_true_iff_forall_mem] at this
    have := this e (by simpa using he)
    rw [hb] at this
    simpa using this
  · have := (h4 o (by rw [← Array.getElem?_toList] at ho; exact List.mem_of_getElem? ho)).2
    rw [hg] at this
    simpa using this

section
variable {π : List Nat} {ops : Array Oper} (hp : PermOK π ops)
include hp
theorem PermOK.at_ {k : Nat} (hk : k < π.length) : ∃ o, ops[π[k]]? = some o ∧ (permOps π ops)[k]? = some (permOper π o) := by
  have := hp.lt _ (List.getElem_mem hk)
  refine ⟨ops[π[k]], by simp [this], ?_⟩
  unfold permOps permL
  rw [List.getElem?_toArray, List.getElem?_map, List.getElem?_eq_getElem hk]
  simp [List.getD, this]
theorem PermOK.size : (permOps π ops).size = ops.size := by
  simp [permOps, permL, hp.len]
theorem PermOK.ren {i : Nat} (hi : i < ops.size) : renum π i < π.length ∧ π[renum π i]? = some i := by
  have := hp.mem i hi
  unfold renum
  have h := List.idxOf_lt_length_of_mem this
  exact ⟨h, by rw [List.getElem?_eq_getElem h, List.getElem_idxOf]⟩
theorem PermOK.get {i : Nat} {o : Oper} (ho : ops[i]? = some o) : (permOps π ops)[renum π i]? = some (permOper π o) := by
  have hi : i < ops.size := (Array.getElem?_eq_some_iff.1 ho).1
  obtain ⟨h1, h2⟩ := hp.ren hi
  obtain ⟨o', h3, h4⟩ := hp.at_ h1
  have : π[renum π i] = i := by rw [List.getElem?_eq_getElem h1] at h2; simpa using h2
  rw [this, ho] at h3
  simp only [Option.some.injEq] at h3
  subst h3
  exact h4

/-- What is listed, in both numberings. -/
def PL (π : List Nat) (n : Nat) (l l' : Array Bool) : Prop := l.size = n ∧ l'.size = n ∧ ∀ i, i < n → l'[renum π i]? = l[i]?
theorem PL.set {l l' : Array Bool} (h : PL π ops.size l l') {i : Nat} (hi : i < ops.size) : PL π ops.size (l.setIfInBounds i true) (l'.setIfInBounds (renum π i) true) := by
  obtain ⟨h1, h2, h3⟩ := h
  refine ⟨by simp [h1], by simp [h2], fun j hj => ?_⟩
  obtain ⟨ri1, ri2⟩ := hp.ren hi
  obtain ⟨rj1, rj2⟩ := hp.ren hj
  rw [Array.getElem?_setIfInBounds, Array.getElem?_setIfInBounds]
  by_cases e : i = j
  · subst e
    rw [if_pos rfl, if_pos rfl, if_pos (by rw [h2, ← hp.len]; exact ri1), if_pos (by rw [h1]; exact hi)]
  · have : ¬ renum π i = renum π j := by
      intro e2
      rw [e2, rj2] at ri2
      simp at ri2
      exact e ri2.symm
    rw [if_neg this, if_neg e]
    exact h3 j hj
omit hp in
theorem PL.getD {l l' : Array Bool} (h : PL π ops.size l l') {i : Nat} (hi : i < ops.size) (b : Bool) : l'.getD (renum π i) b = l.getD i b := by
  have := h.2.2 i hi
  rw [Array.getD_eq_getD_getElem?, Array.getD_eq_getD_getElem?, this]
theorem ready_perm {l l' : Array Bool} (h : PL π ops.size l l') {i : Nat} (hi : i ∈ Region.ready .any ops l) : i < ops.size ∧ renum π i ∈ Region.ready .any (permOps π ops) l' := by
  unfold Region.ready at hi ⊢
  simp only [List.mem_filter, List.mem_range, Bool.and_eq_true] at hi ⊢
  obtain ⟨h1, h2, h3⟩ := hi
  have ho : ops[i]? = some ops[i] := by simp [h1]
  obtain ⟨r1, r2⟩ := hp.ren h1
  refine ⟨h1, by rw [hp.size, ← hp.len]; exact r1, by rw [h.getD h1]; exact h2, ?_⟩
  rw [hp.get ho]
  rw [ho] at h3
  simp only [Option.map_some, Option.getD_some, Array.all_eq_true_iff_forall_mem] at h3 ⊢
  intro e he
  simp only [permOper, List.mem_toArray, List.mem_filterMap] at he
  obtain ⟨e0, he0, he1⟩ := he
  split at he1
  · rename_i hb
    simp only [Option.some.injEq] at he1
    subst he1
    have := h3 e0 (by simpa using he0)
    rw [hb] at this
    simp only [Bool.not_true, Bool.false_or] at this
    rw [h.getD (hp.aft i _ ho e0 he0 hb)]
    simp [this]
  · simp at he1
theorem wanted_perm {i : Nat} {o : Oper} (ho : ops[i]? = some o) (t : Array Value) : Region.wanted (permOper π o) (yielded (permOps π ops) t) = Region.wanted o (yielded ops t) := by
  unfold Region.wanted permOper
  simp only
  cases hg : o.guard with
  | none => rfl
  | some p =>
    obtain ⟨j, b⟩ := p
    have hj := hp.grd i o j b ho hg
    simp only [Option.map_some]
    congr 1
    unfold yielded
    have hoj : ops[j]? = some ops[j] := by simp [hj]
    rw [hp.get hoj, hoj]
    rfl
omit hp in
theorem execOp_perm (ρ : Operand → Value) (o : Oper) : execOp ρ (permOper π o) = execOp ρ o := by
  cases o; rfl
theorem wpOp_perm {P : Program} {Q : Exit → Act → World → Prop} {i : Nat} {o : Oper} (ho : ops[i]? = some o) {K K' : Act → World → Prop} (hK : ∀ a w, K' a w → K a w) {a : Act} {w : World} (h : Go.wpOp P (permOps π ops) Q (renum π i) K' a w) : Go.wpOp P ops Q i K a w := by
  unfold Go.wpOp at h ⊢
  rw [hp.get ho] at h
  rw [ho]
  simp only at h ⊢
  rw [wanted_perm hp ho] at h
  split at h
  · rename_i hw
    rw [if_pos hw]
    rcases h with h | ⟨h1, h2⟩
    · refine .inl (Oper.wp_mono hK ?_)
      unfold Oper.wp at h ⊢
      rw [execOp_perm] at h
      exact h
    · refine .inr ⟨?_, h2⟩
      unfold Oper.asks at h1 ⊢
      rw [execOp_perm] at h1
      exact h1
  · rename_i hw
    rw [if_neg hw]
    exact hK _ _ h
theorem ready_back {l l' : Array Bool} (h : PL π ops.size l l') {k : Nat} (hk : k ∈ Region.ready .any (permOps π ops) l') : ∃ i, i ∈ Region.ready .any ops l := by
  unfold Region.ready at hk ⊢
  simp only [List.mem_filter, List.mem_range, Bool.and_eq_true] at hk
  obtain ⟨h1, h2, h3⟩ := hk
  rw [hp.size, ← hp.len] at h1
  obtain ⟨o, ho, hok⟩ := hp.at_ h1
  have hi := hp.lt _ (List.getElem_mem h1)
  have hr : renum π π[k] = k := by
    obtain ⟨r1, r2⟩ := hp.ren hi
    rw [List.getElem?_eq_getElem r1] at r2
    simp only [Option.some.injEq] at r2
    exact (List.getElem_inj hp.nodup).1 r2
  refine ⟨π[k], ?_⟩
  simp only [List.mem_filter, List.mem_range, Bool.and_eq_true]
  refine ⟨hi, by rw [← h.getD hi, hr]; exact h2, ?_⟩
  rw [hok] at h3
  rw [ho]
  simp only [Option.map_some, Option.getD_some, Array.all_eq_true_iff_forall_mem] at h3 ⊢
  intro e he
  by_cases hb : Region.binds .any e = true
  · have hl := hp.aft _ o ho e (by simpa using he) hb
    have := h3 { e with on := renum π e.on } (by
      simp only [permOper, List.mem_toArray, List.mem_filterMap]
      exact ⟨e, by simpa using he, by rw [if_pos hb]⟩)
    have hb' : Region.binds .any { e with on := renum π e.on } = true := hb
    rw [hb'] at this
    simp only [Bool.not_true, Bool.false_or] at this
    rw [h.getD hl] at this
    simp [this]
  · simp [hb]
theorem wpAny_perm {P : Program} {Q : Exit → Act → World → Prop} : ∀ (n : Nat) (l l' : Array Bool) (a : Act) (w : World), PL π ops.size l l' → wpAny P .any (permOps π ops) Q n l' a w → wpAny P .any ops Q n l a w
  | 0, l, l', a, w, hl, h => by
    simp only [wpAny] at h ⊢
    refine ⟨?_, h.2⟩
    rw [List.eq_nil_iff_forall_not_mem]
    intro i hi
    have := (ready_perm hp hl hi).2
    rw [h.1] at this
    simp at this
  | n + 1, l, l', a, w, hl, h => by
    simp only [wpAny] at h ⊢
    refine ⟨fun he => h.1 ?_, fun i hi => ?_⟩
    · rw [List.eq_nil_iff_forall_not_mem]
      intro k hk
      obtain ⟨i, hi⟩ := ready_back hp hl hk
      rw [he] at hi
      simp at hi
    · obtain ⟨h1, h2⟩ := ready_perm hp hl hi
      have ho : ops[i]? = some ops[i] := by simp [h1]
      exact wpOp_perm hp ho (fun a w hh => wpAny_perm n _ _ a w (hl.set hp h1) hh) (h.2 _ h2)
/-- An open region may be looked at in another order of its text. -/
theorem region_perm {P : Program} {Q : Exit → Act → World → Prop} {a : Act} {w : World} (h : wpAny P .any (permOps π ops) Q (permOps π ops).size (Array.replicate (permOps π ops).size false) a w) : wpAny P .any ops Q ops.size (Array.replicate ops.size false) a w := by
  rw [hp.size] at h
  refine wpAny_perm hp _ _ _ a w ⟨by simp, by simp, fun i hi => ?_⟩ h
  obtain ⟨r1, _⟩ := hp.ren hi
  rw [hp.len] at r1
  simp [hi, r1]
end

theorem SF.kill {w : World} {H : Heap} {φ : Phi} {A : Avoid} {s : Frm} {a : Act} (h : SF w H φ A s a) (l : List Nat) : SF w H φ A (killF l s) a := by
  have key : ∀ (s : Frm) (i : Nat), (killF.go l i s).length = s.length ∧ ∀ (t : Nat) (x : AV), (killF.go l i s)[t]? = some x → x = .undef ∨ s[t]? = some x := by
    intro s
    induction s with
    | nil => intro i; simp [killF.go]
    | cons y s ih =>
      intro i
      obtain ⟨h1, h2⟩ := ih (i + 1)
      refine ⟨by simp [killF.go, h1], fun t x hx => ?_⟩
      cases t with
      | zero =>
        simp only [killF.go, List.getElem?_cons_zero, Option.some.injEq] at hx
        split at hx
        · exact .inr (by simp [hx])
        · exact .inl hx.symm
      | succ t => simp only [killF.go, List.getElem?_cons_succ] at hx ⊢; exact h2 t x hx
  obtain ⟨h1, h2⟩ := key s 0
  refine ⟨h1.trans h.len, fun t x v hx hv => ?_, h.dfr⟩
  rcases h2 t x hx with rfl | hx
  · exact .fr _ _ (.undef _)
  · exact h.val t x v hx hv

theorem trimOut {w : World} {H : Heap} {φ : Phi} {A : Avoid} (hst : St w H φ A) (n : Nat) : Out w H φ A w (H.trim n) (restr φ (H.trim n)) A := by
  have hg : ∀ id b, (H.trim n).get id = some b → H.get id = some b := by
    intro id b h
    unfold Heap.trim Heap.get at h
    unfold Heap.get
    simp only [List.getElem?_take] at h
    split at h
    · exact h
    · simp at h
  have hevo : Evo w H φ A w (H.trim n) (restr φ (H.trim n)) A :=
    ⟨fun c arr T fr hc hn => ⟨⟨fr, hc⟩, hn⟩, Nat.le_refl _, fun id b hb _ => ⟨b, hg id b hb, rfl, rfl, rfl, rfl, fun loc hl => by simp [restr, hb, hl]⟩, fun _ _ => rfl⟩
  refine ⟨⟨fun i i' c b b' h h' => hst.inj _ _ _ _ _ (restr_some h).1 (restr_some h').1, fun c hc => hst.own c (restr_ow hc), hst.bnd, fun id loc h => ?_⟩, ⟨rfl, rfl, rfl, Nat.le_refl _, fun _ _ _ => rfl, fun _ _ => rfl, fun c hc => .inl (restr_ow hc)⟩, hevo, fun c hc _ => hc⟩
  obtain ⟨h1, b, hb⟩ := restr_some h
  obtain ⟨b', hb', hok⟩ := hst.blk id loc h1
  rw [hg id b hb] at hb'
  simp only [Option.some.injEq] at hb'; subst hb'
  refine ⟨b, hb, hok.ver, hok.sized, hok.virt, fun c b0 he => ?_⟩
  obtain ⟨arr, T, fr, k1, k2, k3, k4⟩ := hok.here c b0 he
  exact ⟨arr, T, fr, k1, k2, k3, fun i x j y v hx hy hv => ⟨(k4 i x j y v hx hy hv).1.mono hevo, (k4 i x j y v hx hy hv).2⟩⟩

def exOf : Ex → Exit
  | .normal => .normal
  | .exit id => .exit id
  | .ret => .ret

theorem sameRef_eq {x y : AV} (h : sameRef x y = true) : x = y := by
  unfold sameRef at h
  split at h
  · simp only [Bool.and_eq_true, beq_iff_eq] at h; obtain ⟨⟨⟨rfl, rfl⟩, rfl⟩, rfl⟩ := h; rfl
  · rfl
  · rfl
  · simp at h

theorem frzOne {w : World} {H : Heap} {φ : Phi} {A : Avoid} {s : Frm} {a : Act} (hst : St w H φ A) (hs : SF w H φ A s a) {t : Nat} {ts : List Nat} {sh : List Sh} {y : AV} {H1 : Heap} (h : takeE sh (s.getD t .undef) H = some (y, H1)) :
    Out w H φ A w H1 (restr φ H1) (gone φ A H1) ∧ SF w H1 (restr φ H1) (gone φ A H1) (setSame (s.getD t .undef) (frzV y) ts (s.set t (frzV y))) a := by
  have hl := takeE_less _ _ _ _ _ h
  have hevo : Evo w H φ A w H1 (restr φ H1) (gone φ A H1) := by
    have e := lessEvo (w := w) (φ := φ) (A := A) hl
    exact ⟨fun c arr T fr hc hn => ⟨(e.fz c arr T fr hc hn).1, fun h2 => hn h2.1⟩, e.st, e.ids, e.sz⟩
  refine ⟨⟨(lessSt hst hl).shrink (fun c hc => hc.1) (fun c hc => ⟨hst.own c (restr_ow hc), fun _ => hc⟩), ⟨rfl, rfl, rfl, Nat.le_refl _, fun _ _ _ => rfl, fun _ _ => rfl, fun c hc => .inl (restr_ow hc)⟩, hevo, fun c hc hn => ⟨hc, fun ho => absurd ho hn⟩⟩, ?_⟩
  have hs1 := hs.mono hevo
  -- each slot with the same value
  have one : ∀ (k : Nat) (v : Value), s.getD k .undef = s.getD t .undef → a.tmps[k]? = some v → R w H1 (restr φ H1) (gone φ A H1) (frzV y) v := by
    intro k v hk hv
    have hr := hs.ev (.tmp k)
    simp only [ev, Act.eval] at hr
    rw [Array.getD_eq_getD_getElem?, hv, hk] at hr
    exact .fr _ _ (frzWhole hst hr h (fun c hc => hc))
  have base : SF w H1 (restr φ H1) (gone φ A H1) (s.set t (frzV y)) a ∧ ∀ k, (s.set t (frzV y)).getD k .undef = frzV y ∨ (s.set t (frzV y)).getD k .undef = s.getD k .undef := by
    refine ⟨⟨by simpa using hs1.len, fun k x v hx hv => ?_, hs1.dfr⟩, fun k => ?_⟩
    · rw [List.getElem?_set] at hx
      split at hx
      · rename_i hk
        subst hk
        split at hx
        · simp only [Option.some.injEq] at hx; subst hx
          exact one t v rfl hv
        · simp at hx
      · exact hs1.val k x v hx hv
    · simp only [List.getD_eq_getElem?_getD, List.getElem?_set]
      split
      · rename_i hk; subst hk
        split
        · exact .inl rfl
        · rename_i hlt
          right
          rw [List.getElem?_eq_none (by omega)]
      · exact .inr rfl
  have gen : ∀ (ts : List Nat) (s' : Frm), SF w H1 (restr φ H1) (gone φ A H1) s' a → (∀ k, sameRef (s'.getD k .undef) (s.getD t .undef) = true → s.getD k .undef = s.getD t .undef ∨ frzV y = s.getD t .undef) → SF w H1 (restr φ H1) (gone φ A H1) (setSame (s.getD t .undef) (frzV y) ts s') a := by
    intro ts
    induction ts with
    | nil => intro s' h _; exact h
    | cons k ks ih =>
      intro s' h1 h2
      simp only [setSame]
      split
      · rename_i hsame
        have hval : ∀ v, a.tmps[k]? = some v → R w H1 (restr φ H1) (gone φ A H1) (frzV y) v := by
          intro v hv
          rcases h2 k hsame with e | e
          · exact one k v e hv
          · have := h1.ev (.tmp k)
            simp only [ev, Act.eval] at this
            rw [Array.getD_eq_getD_getElem?, hv, sameRef_eq hsame, ← e] at this
            exact this
        refine ih _ ⟨by simpa using h1.len, fun m x v hx hv => ?_, h1.dfr⟩ (fun m hm => ?_)
        · rw [List.getElem?_set] at hx
          split at hx
          · rename_i hk; subst hk
            split at hx
            · simp only [Option.some.injEq] at hx; subst hx; exact hval v hv
            · simp at hx
          · exact h1.val m x v hx hv
        · simp only [List.getD_eq_getElem?_getD, List.getElem?_set] at hm
          split at hm
          · split at hm
            · exact .inr (sameRef_eq hm)
            · rename_i hk hlt
              refine h2 m ?_
              subst hk
              rw [List.getD_eq_getElem?_getD, List.getElem?_eq_none (by omega)]
              exact hm
          · exact h2 m (by rw [List.getD_eq_getElem?_getD]; exact hm)
      · exact ih s' h1 h2
  refine gen ts _ base.1 fun k hk => ?_
  rcases base.2 k with e | e
  · rw [e] at hk; exact .inr (sameRef_eq hk)
  · rw [e] at hk; exact .inl (sameRef_eq hk)

theorem wk1_ok {w : World} {H : Heap} {φ : Phi} {A : Avoid} {x : AV} {v : Value} (h : R w H φ A x v) : R w H φ A (wk1 x) v := by
  cases x with
  | nil => have := h.nil_inv; subst this; exact .fr _ _ (.fz0 none 0)
  | e0 => obtain ⟨a, rfl⟩ := h.e0_inv; exact .fr _ _ (.fz0 a 0)
  | _ => exact h
theorem wkA_ok {w : World} {H : Heap} {φ : Phi} {A : Avoid} {x : AV} {v : Value} (h : R w H φ A x v) : R w H φ A (wkA x) v := by
  cases x with
  | agg cs =>
    obtain ⟨vs, rfl, h1, h2, h3⟩ := h.agg_inv
    refine .agg _ _ (by simpa using h1) h2 fun i x v hx hv => ?_
    simp only [List.getElem?_map, Option.map_eq_some_iff] at hx
    obtain ⟨y, hy, rfl⟩ := hx
    exact wk1_ok (h3 i y v hy hv)
  | _ => exact wk1_ok h
theorem wkSlot_ok {w : World} {H : Heap} {φ : Phi} {A : Avoid} {s : Frm} {a : Act} (t : Nat) (hst : St w H φ A) (hs : SF w H φ A s a) : ∃ φ' A', Out w H φ A w (wkSlot t s H).2 φ' A' ∧ SF w (wkSlot t s H).2 φ' A' (wkSlot t s H).1 a := by
  have plain : ∀ v, s.getD t .undef = v → SF w H φ A (s.set t (wkA v)) a := by
    intro v hv
    refine ⟨by simpa using hs.len, fun k x u hx hu => ?_, hs.dfr⟩
    rw [List.getElem?_set] at hx
    split at hx
    · rename_i hk; subst hk
      split at hx
      · simp only [Option.some.injEq] at hx; subst hx
        have hr := hs.ev (.tmp t)
        simp only [ev, Act.eval] at hr
        rw [Array.getD_eq_getD_getElem?, hu, hv] at hr
        exact wkA_ok hr
      · simp at hx
    · exact hs.val k x u hx hu
  have key : ∀ v, s.getD t .undef = v → ∃ φ' A', Out w H φ A w (match v with
      | .ref id ver _ _ => match H.blk id ver with
        | some b => (s, H.upd id { b with el := b.el.map wkA })
        | none => (s, H)
      | v => (s.set t (wkA v), H)).2 φ' A' ∧ SF w (match v with
      | .ref id ver _ _ => match H.blk id ver with
        | some b => (s, H.upd id { b with el := b.el.map wkA })
        | none => (s, H)
      | v => (s.set t (wkA v), H)).2 φ' A' (match v with
      | .ref id ver _ _ => match H.blk id ver with
        | some b => (s, H.upd id { b with el := b.el.map wkA })
        | none => (s, H)
      | v => (s.set t (wkA v), H)).1 a := by
    intro v hv
    cases v with
    | ref id ver off len =>
      simp only
      cases hb : H.blk id ver with
      | none => exact ⟨φ, A, .refl hst, hs⟩
      | some b =>
        simp only
        have hg := (Heap.blk_get hb).1
        have hlt := Heap.get_lt hg
        have hget : ∀ k, (H.upd id { b with el := b.el.map wkA }).get k = if k = id then some { b with el := b.el.map wkA } else H.get k := by
          intro k
          simp only [Heap.get, Heap.upd, List.getElem?_set]
          by_cases h : id = k
          · subst h; simp [hlt]
          · have h' : ¬ k = id := fun e => h e.symm
            simp [h, h']
        have hevo : Evo w H φ A w (H.upd id { b with el := b.el.map wkA }) φ A := by
          refine ⟨fun c arr T fr hc hn => ⟨⟨fr, hc⟩, hn⟩, Nat.le_refl _, fun k b' hk _ => ?_, fun _ _ => rfl⟩
          rw [hget] at hk
          split at hk
          · rename_i e; subst e
            simp only [Option.some.injEq] at hk; subst hk
            exact ⟨b, hg, rfl, rfl, rfl, by simp, fun _ h => h⟩
          · exact ⟨b', hk, rfl, rfl, rfl, rfl, fun _ h => h⟩
        have hst' : St w (H.upd id { b with el := b.el.map wkA }) φ A := by
          refine ⟨hst.inj, hst.own, hst.bnd, fun k loc hk => ?_⟩
          obtain ⟨b0, hb0, hok⟩ := hst.blk k loc hk
          by_cases h : k = id
          · subst h
            rw [hg] at hb0
            simp only [Option.some.injEq] at hb0; subst hb0
            refine ⟨{ b with el := b.el.map wkA }, by rw [hget, if_pos rfl], hok.ver, fun i x hx => ?_, fun h => by simp [hok.virt h], fun c b0 he => ?_⟩
            · simp only [List.getElem?_map, Option.map_eq_some_iff] at hx
              obtain ⟨y, hy, rfl⟩ := hx
              rw [wkA_cells, List.length_map]; exact hok.sized i y hy
            · obtain ⟨arr, T, fr, k1, k2, k3, k4⟩ := hok.here c b0 he
              refine ⟨arr, T, fr, k1, k2, by simpa using k3, fun i x j y v hx hy hv => ?_⟩
              simp only [List.getElem?_map, Option.map_eq_some_iff] at hx
              obtain ⟨x', hx', rfl⟩ := hx
              rw [wkA_cells] at hy
              simp only [List.getElem?_map, Option.map_eq_some_iff] at hy
              obtain ⟨y', hy', rfl⟩ := hy
              have := k4 i x' j y' v hx' hy' hv
              exact ⟨wk1_ok (this.1.mono hevo), this.2⟩
          · refine ⟨b0, by rw [hget, if_neg h]; exact hb0, hok.ver, hok.sized, hok.virt, fun c b1 he => ?_⟩
            obtain ⟨arr, T, fr, k1, k2, k3, k4⟩ := hok.here c b1 he
            exact ⟨arr, T, fr, k1, k2, k3, fun i x j y v hx hy hv => ⟨(k4 i x j y v hx hy hv).1.mono hevo, (k4 i x j y v hx hy hv).2⟩⟩
        exact ⟨φ, A, ⟨hst', .refl _ _, hevo, fun c hc _ => hc⟩, hs.mono hevo⟩
    | _ => exact ⟨φ, A, .refl hst, plain _ hv⟩
  unfold wkSlot
  exact key _ rfl

theorem frzSlots_ok {w : World} {a : Act} : ∀ (l : List (List Nat × List Sh)) {H : Heap} {φ : Phi} {A : Avoid} {s s' : Frm} {H' : Heap}, St w H φ A → SF w H φ A s a → frzSlots l s H = some (s', H') →
    ∃ φ' A', Out w H φ A w H' φ' A' ∧ SF w H' φ' A' s' a
  | [], H, φ, A, s, s', H', hst, hs, h => by
    simp only [frzSlots, Option.some.injEq, Prod.mk.injEq] at h
    obtain ⟨rfl, rfl⟩ := h
    exact ⟨φ, A, .refl hst, hs⟩
  | ([], sh) :: l, H, φ, A, s, s', H', hst, hs, h => by simp [frzSlots] at h
  | (t :: ts, []) :: l, H, φ, A, s, s', H', hst, hs, h => by
    simp only [frzSlots] at h
    obtain ⟨φ1, A1, h1, h2⟩ := wkSlot_ok t hst hs
    obtain ⟨φ', A', h3, h4⟩ := frzSlots_ok l h1.st h2 h
    exact ⟨φ', A', h1.trans hst h3, h4⟩
  | (t :: ts, e :: sh) :: l, H, φ, A, s, s', H', hst, hs, h => by
    simp only [frzSlots] at h
    split at h
    · rename_i y H1 hy
      obtain ⟨h1, h2⟩ := frzOne (ts := ts) hst hs hy
      obtain ⟨φ', A', h3, h4⟩ := frzSlots_ok l h1.st h2 h
      exact ⟨φ', A', h1.trans hst h3, h4⟩
    · simp at h

section code
variable {P : Program} {C : Ctx} {X : CallRel}

/-- What holds where a piece of code may end. -/
def Ends (Q : Exit → Act → World → Prop) (K : Ex → Frm → Heap → Prop) (w : World) (H : Heap) (φ : Phi) (A : Avoid) : Prop :=
  ∀ e s' H' φ' A' a' w', Out w H φ A w' H' φ' A' → SF w' H' φ' A' s' a' → K e s' H' → Q (exOf e) a' w'

theorem guard_wanted {w : World} {H : Heap} {φ : Phi} {A : Avoid} {s : Frm} {a : Act} {ops : Array Oper} {o : Oper} {b : Bool} (hs : ∀ j want t, o.guard = some (j, want) → (ops[j]?).bind (·.dst) = some t → R w H φ A (ev s (.tmp t)) (a.eval (.tmp t))) (h : guardA ops o s = some b) : Region.wanted o (yielded ops a.tmps) = b := by
  unfold guardA at h
  unfold Region.wanted
  cases hg : o.guard with
  | none => rw [hg] at h; simp at h; subst h; simp
  | some p =>
    obtain ⟨j, want⟩ := p
    rw [hg] at h
    simp only at h ⊢
    split at h
    · rename_i t ht
      have hv := hs j want t hg ht
      simp only [ev, Act.eval] at hv
      split at h
      · rename_i c hc
        rw [hc] at hv
        simp only [Option.some.injEq] at h; subst h
        have := hv.bool_inv
        have hy : yielded ops a.tmps j = some c := by
          unfold yielded
          rw [ht]
          simp only [Option.bind_some]
          rw [Array.getD_eq_getD_getElem?] at this
          cases hq : a.tmps[t]? with
          | none => rw [hq] at this; simp [undef] at this
          | some v => rw [hq] at this; simp at this; subst this; rfl
        rw [hy]
        cases c <;> cases want <;> rfl
      · rename_i cs hc
        rw [hc] at hv
        simp only [Option.some.injEq] at h; subst h
        obtain ⟨vs, hv', _⟩ := hv.tup_inv
        have hy : yielded ops a.tmps j = none := by
          unfold yielded
          rw [ht]
          simp only [Option.bind_some]
          rw [Array.getD_eq_getD_getElem?] at hv'
          cases hq : a.tmps[t]? with
          | none => rfl
          | some v => rw [hq] at hv'; simp at hv'; subst hv'; rfl
        rw [hy]
        cases want <;> rfl
      · simp at h
    · simp at h

theorem listSim (hE : ∀ t ti, C.E t = some ti → TyOK P t ti) (hX : ∀ f ys H K, X f ys H K → Sim P f ys H K) {ops : Array Oper} {th : List Nat} {fz : List (Nat × List (List Nat × List Sh))} {K : Frm → Heap → Prop} {Q : Exit → Act → World → Prop} :
    ∀ (l : List Oper) (i : Nat) (s : Frm) (H : Heap) (w : World) (φ : Phi) (A : Avoid) (a : Act), wpOpsN X C ops th fz K l i s H → St w H φ A → SF w H φ A s a →
      (∀ s' H' φ' A' a' w', Out w H φ A w' H' φ' A' → SF w' H' φ' A' s' a' → K s' H' → Q .normal a' w') → wpList P ops Q l a w
  | [], i, s, H, w, φ, A, a, h, hst, hs, hq => hq s H φ A a w (.refl hst) hs h
  | o :: rest, i, s0, H0, w, φ0, A0, a, h, hst0, hs0, hq0 => by
    simp only [wpOpsN] at h
    obtain ⟨s, H, hf, h⟩ := h
    obtain ⟨φ, A, ho, hs⟩ := frzSlots_ok _ hst0 hs0 hf
    have hst := ho.st
    have hq : ∀ s' H' φ' A' a' w', Out w H φ A w' H' φ' A' → SF w' H' φ' A' s' a' → K s' H' → Q .normal a' w' := fun s' H' φ' A' a' w' k1 k2 k3 => hq0 s' H' φ' A' a' w' (ho.trans hst0 k1) k2 k3
    have next : ∀ {x : AV} {v : Value} {w' : World} {H' : Heap} {φ' : Phi} {A' : Avoid}, Out w H φ A w' H' φ' A' → R w' H' φ' A' x v → wpOpsN X C ops th fz K rest (i + 1) (setA s o.dst x) H' → wpList P ops Q rest (a.put o.dst v) w' := by
      intro x v w' H' φ' A' h1 h2 h3
      exact listSim hE hX rest (i + 1) _ H' w' φ' A' _ h3 h1.st ((hs.mono h1.evo).set o.dst h2) fun s2 H2 φ2 A2 a2 w2 k1 k2 k3 => hq s2 H2 φ2 A2 a2 w2 (h1.trans hst k1) k2 k3
    simp only [wpList]
    cases hg : o.guard with
    | none =>
      rw [hg] at h
      simp only at h
      have hw : Region.wanted o (yielded ops a.tmps) = true := by simp [Region.wanted, hg]
      rw [if_pos hw]
      exact .inl (opSim hE hX hst (fun x _ => hs.ev x) h fun x v w' H' φ' A' h1 h2 h3 => next h1 h2 h3)
    | some p =>
      rw [hg] at h
      simp only at h
      obtain ⟨v, H', h1, h2⟩ := h
      split at h1
      · rename_i b hb
        have hw := guard_wanted (fun _ _ t _ _ => hs.ev (.tmp t)) hb
        cases b with
        | true =>
          rw [if_pos hw]
          simp only [if_true] at h1
          exact .inl (opSim hE hX hst (fun x _ => hs.ev x) h1 fun x u w' H'' φ' A' k1 k2 k3 => by obtain ⟨rfl, rfl⟩ := k3; exact next k1 k2 h2)
        | false =>
          rw [if_neg (by rw [hw]; simp)]
          simp only [Bool.false_eq_true, if_false] at h1
          obtain ⟨rfl, rfl⟩ := h1
          exact next (.refl hst) (.fr _ _ (.tup [] #[] rfl (by simp))) h2
      · exact h1.elim

/-- A region whose order is open. -/
def DrawSim (P : Program) (C : Ctx) (X : CallRel) : Prop :=
  ∀ (ops : Array Oper) (louds : List Nat) (th : List Nat) (s : Frm) (H : Heap) (K : Frm → Heap → Prop) (Q : Exit → Act → World → Prop) (w : World) (φ : Phi) (A : Avoid) (a : Act), drawOK ops louds = true →
    wpOpsA X C ops (fun i => !louds.contains i) (lateOf ops louds) th K ops.toList 0 s H → St w H φ A → SF w H φ A s a → (∀ s' H' φ' A' a' w', Out w H φ A w' H' φ' A' → SF w' H' φ' A' s' a' → K s' H' → Q .normal a' w') → wpAny P .any ops Q ops.size (Array.replicate ops.size false) a { w with drawn := w.drawn + 1 }

theorem Ends.trans {Q : Exit → Act → World → Prop} {K : Ex → Frm → Heap → Prop} {w w1 : World} {H H1 : Heap} {φ φ1 : Phi} {A A1 : Avoid} (hst : St w H φ A) (h : Out w H φ A w1 H1 φ1 A1) (k : Ends Q K w H φ A) : Ends Q K w1 H1 φ1 A1 :=
  fun e s' H' φ' A' a' w' h1 h2 h3 => k e s' H' φ' A' a' w' (h.trans hst h1) h2 h3

theorem codeSim (hm : P.follows .mixedOrders = true) (hE : ∀ t ti, C.E t = some ti → TyOK P t ti) (hX : ∀ f ys H K, X f ys H K → Sim P f ys H K) (hD : DrawSim P C X) (p : FPol) :
    ∀ (c : Code) (cur : Nat) (s : Frm) (H : Heap) (K : Ex → Frm → Heap → Prop) (Q : Exit → Act → World → Prop) (w : World) (φ : Phi) (A : Avoid) (a : Act), ordsOK p c = true → wpC X C (annot p cur c) s H K → St w H φ A → SF w H φ A s a → Ends Q K w H φ A → c.wp P Q a w := by
  intro c
  induction c with
  | skip => intro cur s H K Q w φ A a ho h hst hs hq; exact wp_skip (hq .normal s H φ A a w (.refl hst) hs h)
  | ret => intro cur s H K Q w φ A a ho h hst hs hq; exact wp_ret (hq .ret s H φ A a w (.refl hst) hs h)
  | exit id => intro cur s H K Q w φ A a ho h hst hs hq; exact wp_exit (hq (.exit id) s H φ A a w (.refl hst) hs h)
  | seq x y ihx ihy =>
    intro cur s H K Q w φ A a ho h hst hs hq
    simp only [annot, wpC] at h
    simp only [ordsOK, Bool.and_eq_true] at ho
    refine wp_seq (ihx cur s H _ _ w φ A a ho.1 h hst hs fun e s' H' φ' A' a' w' h1 h2 h3 => ?_)
    cases e with
    | normal => exact ihy cur s' H' K Q w' φ' A' a' ho.2 h3 h1.st h2 (Ends.trans hst h1 hq)
    | exit id => exact hq (.exit id) s' H' φ' A' a' w' h1 h2 h3
    | ret => exact hq .ret s' H' φ' A' a' w' h1 h2 h3
  | cond x y z ihy ihz =>
    intro cur s H K Q w φ A a ho h hst hs hq
    simp only [ordsOK, Bool.and_eq_true] at ho
    have key : ∀ (K : Ex → Frm → Heap → Prop), wpC X C (.cond x (annot p cur y) (annot p cur z)) s H K → Ends Q K w H φ A → (Code.cond x y z).wp P Q a w := by
      intro K h hq
      simp only [wpC] at h
      split at h
      · rename_i t ht
        have hv := hs.ev x
        rw [ht] at hv
        refine wp_cond hv.bool_inv ?_
        cases t with
        | true => exact ihy cur s H K Q w φ A a ho.1 h hst hs hq
        | false => exact ihz cur s H K Q w φ A a ho.2 h hst hs hq
      · exact h.elim
    simp only [annot] at h
    unfold withKill at h
    split at h
    · rename_i kp _
      simp only [wpC, frzSlots] at h
      refine key _ h fun e s' H' φ' A' a' w' h1 h2 h3 => ?_
      cases e with
      | normal => exact hq .normal _ H' φ' A' a' w' h1 (h2.kill kp) h3
      | exit id => exact hq (.exit id) s' H' φ' A' a' w' h1 h2 h3
      | ret => exact hq .ret s' H' φ' A' a' w' h1 h2 h3
    · exact key K h hq
  | block id x ih =>
    intro cur s H K Q w φ A a ho h hst hs hq
    simp only [annot, wpC] at h
    have hkill : ∀ {w : World} {H : Heap} {φ : Phi} {A : Avoid} {s : Frm} {a : Act} (kp : Option (List Nat)), SF w H φ A s a → SF w H φ A (killB kp s) a := by
      intro w H φ A s a kp h
      cases kp with
      | none => exact h
      | some l => exact h.kill l
    simp only [ordsOK] at ho
    refine wp_block (ih id s H _ _ w φ A a ho h hst hs fun e s' H' φ' A' a' w' h1 h2 h3 => ?_)
    cases e with
    | normal => exact hq .normal _ H' φ' A' a' w' h1 (hkill _ h2) h3
    | exit j =>
      simp only at h3
      simp only [exOf, Exit.inBlock]
      split at h3
      · rename_i hj
        rw [if_pos hj]
        exact hq .normal _ H' φ' A' a' w' h1 (hkill _ h2) h3
      · rename_i hj
        rw [if_neg hj]
        exact hq (.exit j) s' H' φ' A' a' w' h1 h2 h3
    | ret => exact hq .ret s' H' φ' A' a' w' h1 h2 h3
  | loop c ih =>
    intro cur s H K Q w φ A a ho h hst hs hq
    simp only [annot, wpC] at h
    have hnext : ∀ {w : World} {H : Heap} {φ : Phi} {A : Avoid} {s : Frm} {a : Act} (sp : LSpec) (n : Nat), St w H φ A → SF w H φ A s a → ∃ φ1, Out w H φ A w (nextL sp n s H).2 φ1 A ∧ SF w (nextL sp n s H).2 φ1 A (nextL sp n s H).1 a := by
      intro w H φ A s a sp n h1 h2
      unfold nextL
      by_cases ht : sp.trim = true
      · have ho := trimOut h1 n
        simp only [ht, if_true]
        exact ⟨_, ho, (h2.mono ho.evo).kill _⟩
      · simp only [ht]
        exact ⟨φ, .refl h1, h2.kill _⟩
    intro b k cs
    have main := h (fun s H => ∀ (w : World) (φ : Phi) (A : Avoid) (a : Act), St w H φ A → SF w H φ A s a → Ends Q K w H φ A →
      ∀ (b : Frame) (k : List Item) (cs : List Frame), ∃ e a' w', Q e a' w' ∧ Arrives P (lone (b.at a (.code c :: .inLoop c :: k)) cs w) b k cs e a' w') (fun s H hB w φ A a hst hs hq b k cs => by
        obtain ⟨e, a1, w1, hq1, harr⟩ := ih cur s H _ (Exit.then (fun a1 w1 => ∀ (b : Frame) (k : List Item) (cs : List Frame), ∃ e a' w', Q e a' w' ∧ Arrives P (lone (b.at a1 (.code c :: .inLoop c :: k)) cs w1) b k cs e a' w') Q) w φ A a (by simpa only [ordsOK] using ho) hB hst hs (fun e s' H' φ' A' a' w' h1 h2 h3 => by
          cases e with
          | normal =>
            obtain ⟨φ1, k1, k2⟩ := hnext ((p.loops.lookup cur).getD {}) _ h1.st h2
            exact h3 w' φ1 A' a' k1.st k2 (Ends.trans hst (h1.trans hst k1) hq)
          | exit id => exact hq (.exit id) s' H' φ' A' a' w' h1 h2 h3
          | ret => exact hq .ret s' H' φ' A' a' w' h1 h2 h3) b (.inLoop c :: k) cs
        cases e with
        | normal =>
          obtain ⟨e₂, a₂, w₂, hq₂, harr₂⟩ := hq1 b k cs
          exact ⟨e₂, a₂, w₂, hq₂, .of_steps (Steps.trans harr (.one step_inLoop)) harr₂⟩
        | exit id => exact ⟨_, a1, w1, hq1, .pass (x := .inLoop c) rfl (fun _ _ => .inl (by simp)) harr⟩
        | goto l => exact ⟨_, a1, w1, hq1, .pass (x := .inLoop c) rfl (fun _ _ => .inl (by simp)) harr⟩
        | ret => exact ⟨_, a1, w1, hq1, .pass (x := .inLoop c) rfl (fun _ _ => .inl (by simp)) harr⟩
        | panic ch => exact ⟨_, a1, w1, hq1, .pass (x := .inLoop c) rfl (fun _ _ => .inl (by simp)) harr⟩
        | outgrown => exact ⟨_, a1, w1, hq1, .pass (x := .inLoop c) rfl (fun _ _ => .inl (by simp)) harr⟩)
    obtain ⟨φ1, k1, k2⟩ := hnext ((p.loops.lookup cur).getD {}) H.bs.length hst hs
    obtain ⟨e, a', w', hq', harr⟩ := main w φ1 A a k1.st k2 (Ends.trans hst k1 hq) b k cs
    exact ⟨e, a', w', hq', .of_steps (.one step_loop) harr⟩
  | region id ops draw =>
    intro cur s H K Q w φ A a ho h hst hs hq
    have key : ∀ (K : Ex → Frm → Heap → Prop), wpC X C (regOf (p.regs.lookup id) ((p.fz.lookup id).getD []) id (ordOf (p.ords.lookup id) ops) draw) s H K → Ends Q K w H φ A → (Code.region id ops draw).wp P Q a w := by
      intro K h hq
      cases draw with
      | false =>
        have hno : ordOf (p.ords.lookup id) ops = ops := by
          simp only [ordsOK] at ho
          cases hl : p.ords.lookup id with
          | none => rfl
          | some π => rw [hl] at ho; simp at ho
        rw [hno] at h
        have h' : wpOpsN X C ops (match p.regs.lookup id with | some (_, th) => th | none => []) ((p.fz.lookup id).getD []) (fun s H => K .normal s H) ops.toList 0 s H := by
          unfold regOf at h
          split at h
          · rename_i n th he; rw [he]; exact h
          · rename_i he; rw [he]; exact h
        exact wp_region_list (listSim hE hX ops.toList 0 s H w φ A a h' hst hs fun s' H' φ' A' a' w' h1 h2 h3 => hq .normal s' H' φ' A' a' w' h1 h2 h3)
      | true =>
        have h' : ∃ q th, drawOK (ordOf (p.ords.lookup id) ops) q = true ∧ wpOpsA X C (ordOf (p.ords.lookup id) ops) (fun i => !q.contains i) (lateOf (ordOf (p.ords.lookup id) ops) q) th (fun s H => K .normal s H) (ordOf (p.ords.lookup id) ops).toList 0 s H := by
          unfold regOf at h
          split at h
          · exact ⟨_, _, h.1, h.2⟩
          · exact ⟨_, _, h.1, h.2⟩
        obtain ⟨q, th, hd, h'⟩ := h'
        have hw := hD _ q th s H _ Q w φ A a hd h' hst hs fun s' H' φ' A' a' w' h1 h2 h3 => hq .normal s' H' φ' A' a' w' h1 h2 h3
        refine wp_region_any hm ?_
        simp only [ordsOK] at ho
        cases hl : p.ords.lookup id with
        | none => rw [hl] at hw; exact hw
        | some π =>
          rw [hl] at hw ho
          simp only [Bool.true_and] at ho
          exact region_perm (permOK_ok ho) hw
    simp only [annot] at h
    unfold withFrz at h
    split at h
    · rename_i l kp _
      have hkill : ∀ {w : World} {H : Heap} {φ : Phi} {A : Avoid} {s : Frm} {a : Act} (kp : Option (List Nat)), SF w H φ A s a → SF w H φ A (killB kp s) a := by
        intro w H φ A s a kp h
        cases kp with
        | none => exact h
        | some l => exact h.kill l
      simp only [wpC] at h
      refine key _ h fun e s' H' φ' A' a' w' h1 h2 h3 => ?_
      cases e with
      | normal =>
        simp only at h3
        split at h3
        · rename_i s2 H2 hf
          obtain ⟨φ2, A2, k1, k2⟩ := frzSlots_ok l h1.st h2 hf
          exact hq .normal _ H2 φ2 A2 a' w' (h1.trans hst k1) (hkill kp k2) h3
        · exact h3.elim
      | exit id => exact hq (.exit id) s' H' φ' A' a' w' h1 h2 h3
      | ret => exact hq .ret s' H' φ' A' a' w' h1 h2 h3
    · exact key K h hq
  | _ => intro cur s H K Q w φ A a ho h hst hs hq; simp only [annot, wpC] at h
end code
end Go.VS

/-
  VS, part 32: a function's body.
-/
namespace Go.VS

section body
variable {P : Program} {C : Ctx} {X : CallRel}

theorem resVals_ok (hE : ∀ t ti, C.E t = some ti → TyOK P t ti) {w : World} {H : Heap} {φ : Phi} {A : Avoid} {s : Frm} {a : Act} (hst : St w H φ A) (hs : SF w H φ A s a) {f : ResultVar → Sem Value} (hf1 : ∀ t, f (.tmp t) = pure (a.tmps.getD t undef)) (hf2 : ∀ x t, f (.cell x t) = (do loadVar t (← asAddr (a.tmps.getD x undef)))) :
    ∀ (l : List ResultVar) (rs : List AV), resVals C.E s H l = some rs →
    ∃ rus : List Value, (l.mapM f).run P w = .ok rus w ∧ rs.length = rus.length ∧ ∀ (i : Nat) (x : AV) (u : Value), rs[i]? = some x → rus[i]? = some u → R w H φ A x u
  | [], rs, h => by
    simp only [resVals, Option.some.injEq] at h; subst h
    exact ⟨[], by simp, rfl, by simp⟩
  | .tmp t :: l, rs, h => by
    simp only [resVals, Option.map_eq_some_iff] at h
    obtain ⟨rs', h1, rfl⟩ := h
    obtain ⟨rus, k1, k2, k3⟩ := resVals_ok hE hst hs hf1 hf2 l rs' h1
    refine ⟨a.tmps.getD t undef :: rus, by simp [List.mapM_cons, k1, hf1], by simp [k2], fun i x u hx hu => ?_⟩
    cases i with
    | zero => simp at hx hu; subst hx; subst hu; have := hs.ev (.tmp t); simpa [ev, Act.eval] using this
    | succ i => exact k3 i x u hx hu
  | .cell b t :: l, rs, h => by
    simp only [resVals] at h
    split at h
    · rename_i v H' he
      simp only [Option.map_eq_some_iff] at h
      obtain ⟨rs', h1, rfl⟩ := h
      obtain ⟨rus, k1, k2, k3⟩ := resVals_ok hE hst hs hf1 hf2 l rs' h1
      have hb := hs.ev (.tmp b)
      simp only [evalOp] at he
      obtain ⟨u, hu, hr⟩ := q_load (P := P) hE hst (Ext.refl H) hb he
      have hu' : (do loadVar t (← asAddr (a.tmps.getD b undef)) : Sem Value).run P w = .ok u w := by
        revert hu
        simp only [Act.eval]
        unfold Instr.loadAt
        generalize a.tmps.getD b undef = q
        intro hu
        cases q with
        | pointer o => cases o with
          | none => simp [Instr.sureAddr] at hu
          | some o => simpa [Instr.sureAddr, asAddr] using hu
        | _ => simp [Instr.sureAddr] at hu
      refine ⟨u :: rus, by rw [List.mapM_cons, hf2, Sem.run_bind, hu']; simp [k1], by simp [k2], fun i x u' hx hu' => ?_⟩
      cases i with
      | zero => simp at hx hu'; subst hx; subst hu'; exact hr
      | succ i => exact k3 i x u' hx hu'
    · simp at h

theorem results_ok (hE : ∀ t ti, C.E t = some ti → TyOK P t ti) {w : World} {H : Heap} {φ : Phi} {A : Avoid} {s : Frm} {a : Act} (hst : St w H φ A) (hs : SF w H φ A s a) {fn : Func} {rs : List AV} (h : resVals C.E s H fn.results.toList = some rs) :
    ∃ rus : List Value, (results fn a.tmps).run P w = .ok (oneVal rus) w ∧ rs.length = rus.length ∧ ∀ (i : Nat) (x : AV) (u : Value), rs[i]? = some x → rus[i]? = some u → R w H φ A x u := by
  obtain ⟨f, hf1, hf2, hf3⟩ : ∃ f : ResultVar → Sem Value, (∀ t, f (.tmp t) = pure (a.tmps.getD t undef)) ∧ (∀ x t, f (.cell x t) = (do loadVar t (← asAddr (a.tmps.getD x undef)))) ∧
      results fn a.tmps = (do let vs ← fn.results.mapM f; pure (if h : vs.size = 1 then vs[0] else .tuple vs)) := ⟨_, fun _ => rfl, fun _ _ => rfl, rfl⟩
  obtain ⟨rus, h1, h2, h3⟩ := resVals_ok hE hst hs hf1 hf2 fn.results.toList rs h
  refine ⟨rus, ?_, h2, h3⟩
  rw [hf3, Sem.run_bind, Array.mapM_eq_mapM_toList, Sem.run_map, h1]
  match rus with
  | [] => simp [oneVal]
  | [u] => simp [oneVal]
  | u :: u' :: us => simp [oneVal]

theorem bodySim (hm : P.follows .mixedOrders = true) (hE : ∀ t ti, C.E t = some ti → TyOK P t ti) (hC : ∀ f fn, C.code f = some fn → P.funcs[f]? = some fn ∧ (fn.name == "runtime.NumGoroutine") = false ∧ ordsB (C.pol f) fn = true) (hX : ∀ f ys H K, X f ys H K → Sim P f ys H K) (hD : DrawSim P C X)
    {f : FuncId} {ys : List AV} {H : Heap} {K : AV → Heap → Prop} (h : Body X C f ys H K) : Sim P f ys H K := by
  unfold Body at h
  split at h
  · exact h.elim
  rename_i fn hfn
  split at h
  · exact h.elim
  rename_i c hc
  obtain ⟨hf, hname, hord⟩ := hC f fn hfn
  have hord : ordsOK (C.pol f) c = true := by unfold ordsB at hord; rw [hc] at hord; exact hord
  refine ⟨⟨fn, hf, hname, by simp [hc]⟩, fun w A φ us hst hl hr => ?_⟩
  refine calls_of_wp hf hc (codeSim hm hE hX hD (C.pol f) c 0 _ H _ _ w φ A _ hord h hst ⟨by simp [hl], fun t x v hx hv => ?_, rfl⟩ ?_)
  · rcases Nat.lt_or_ge t us.size with ht | ht
    · rw [List.getElem?_append_left (by rw [hl]; exact ht)] at hx
      rw [Array.getElem?_append_left ht] at hv
      exact hr t x v hx hv
    · rw [List.getElem?_append_right (by rw [hl]; exact ht)] at hx
      have : x = .undef := by
        rw [List.getElem?_replicate] at hx
        split at hx <;> simp at hx
        exact hx.symm
      subst this
      exact .fr _ _ (.undef _)
  · intro e s' H' φ' A' a' w' h1 h2 h3
    have fin : (∃ rs, resVals C.E s' H' fn.results.toList = some rs ∧ K (oneOrTup rs) H') → a'.defers = [] ∧ ∃ v, (results fn a'.tmps).run P w' = .ok v w' ∧ CRes w H φ A K (.returned v) w' := by
      rintro ⟨rs, hrs, hk⟩
      refine ⟨h2.dfr, ?_⟩
      obtain ⟨rus, k1, k2, k3⟩ := results_ok (P := P) hE h1.st h2 hrs
      exact ⟨_, k1, _, H', φ', A', h1, R_one k2 k3, hk⟩
    cases e with
    | normal => exact fin h3
    | ret => exact fin h3
    | exit id => exact h3.elim
end body
end Go.VS

/-
  VS, part 33: values handed over, into a heap that has them already (for regions whose order is open).
-/
namespace Go.VS

def Grow (H H1 : Heap) : Prop := Ext H H1 ∧ H.bs.length ≤ H1.bs.length

theorem Ext.trans {H H1 H2 : Heap} (h : Ext H H1) (k : Ext H1 H2) : Ext H H2 := ⟨fun id b hb => k.1 id b (h.1 id b hb), Nat.le_trans h.2 k.2⟩
theorem Grow.refl (H : Heap) : Grow H H := ⟨Ext.refl _, Nat.le_refl _⟩
theorem Grow.trans {H H1 H2 : Heap} (h : Grow H H1) (k : Grow H1 H2) : Grow H H2 := ⟨h.1.trans k.1, Nat.le_trans h.2 k.2⟩
theorem Grow.new (H : Heap) (sz : Nat) (fx : Bool) (el : List AV) : Grow H (H.new sz fx el) := ⟨Heap.ext_new H sz fx el, by simp [Heap.new]⟩

mutual
theorem thawV_grow : ∀ (y : AV) (H : Heap), Grow H (thawV y H).2
  | .own sz xs, H => by simp only [thawV]; exact (thawL_grow xs H).trans (.new _ _ _ _)
  | .optr sz x, H => by simp only [thawV]; exact (thawV_grow x H).trans (.new _ _ _ _)
  | .agg xs, H => by simp only [thawV]; exact thawL_grow xs H
  | .tup xs, H => by simp only [thawV]; exact thawL_grow xs H
  | .undef, H => .refl _
  | .int _ _, H => .refl _
  | .bool _, H => .refl _
  | .str _, H => .refl _
  | .nil, H => .refl _
  | .e0, H => .refl _
  | .fz _, H => .refl _
  | .ref _ _ _ _, H => .refl _
  | .ptr _ _ _ _, H => .refl _
  | .fe _ _, H => .refl _
  | .fn _ _, H => .refl _
  | .errv _, H => .refl _
  | .nilp, H => .refl _
theorem thawL_grow : ∀ (ys : List AV) (H : Heap), Grow H (thawL ys H).2
  | [], H => .refl _
  | y :: ys, H => by simp only [thawL]; exact (thawV_grow y H).trans (thawL_grow ys _)
end

/-- A heap that holds what is to come. -/
structure GH (G : Heap) (φ : Phi) (H H1 : Heap) : Prop where
  ext : Ext H1 G
  none : ∀ id, H.bs.length ≤ id → id < H1.bs.length → φ id = none

theorem new_len (H : Heap) (sz : Nat) (fx : Bool) (el : List AV) : (H.new sz fx el).bs.length = H.bs.length + 1 := by simp [Heap.new]

theorem GH.fst {G : Heap} {φ : Phi} {H H1 H2 : Heap} (h : GH G φ H H2) (k : Grow H1 H2) : GH G φ H H1 := ⟨k.1.trans h.ext, fun id h1 h2 => h.none id h1 (Nat.lt_of_lt_of_le h2 k.2)⟩

section duo
variable {w : World}

structure MG (w : World) (L : Heap) (φL : Phi) (AL : Avoid) (G : Heap) (φ : Phi) (AH : Avoid) (L1 : Heap) (φ1 : Phi) (lo hi : Nat) : Prop where
  less : Less L L1
  duo : Duo w L1 (restr φL L1) AL G φ1 AH
  oh : ∀ c, Ow φ1 c → Ow φ c ∨ (Ow φL c ∧ ¬ Ow (restr φL L1) c)
  oh' : ∀ c, Ow φ c → Ow φ1 c
  hphi : ∀ id loc, φ id = some loc → φ1 id = some loc
  new : ∀ id loc, φ1 id = some loc → φ id = some loc ∨ (lo ≤ id ∧ id < hi)
  le : lo ≤ hi

theorem MG.eh {L : Heap} {φL : Phi} {AL : Avoid} {G : Heap} {φ : Phi} {AH : Avoid} {L1 : Heap} {φ1 : Phi} {lo hi : Nat} (m : MG w L φL AL G φ AH L1 φ1 lo hi) : Evo w G φ AH w G φ1 AH :=
  ⟨fun _c _arr _T fr hc hn => ⟨⟨fr, hc⟩, hn⟩, Nat.le_refl _, fun id b hb _ => ⟨b, hb, rfl, rfl, rfl, rfl, fun loc h => m.hphi id loc h⟩, fun _ _ => rfl⟩

theorem MG.refl {L : Heap} {φL : Phi} {AL : Avoid} {G : Heap} {φ : Phi} {AH : Avoid} (h : Duo w L φL AL G φ AH) (lo : Nat) : MG w L φL AL G φ AH L φ lo lo :=
  ⟨.refl _, ⟨lessSt h.sl (.refl _), h.sh, fun c hc => h.dis c (restr_ow hc), fun c hc => h.cov c (restr_ow hc)⟩, fun _c hc => .inl hc, fun _c hc => hc, fun _ _ h => h, fun _ _ h => .inl h, Nat.le_refl _⟩

theorem MG.trans {L L1 L2 : Heap} {φL : Phi} {AL : Avoid} {G : Heap} {φ φ1 φ2 : Phi} {AH : Avoid} {lo mi hi : Nat} (h : MG w L φL AL G φ AH L1 φ1 lo mi) (k : MG w L1 (restr φL L1) AL G φ1 AH L2 φ2 mi hi) : MG w L φL AL G φ AH L2 φ2 lo hi := by
  have hr := restr_restr (φ := φL) k.less
  refine ⟨h.less.trans k.less, by rw [← hr]; exact k.duo, fun c hc => ?_, fun c hc => k.oh' c (h.oh' c hc), fun id loc hl => k.hphi id loc (h.hphi id loc hl), fun id loc hl => ?_, Nat.le_trans h.le k.le⟩
  · rcases k.oh c hc with h1 | ⟨h1, h2⟩
    · rcases h.oh c h1 with h3 | ⟨h3, h4⟩
      · exact .inl h3
      · refine .inr ⟨h3, fun h5 => h4 ?_⟩
        rw [← hr] at h5
        exact restr_ow h5
    · rw [hr] at h2
      exact .inr ⟨restr_ow h1, h2⟩
  · have h1 := h.le
    have h2 := k.le
    rcases k.new id loc hl with h3 | ⟨h3, h4⟩
    · rcases h.new id loc h3 with h5 | ⟨h5, h6⟩
      · exact .inl h5
      · exact .inr ⟨h5, by omega⟩
    · exact .inr ⟨by omega, h4⟩

theorem GH.snd {L L1 : Heap} {φL : Phi} {AL : Avoid} {G : Heap} {φ φ1 : Phi} {AH : Avoid} {H H1 H2 : Heap} (h : GH G φ H H2) (m : MG w L φL AL G φ AH L1 φ1 H.bs.length H1.bs.length) : GH G φ1 H1 H2 := by
  refine ⟨h.ext, fun id h1 h2 => ?_⟩
  cases hp : φ1 id with
  | none => rfl
  | some loc =>
    have hle := m.le
    rcases m.new id loc hp with h3 | ⟨_, h3⟩
    · rw [h.none id (by omega) h2] at h3; simp at h3
    · omega

/-- A block that the second heap has, at a place in memory that was the first one's. -/
theorem newAtG {L L1 : Heap} {φL : Phi} {AL : Avoid} {G : Heap} {φ φ1 : Phi} {AH : Avoid} {lo hi : Nat} (m : MG w L φL AL G φ AH L1 φ1 lo hi) {ver sz : Nat} {fx : Bool} {el : List AV} {loc : Loc} (hg : G.get hi = some ⟨ver, sz, fx, el⟩) (hver : ver < G.st) (hnone : φ hi = none)
    (hsd : ∀ (i : Nat) (x : AV), el[i]? = some x → x.cells.length = sz) (hv : loc = .virt → el = [])
    (hat : ∀ c b0, loc = .at_ c b0 → Ow φL c ∧ ¬ Ow (restr φL L1) c ∧ ¬ Ow φ1 c ∧ AH c ∧ ∃ arr T fr, w.heap[c]? = some (.cells arr T fr) ∧ (∀ j, j < arr.size → ¬ (fr.1 ≤ j ∧ j < fr.2)) ∧ b0 + el.length * sz ≤ arr.size ∧
      ∀ (i : Nat) (x : AV) (j : Nat) (y : AV) (v : Value), el[i]? = some x → x.cells[j]? = some y → arr[b0 + i * sz + j]? = some v → R w G φ1 AH y v ∧ v.oneCell' = true) :
    MG w L φL AL G φ AH L1 (fun i => if i = hi then some loc else φ1 i) lo (hi + 1) := by
  have hsh := m.duo.sh
  have hle := m.le
  have hnew : φ1 hi = none := by
    cases hp : φ1 hi with
    | none => rfl
    | some l =>
      rcases m.new hi l hp with h | ⟨_, h⟩
      · rw [hnone] at h; simp at h
      · omega
  have hevo : Evo w G φ1 AH w G (fun i => if i = hi then some loc else φ1 i) AH := by
    refine ⟨fun c a t fr hc hn => ⟨⟨fr, hc⟩, hn⟩, Nat.le_refl _, fun id b hb hlt => ⟨b, hb, rfl, rfl, rfl, rfl, fun l hl => ?_⟩, fun _ _ => rfl⟩
    rw [if_neg (by rintro rfl; rw [hnew] at hl; simp at hl)]; exact hl
  have hOw : ∀ c, Ow (fun i => if i = hi then some loc else φ1 i) c → Ow φ1 c ∨ ∃ b0, loc = .at_ c b0 := by
    rintro c ⟨i, b, h⟩
    try simp only at h
    split at h
    · simp only [Option.some.injEq] at h; exact .inr ⟨b, h⟩
    · exact .inl ⟨i, b, h⟩
  refine ⟨m.less, ⟨m.duo.sl, ⟨fun i i' c b b' h1 h2 => ?_, fun c hc => ?_, hsh.bnd, fun i l hl => ?_⟩, fun c hc ho => ?_, m.duo.cov⟩, fun c hc => ?_, fun c hc => ?_, fun id l hl => ?_, fun id l hl => ?_, by omega⟩
  · try simp only at h1 h2
    split at h1
    · rename_i hi
      split at h2
      · rename_i hi'; omega
      · simp only [Option.some.injEq] at h1
        exact absurd ⟨i', b', h2⟩ (hat c b h1).2.2.1
    · split at h2
      · simp only [Option.some.injEq] at h2
        exact absurd ⟨i, b, h1⟩ (hat c b' h2).2.2.1
      · exact hsh.inj _ _ _ _ _ h1 h2
  · rcases hOw c hc with h | ⟨b0, h⟩
    · exact hsh.own c h
    · exact (hat c b0 h).2.2.2.1
  · try simp only at hl
    split at hl
    · rename_i hi; subst hi
      simp only [Option.some.injEq] at hl; subst hl
      refine ⟨_, hg, hver, hsd, hv, fun c b0 he => ?_⟩
      obtain ⟨_, _, _, _, arr, T, fr, k1, k2, k3, k4⟩ := hat c b0 he
      exact ⟨arr, T, fr, k1, k2, k3, fun j x q y v hx' hy hvv => ⟨(k4 j x q y v hx' hy hvv).1.mono hevo, (k4 j x q y v hx' hy hvv).2⟩⟩
    · obtain ⟨bb, hb, hok⟩ := hsh.blk i l hl
      refine ⟨bb, hb, hok.ver, hok.sized, hok.virt, fun c b0 he => ?_⟩
      obtain ⟨arr, T, fr, k1, k2, k3, k4⟩ := hok.here c b0 he
      exact ⟨arr, T, fr, k1, k2, k3, fun j x q y v hx' hy hvv => ⟨(k4 j x q y v hx' hy hvv).1.mono hevo, (k4 j x q y v hx' hy hvv).2⟩⟩
  · rcases hOw c ho with h | ⟨b0, h⟩
    · exact m.duo.dis c hc h
    · exact (hat c b0 h).2.1 hc
  · rcases hOw c hc with h | ⟨b0, h⟩
    · exact m.oh c h
    · exact .inr ⟨(hat c b0 h).1, (hat c b0 h).2.1⟩
  · obtain ⟨i, b, h⟩ := m.oh' c hc
    exact ⟨i, b, by show (if i = hi then some loc else φ1 i) = _; rw [if_neg (by rintro rfl; rw [hnew] at h; simp at h)]; exact h⟩
  · have := m.hphi id l hl
    rw [if_neg (by rintro rfl; rw [hnew] at this; simp at this)]; exact this
  · try simp only at hl
    split at hl
    · rename_i hi; subst hi; exact .inr ⟨hle, Nat.lt_succ_self _⟩
    · rcases m.new id l hl with h | ⟨h1, h2⟩
      · exact .inl h
      · exact .inr ⟨h1, by omega⟩
set_option maxRecDepth 4000

/-- A list of elements handed over, each by what hands one over. -/
theorem moveXG {es : List Sh} (hE : ∀ (x : AV) (vs : List Value) (L : Heap) (φL : Phi) (AL : Avoid) (H G : Heap) (φ : Phi) (AH : Avoid) (y : AV) (L1 : Heap) (a : AV) (H1 : Heap), Duo w L φL AL G φ AH → GH G φ H H1 → x.cells.length = vs.length →
      (∀ (j : Nat) (c : AV) (u : Value), x.cells[j]? = some c → vs[j]? = some u → R w L φL AL c u) → takeE es x L = some (y, L1) → thawV y H = (a, H1) → Kfz AL AH y →
      ∃ φ1, MG w L φL AL G φ AH L1 φ1 H.bs.length H1.bs.length ∧ a.cells.length = x.cells.length ∧ ∀ (j : Nat) (c : AV) (u : Value), a.cells[j]? = some c → vs[j]? = some u → R w G φ1 AH c u) :
    ∀ (xs : List AV) (g : Nat → Nat → Value) (L : Heap) (φL : Phi) (AL : Avoid) (H G : Heap) (φ : Phi) (AH : Avoid) (ys : List AV) (L1 : Heap) (as : List AV) (H1 : Heap), Duo w L φL AL G φ AH → GH G φ H H1 →
      (∀ (i : Nat) (x : AV) (j : Nat) (c : AV), xs[i]? = some x → x.cells[j]? = some c → R w L φL AL c (g i j)) → mapH (takeE es) xs L = some (ys, L1) → thawL ys H = (as, H1) → KfzL AL AH ys →
      ∃ φ1, MG w L φL AL G φ AH L1 φ1 H.bs.length H1.bs.length ∧ as.length = xs.length ∧ (∀ (i : Nat) (x a : AV), xs[i]? = some x → as[i]? = some a → a.cells.length = x.cells.length) ∧
        ∀ (i : Nat) (a : AV) (j : Nat) (c : AV), as[i]? = some a → a.cells[j]? = some c → R w G φ1 AH c (g i j)
  | [], g, L, φL, AL, H, G, φ, AH, ys, L1, as, H1, hd, hh, _, ht, hw, _ => by
    simp only [mapH, Option.some.injEq, Prod.mk.injEq] at ht
    obtain ⟨rfl, rfl⟩ := ht
    simp only [thawL, Prod.mk.injEq] at hw
    obtain ⟨rfl, rfl⟩ := hw
    exact ⟨φ, .refl hd _, rfl, by simp, by simp⟩
  | x :: xs, g, L, φL, AL, H, G, φ, AH, ys, L1, as, H1, hd, hh, hr, ht, hw, hk => by
    simp only [mapH] at ht
    split at ht
    · rename_i y L' h1
      split at ht
      · rename_i ys' L'' h2
        simp only [Option.some.injEq, Prod.mk.injEq] at ht
        obtain ⟨rfl, rfl⟩ := ht
        obtain ⟨k1, k2⟩ := hk.cons
        simp only [thawL, Prod.mk.injEq] at hw
        obtain ⟨rfl, rfl⟩ := hw
        let vs : List Value := (List.range x.cells.length).map (g 0)
        obtain ⟨φ1, m1, l1, r1⟩ := hE x vs L φL AL H G φ AH y L' _ _ hd (hh.fst (thawL_grow _ _)) (by simp [vs]) (fun j c u hj hu => by
          have hjl : j < x.cells.length := (List.getElem?_eq_some_iff.1 hj).1
          have : vs[j]? = some (g 0 j) := by simp [vs, hjl]
          rw [this] at hu
          simp only [Option.some.injEq] at hu; subst hu; exact hr 0 x j c rfl hj) h1 rfl k1
        obtain ⟨φ2, m2, l2, s2, r2⟩ := moveXG hE xs (fun i j => g (i + 1) j) L' (restr φL L') AL _ G φ1 AH ys' L'' _ _ m1.duo (hh.snd m1) (fun i x' j c hi hj => (hr (i + 1) x' j c hi hj).mono (lessEvo m1.less)) h2 rfl k2
        refine ⟨φ2, m1.trans m2, by simp [l2], fun i x' a hx ha => ?_, fun i a j c ha hc => ?_⟩
        · cases i with
          | zero => simp at hx ha; subst hx; subst ha; exact l1
          | succ i => exact s2 i x' a hx ha
        · cases i with
          | zero =>
            simp only [List.getElem?_cons_zero, Option.some.injEq] at ha; subst ha
            have hj : j < x.cells.length := by rw [← l1]; exact (List.getElem?_eq_some_iff.1 hc).1
            exact (r1 j c (g 0 j) hc (by simp [vs, hj])).mono m2.eh
          | succ i => exact r2 i a j c ha hc
      · simp at ht
    · simp at ht

/-- What a slice or a variable in the heap is, as it is handed over. -/
theorem blkMoveG {L : Heap} {φL : Phi} {AL : Avoid} {G : Heap} {φ : Phi} {AH : Avoid} (hd : Duo w L φL AL G φ AH) {id ver : Nat} {b : Blk} (hb : L.blk id ver = some b) {off n : Nat} (hle : off + n ≤ b.el.length) {sz : Nat} (hs : b.sz = sz) {loc : Loc} (hφ : φL id = some loc)
    {L1 : Heap} {as : List AV} {lo hi : Nat} {g : Nat → Nat → Value} {φ1 : Phi} (hg : ∀ c b0 arr T fr, loc = .at_ c b0 → w.heap[c]? = some (.cells arr T fr) → ∀ (i j : Nat) (v : Value), i < n → j < sz → arr[b0 + (off + i) * sz + j]? = some v → g i j = v)
    (m : MG w (L.del id) (restr φL (L.del id)) AL G φ AH L1 φ1 lo hi) (hl : as.length = n) (hsd : ∀ (i : Nat) (a : AV), as[i]? = some a → a.cells.length = sz)
    (hr : ∀ (i : Nat) (a : AV) (j : Nat) (c : AV), as[i]? = some a → a.cells[j]? = some c → R w G φ1 AH c (g i j)) {ver' : Nat} (fx : Bool) (hgh : G.get hi = some ⟨ver', sz, fx, as⟩) (hver : ver' < G.st) (hnone : φ hi = none) (loc' : Loc) (hloc : loc' = .virt ∧ n = 0 ∨ ∃ c b0, loc = .at_ c b0 ∧ loc' = .at_ c (b0 + off * sz)) :
    MG w L φL AL G φ AH L1 (fun i => if i = hi then some loc' else φ1 i) lo (hi + 1) := by
  have hgt := (Heap.blk_get hb).1
  have hless := (Less.del L id).trans m.less
  have hrr : restr (restr φL (L.del id)) L1 = restr φL L1 := restr_restr m.less
  have m' : MG w L φL AL G φ AH L1 φ1 lo hi := by
    refine ⟨hless, by have := m.duo; rwa [hrr] at this, fun c hc => ?_, m.oh', m.hphi, m.new, m.le⟩
    rcases m.oh c hc with h | ⟨h1, h2⟩
    · exact .inl h
    · rw [hrr] at h2; exact .inr ⟨restr_ow h1, h2⟩
  refine newAtG m' hgh hver hnone hsd (fun hv => ?_) (fun c b1 he => ?_)
  · rcases hloc with ⟨_, h0⟩ | ⟨c, b0, _, h2⟩
    · exact List.eq_nil_of_length_eq_zero (by omega)
    · rw [h2] at hv; simp at hv
  · rcases hloc with ⟨h1, _⟩ | ⟨c', b0, h1, h2⟩
    · rw [h1] at he; simp at he
    · rw [h2] at he
      simp only [Loc.at_.injEq] at he
      obtain ⟨rfl, rfl⟩ := he
      subst h1
      have hoc : Ow φL c' := ⟨id, b0, hφ⟩
      have hnot : ¬ Ow (restr φL L1) c' := by
        rintro ⟨i, bb, hi⟩
        obtain ⟨hi1, bk, hbk⟩ := restr_some hi
        have := hd.sl.inj _ _ _ _ _ hi1 hφ
        subst this
        have := m.less.get _ _ hbk
        rw [Heap.get_del, if_pos rfl] at this
        simp at this
      refine ⟨hoc, hnot, fun ho => ?_, hd.cov _ hoc, ?_⟩
      · rcases m.oh c' ho with h | ⟨⟨i, bb, hi⟩, _⟩
        · exact hd.dis c' hoc h
        · obtain ⟨hi1, bk, hbk⟩ := restr_some hi
          have := hd.sl.inj _ _ _ _ _ hi1 hφ
          subst this
          rw [Heap.get_del, if_pos rfl] at hbk
          simp at hbk
      · obtain ⟨bk, hbk, hok⟩ := hd.sl.blk id _ hφ
        rw [hgt] at hbk
        simp only [Option.some.injEq] at hbk; subst hbk
        obtain ⟨arr, T, fr, k1, k2, k3, k4⟩ := hok.here c' b0 rfl
        have hmul : off * sz + n * sz ≤ b.el.length * sz := by rw [← Nat.add_mul]; exact Nat.mul_le_mul_right _ hle
        refine ⟨arr, T, fr, k1, k2, by rw [hl]; rw [hs] at k3; omega, fun i a j c v ha hc hv => ?_⟩
        have hi : i < n := by rw [← hl]; exact (List.getElem?_eq_some_iff.1 ha).1
        have hj : j < sz := by rw [← hsd i a ha]; exact (List.getElem?_eq_some_iff.1 hc).1
        have e : b0 + off * sz + i * sz + j = b0 + (off + i) * sz + j := by rw [Nat.add_mul]; omega
        rw [e] at hv
        have hgv := hg c' b0 arr T fr rfl k1 i j v hi hj hv
        refine ⟨by rw [← hgv]; exact hr i a j c ha hc, ?_⟩
        have hel : off + i < b.el.length := by omega
        have hx := List.getElem?_eq_getElem hel
        have hxl := hok.sized _ _ hx
        exact (k4 (off + i) _ j _ v hx (List.getElem?_eq_getElem (by omega)) (by rw [hs]; exact hv)).2
mutual
theorem moveTG (sh : Sh) (x : AV) (v : Value) (L : Heap) (φL : Phi) (AL : Avoid) (H G : Heap) (φ : Phi) (AH : Avoid) (y : AV) (L1 : Heap) (a : AV) (H1 : Heap) (hd : Duo w L φL AL G φ AH) (hh : GH G φ H H1) (hx : R w L φL AL x v)
    (ht : takeT sh x L = some (y, L1)) (hw : thawV y H = (a, H1)) (hk : Kfz AL AH y) : ∃ φ1, MG w L φL AL G φ AH L1 φ1 H.bs.length H1.bs.length ∧ R w G φ1 AH a v ∧ (x ≠ .undef → a.cells = [a]) ∧ (x = .undef → a = .undef) := by
  cases sh with
  | sc =>
    simp only [takeT] at ht
    split at ht
    · rename_i hp
      simp only [Option.some.injEq, Prod.mk.injEq] at ht
      obtain ⟨rfl, rfl⟩ := ht
      rw [thaw_plain hp] at hw
      simp only [Prod.mk.injEq] at hw
      obtain ⟨rfl, rfl⟩ := hw
      exact ⟨φ, .refl hd _, plain_R hp hx, fun hu => cells_one hu (by rintro cs rfl; simp [plainA] at hp), fun h => h⟩
    · simp at ht
  | sl es =>
    have hnil : ∀ {v0 : Option Addr}, v = .slice v0 0 0 → thawV (.own es.length []) H = (a, H1) → L1 = L → ∃ φ1, MG w L φL AL G φ AH L1 φ1 H.bs.length H1.bs.length ∧ R w G φ1 AH a v ∧ a.cells = [a] := by
      intro v0 hv hw hL
      subst hL
      simp only [thawV, thawL, Prod.mk.injEq] at hw
      obtain ⟨rfl, rfl⟩ := hw
      have hgh := hh.ext.1 _ _ (Heap.get_new H es.length false [])
      have hver : H.st < G.st := Nat.lt_of_lt_of_le (Nat.lt_succ_self _) hh.ext.2
      have m := newAtG (MG.refl hd H.bs.length) hgh hver (hh.none _ (Nat.le_refl _) (by rw [new_len]; exact Nat.lt_succ_self _)) (loc := .virt) (by simp) (fun _ => rfl) (by simp)
      rw [← new_len H es.length false []] at m
      refine ⟨_, m, ?_, rfl⟩
      refine .ref _ _ _ _ _ hver ⟨_, _, hv⟩ fun b hb => ?_
      have := blk_same hgh hb
      subst this
      exact ⟨.virt, v0, 0, by simp, hv, by simp, Nat.le_refl _, by simp, rfl, fun _ => rfl⟩
    cases x with
    | nil =>
      simp only [takeT, Option.some.injEq, Prod.mk.injEq] at ht
      obtain ⟨rfl, rfl⟩ := ht
      obtain ⟨φ1, h1, h2, h3⟩ := hnil hx.nil_inv hw rfl
      exact ⟨φ1, h1, h2, fun _ => h3, fun h => by simp at h⟩
    | e0 =>
      simp only [takeT, Option.some.injEq, Prod.mk.injEq] at ht
      obtain ⟨rfl, rfl⟩ := ht
      obtain ⟨a0, ha0⟩ := hx.e0_inv
      obtain ⟨φ1, h1, h2, h3⟩ := hnil ha0 hw rfl
      exact ⟨φ1, h1, h2, fun _ => h3, fun h => by simp at h⟩
    | fz xs =>
      simp only [takeT, Option.some.injEq, Prod.mk.injEq] at ht
      obtain ⟨rfl, rfl⟩ := ht
      simp only [thawV, Prod.mk.injEq] at hw
      obtain ⟨rfl, rfl⟩ := hw
      rcases hk with hk | hk
      · exact ⟨φ, .refl hd _, .fr _ _ (hx.fz_inv.shrink hk), fun _ => rfl, fun h => by simp at h⟩
      · simp [noFz] at hk
    | ref id ver off len =>
      simp only [takeT] at ht
      split at ht
      · rename_i b hb
        split at ht
        · rename_i hc
          obtain ⟨c1, c2, c3⟩ := hc
          split at ht
          · rename_i ys L' hm
            simp only [Option.some.injEq, Prod.mk.injEq] at ht
            obtain ⟨rfl, rfl⟩ := ht
            simp only [thawV, Prod.mk.injEq] at hw
            obtain ⟨rfl, rfl⟩ := hw
            have hg := (Heap.blk_get hb).1
            obtain ⟨hver, _, hr⟩ := hx.ref_inv
            obtain ⟨loc, a0, cap, q1, rfl, q3, q4, q5, q6⟩ := (hr b hb).out
            obtain ⟨bk, hbk, hok⟩ := hd.sl.blk id _ q1
            rw [hg] at hbk
            simp only [Option.some.injEq] at hbk; subst hbk
            have hk' : KfzL AL AH ys := by
              rcases hk with h | h
              · exact .inl h
              · exact .inr (by simpa [noFz] using h)
            have hlss := Less.del L id
            have hd' : Duo w (L.del id) (restr φL (L.del id)) AL G φ AH := ⟨lessSt hd.sl hlss, hd.sh, fun c hc => hd.dis c (restr_ow hc), fun c hc => hd.cov c (restr_ow hc)⟩
            have hsub : (subL b.el off len).length = len := by simp [subL]; omega
            have hsubg : ∀ (i : Nat) (x : AV), (subL b.el off len)[i]? = some x → b.el[off + i]? = some x := by
              intro i x hi
              simp only [subL, List.getElem?_take, List.getElem?_drop] at hi
              split at hi
              · exact hi
              · simp at hi
            -- what lies in memory
            let g : Nat → Nat → Value := match loc with
              | .virt => fun _ _ => undef
              | .at_ c b0 => fun i j => match w.heap[c]? with
                | some (.cells arr _ _) => arr.getD (b0 + (off + i) * es.length + j) undef
                | _ => undef
            have hrel : ∀ (i : Nat) (x : AV) (j : Nat) (c : AV), (subL b.el off len)[i]? = some x → x.cells[j]? = some c → R w (L.del id) (restr φL (L.del id)) AL c (g i j) := by
              intro i x j c hi hj
              have hx' := hsubg i x hi
              have hil : i < len := by rw [← hsub]; exact (List.getElem?_eq_some_iff.1 hi).1
              cases loc with
              | virt => have := hok.virt rfl; rw [this] at hx'; simp at hx'
              | at_ c0 b0 =>
                obtain ⟨arr, T, fr, k1, k2, k3, k4⟩ := hok.here c0 b0 rfl
                have hjl : j < b.sz := by rw [← hok.sized _ _ hx']; exact (List.getElem?_eq_some_iff.1 hj).1
                have hle := mul_lt_le (n := b.sz) (show off + i < b.el.length by omega)
                have hlt : b0 + (off + i) * b.sz + j < arr.size := by omega
                have : g i j = arr[b0 + (off + i) * b.sz + j] := by
                  simp only [g, k1, ← c1, Array.getD_eq_getD_getElem?, Array.getElem?_eq_getElem hlt, Option.getD_some]
                rw [this]
                exact ((k4 _ _ _ _ _ hx' hj (Array.getElem?_eq_getElem hlt)).1).mono (lessEvo hlss)
            obtain ⟨φ1, m, l1, s1, r1⟩ := moveXG (w := w) (es := es) (fun x vs L φL AL H G φ AH y L1 a H1 => moveEG es x vs L φL AL H G φ AH y L1 a H1) _ g _ _ _ _ _ _ _ _ _ _ _ hd' (hh.fst (.new _ _ _ _)) hrel hm rfl hk'
            rw [hsub] at l1
            have hlen2 : ∀ (i : Nat) (a : AV), (thawL ys H).1[i]? = some a → a.cells.length = b.sz := by
              intro i a ha
              have hil : i < (subL b.el off len).length := by rw [hsub, ← l1]; exact (List.getElem?_eq_some_iff.1 ha).1
              have hxi := List.getElem?_eq_getElem hil
              rw [s1 i _ a hxi ha]
              exact hok.sized _ _ (hsubg i _ hxi)
            have hgg : ∀ c b0 arr T fr, loc = .at_ c b0 → w.heap[c]? = some (.cells arr T fr) → ∀ (i j : Nat) (v : Value), i < len → j < b.sz → arr[b0 + (off + i) * b.sz + j]? = some v → g i j = v := by
              intro c b0 arr T fr hl hh i j v _ _ hv
              subst hl
              simp only [g, hh, ← c1, Array.getD_eq_getD_getElem?, hv, Option.getD_some]
            let loc' : Loc := match loc with
              | .virt => .virt
              | .at_ c b0 => if cap = 0 then .virt else .at_ c (b0 + off * b.sz)
            have hloc : loc' = .virt ∧ len = 0 ∨ ∃ c b0, loc = .at_ c b0 ∧ loc' = .at_ c (b0 + off * b.sz) := by
              cases loc with
              | virt => left; refine ⟨rfl, ?_⟩; have := hok.virt rfl; rw [this] at q3; simp at q3; omega
              | at_ c b0 =>
                by_cases hc0 : cap = 0
                · left; exact ⟨by simp [loc', hc0], by omega⟩
                · right; exact ⟨c, b0, rfl, by simp [loc', hc0]⟩
            have hgh := hh.ext.1 _ _ (Heap.get_new (thawL ys H).2 es.length false (thawL ys H).1)
            have hver : (thawL ys H).2.st < G.st := Nat.lt_of_lt_of_le (Nat.lt_succ_self _) hh.ext.2
            have M := blkMoveG hd hb c2 rfl q1 hgg m l1 hlen2 r1 false (by rw [c1]; exact hgh) hver (hh.none _ (thawL_grow ys H).2 (by rw [new_len]; exact Nat.lt_succ_self _)) loc' hloc
            rw [← new_len (thawL ys H).2 es.length false (thawL ys H).1] at M
            refine ⟨_, M, ?_, fun _ => rfl, fun h => by simp at h⟩
            refine .ref _ _ _ _ _ hver ⟨a0, cap, by rw [l1]⟩ fun b' hb' => ?_
            have := blk_same hgh hb'
            subst this
            refine ⟨loc', a0, cap, by simp, by rw [l1], by simp, by omega, by simp only; omega, ?_⟩
            cases loc with
            | virt =>
              simp only at q6
              have hl0 : len = 0 := by have := hok.virt rfl; rw [this] at q3; simp at q3; omega
              refine ⟨List.eq_nil_of_length_eq_zero (by rw [l1, hl0]), fun _ => ?_⟩
              rcases c3 with c3 | c3
              · exact q6.2 c3
              · omega
            | at_ c b0 =>
              simp only at q6
              by_cases hc0 : cap = 0
              · simp only [loc', hc0, if_true]
                exact ⟨List.eq_nil_of_length_eq_zero (by omega), fun _ => by first | trivial | omega | rfl⟩
              · simp only [loc', hc0, if_false]
                rcases q6 with q6 | ⟨h1, h2⟩
                · exact absurd q6 hc0
                · refine Or.inr ⟨by rw [h1]; simp, ?_⟩
                  rw [c1] at h2 ⊢
                  have : (off + cap) * es.length = off * es.length + cap * es.length := Nat.add_mul _ _ _
                  simp only [Nat.zero_add]
                  omega
          · simp at ht
        · simp at ht
      · simp at ht
    | _ => simp [takeT] at ht
  | pt es =>
    cases x with
    | fe z o =>
      simp only [takeT, Option.some.injEq, Prod.mk.injEq] at ht
      obtain ⟨rfl, rfl⟩ := ht
      simp only [thawV, Prod.mk.injEq] at hw
      obtain ⟨rfl, rfl⟩ := hw
      rcases hk with hk | hk
      · exact ⟨φ, .refl hd _, .fr _ _ (hx.fe_inv.shrink hk), fun _ => rfl, fun h => by simp at h⟩
      · simp [noFz] at hk
    | ptr id ver idx off =>
      rcases idx with _ | idx
      rotate_left
      · simp [takeT] at ht
      rcases off with _ | off
      rotate_left
      · simp [takeT] at ht
      simp only [takeT] at ht
      split at ht
      · rename_i bver sz bfix z hb
        split at ht
        · rename_i y' L' hm
          simp only [Option.some.injEq, Prod.mk.injEq] at ht
          obtain ⟨rfl, rfl⟩ := ht
          simp only [thawV, Prod.mk.injEq] at hw
          obtain ⟨rfl, rfl⟩ := hw
          have hg := (Heap.blk_get hb).1
          obtain ⟨hver, _, hr⟩ := hx.ptr_inv
          obtain ⟨c, b0, q1, rfl⟩ := hr _ hb
          obtain ⟨bk, hbk, hok⟩ := hd.sl.blk id _ q1
          rw [hg] at hbk
          simp only [Option.some.injEq] at hbk; subst hbk
          obtain ⟨arr, T, fr, k1, k2, k3, k4⟩ := hok.here c b0 rfl
          have hk' : Kfz AL AH y' := by
            rcases hk with h | h
            · exact .inl h
            · exact .inr (by simpa [noFz] using h)
          have hlss := Less.del L id
          have hd' : Duo w (L.del id) (restr φL (L.del id)) AL G φ AH := ⟨lessSt hd.sl hlss, hd.sh, fun c hc => hd.dis c (restr_ow hc), fun c hc => hd.cov c (restr_ow hc)⟩
          have hzl : z.cells.length = sz := hok.sized 0 z rfl
          simp only [List.length_singleton, Nat.one_mul] at k3
          let vs : List Value := (arr.extract b0 (b0 + sz)).toList
          have hvs : vs.length = sz := by simp [vs]; omega
          have hvg : ∀ j u, vs[j]? = some u → arr[b0 + j]? = some u := by
            intro j u hu
            simp only [vs, Array.getElem?_toList, Array.getElem?_extract] at hu
            split at hu
            · exact hu
            · simp at hu
          obtain ⟨φ1, m, l1, r1⟩ := moveEG es z vs _ _ _ _ _ _ _ _ _ _ _ hd' (hh.fst (.new _ _ _ _)) (by rw [hvs, hzl]) (fun j c' u hj hu => ((k4 0 z j c' u rfl hj (by simpa using hvg j u hu)).1).mono (lessEvo hlss)) hm rfl hk'
          have hgh := hh.ext.1 _ _ (Heap.get_new (thawV y' H).2 sz false [(thawV y' H).1])
          have hver : (thawV y' H).2.st < G.st := Nat.lt_of_lt_of_le (Nat.lt_succ_self _) hh.ext.2
          have M := blkMoveG (as := [(thawV y' H).1]) (n := 1) (off := 0) (sz := sz) (loc' := .at_ c b0) (g := fun i j => vs.getD j undef) hd hb (by simp) rfl q1 (fun c' b0' arr' T' fr' hl hh i j v hi hj hv => by
              simp only [Loc.at_.injEq] at hl
              obtain ⟨rfl, rfl⟩ := hl
              rw [k1] at hh
              simp only [Option.some.injEq, Obj.cells.injEq] at hh
              obtain ⟨rfl, _, _⟩ := hh
              have hi0 : i = 0 := by omega
              subst hi0
              simp only [Nat.zero_mul, Nat.add_zero] at hv
              have : vs[j]? = some v := by
                simp only [vs, Array.getElem?_toList, Array.getElem?_extract]
                rw [if_pos (by omega)]; exact hv
              simp [List.getD, this]) m rfl (fun i a ha => by
              cases i with
              | zero => simp at ha; subst ha; rw [l1, hzl]
              | succ i => simp at ha) (fun i a j c' ha hc => by
              cases i with
              | zero =>
                simp at ha; subst ha
                have hj : j < vs.length := by rw [hvs, ← hzl, ← l1]; exact (List.getElem?_eq_some_iff.1 hc).1
                have := r1 j c' vs[j] hc (List.getElem?_eq_getElem hj)
                simpa [List.getD, hj] using this
              | succ i => simp at ha) false hgh hver (hh.none _ (thawV_grow y' H).2 (by rw [new_len]; exact Nat.lt_succ_self _)) (.inr ⟨c, b0, rfl, by simp⟩)
          rw [← new_len (thawV y' H).2 sz false [(thawV y' H).1]] at M
          refine ⟨_, M, ?_, fun _ => rfl, fun h => by simp at h⟩
          refine .ptr _ _ _ _ _ hver ⟨_, rfl⟩ fun b' hb' => ⟨c, b0, by simp, ?_⟩
          simp
        · simp at ht
      · simp at ht
    | _ => simp [takeT] at ht
  termination_by (SizeOf.sizeOf sh, 0)
theorem moveEG (es : List Sh) (x : AV) (vs : List Value) (L : Heap) (φL : Phi) (AL : Avoid) (H G : Heap) (φ : Phi) (AH : Avoid) (y : AV) (L1 : Heap) (a : AV) (H1 : Heap) (hd : Duo w L φL AL G φ AH) (hh : GH G φ H H1) (hl : x.cells.length = vs.length)
    (hx : ∀ (j : Nat) (c : AV) (u : Value), x.cells[j]? = some c → vs[j]? = some u → R w L φL AL c u) (ht : takeE es x L = some (y, L1)) (hw : thawV y H = (a, H1)) (hk : Kfz AL AH y) :
    ∃ φ1, MG w L φL AL G φ AH L1 φ1 H.bs.length H1.bs.length ∧ a.cells.length = x.cells.length ∧ ∀ (j : Nat) (c : AV) (u : Value), a.cells[j]? = some c → vs[j]? = some u → R w G φ1 AH c u := by
  by_cases hag : ∃ cs, x = .agg cs
  · obtain ⟨cs, rfl⟩ := hag
    have ht' : ∃ cs', takeC es cs L = some (cs', L1) ∧ y = .agg cs' := by
      match es, ht with
      | [], ht =>
        simp only [takeE] at ht
        split at ht
        · rename_i cs' L' hc
          simp only [Option.some.injEq, Prod.mk.injEq] at ht
          obtain ⟨rfl, rfl⟩ := ht
          exact ⟨cs', hc, rfl⟩
        · simp at ht
      | [e], ht =>
        simp only [takeE] at ht
        split at ht
        · rename_i cs' L' hc
          simp only [Option.some.injEq, Prod.mk.injEq] at ht
          obtain ⟨rfl, rfl⟩ := ht
          exact ⟨cs', hc, rfl⟩
        · simp at ht
      | e :: e' :: es, ht =>
        simp only [takeE] at ht
        split at ht
        · rename_i cs' L' hc
          simp only [Option.some.injEq, Prod.mk.injEq] at ht
          obtain ⟨rfl, rfl⟩ := ht
          exact ⟨cs', hc, rfl⟩
        · simp at ht
    obtain ⟨cs', hc, rfl⟩ := ht'
    simp only [thawV, Prod.mk.injEq] at hw
    obtain ⟨rfl, rfl⟩ := hw
    have hk' : KfzL AL AH cs' := by
      rcases hk with h | h
      · exact .inl h
      · exact .inr (by simpa [noFz] using h)
    exact moveCG es cs vs L φL AL H G φ AH cs' L1 _ _ hd hh hl hx hc rfl hk'
  · have hnag : ∀ cs, x ≠ .agg cs := fun cs h => hag ⟨cs, h⟩
    match es, ht with
    | [e], ht =>
      have ht' : takeT e x L = some (y, L1) := by
        cases x <;> first | (simpa only [takeE] using ht) | exact absurd rfl (hnag _)
      by_cases hu : x = .undef
      · subst hu
        have hv0 : vs = [] := List.eq_nil_of_length_eq_zero (by simpa [AV.cells] using hl.symm)
        subst hv0
        obtain ⟨φ1, m, _, _, h4⟩ := moveTG e .undef undef L φL AL H G φ AH y L1 a H1 hd hh (.fr _ _ (.undef _)) ht' hw hk
        exact ⟨φ1, m, by rw [h4 rfl], by simp⟩
      · have hc1 := cells_one hu hnag
        rw [hc1] at hl
        obtain ⟨v, rfl⟩ : ∃ v, vs = [v] := by
          match vs, hl with
          | [v], _ => exact ⟨v, rfl⟩
        obtain ⟨φ1, m, h2, h3, _⟩ := moveTG e x v L φL AL H G φ AH y L1 a H1 hd hh (hx 0 x v (by rw [hc1]; rfl) rfl) ht' hw hk
        refine ⟨φ1, m, by rw [h3 hu, hc1]; rfl, fun j c u hj hu' => ?_⟩
        rw [h3 hu] at hj
        cases j with
        | zero => simp at hj hu'; subst hj; subst hu'; exact h2
        | succ j => simp at hj
    | [], ht => cases x <;> first | (simp [takeE] at ht; done) | exact absurd rfl (hnag _)
    | _ :: _ :: _, ht => cases x <;> first | (simp [takeE] at ht; done) | exact absurd rfl (hnag _)
  termination_by (SizeOf.sizeOf es, 1)
theorem moveCG (es : List Sh) (cs : List AV) (vs : List Value) (L : Heap) (φL : Phi) (AL : Avoid) (H G : Heap) (φ : Phi) (AH : Avoid) (ys : List AV) (L1 : Heap) (as : List AV) (H1 : Heap) (hd : Duo w L φL AL G φ AH) (hh : GH G φ H H1) (hl : cs.length = vs.length)
    (hx : ∀ (j : Nat) (c : AV) (u : Value), cs[j]? = some c → vs[j]? = some u → R w L φL AL c u) (ht : takeC es cs L = some (ys, L1)) (hw : thawL ys H = (as, H1)) (hk : KfzL AL AH ys) :
    ∃ φ1, MG w L φL AL G φ AH L1 φ1 H.bs.length H1.bs.length ∧ as.length = cs.length ∧ ∀ (j : Nat) (c : AV) (u : Value), as[j]? = some c → vs[j]? = some u → R w G φ1 AH c u := by
  match es, cs, ht with
  | [], [], ht =>
    simp only [takeC, Option.some.injEq, Prod.mk.injEq] at ht
    obtain ⟨rfl, rfl⟩ := ht
    simp only [thawL, Prod.mk.injEq] at hw
    obtain ⟨rfl, rfl⟩ := hw
    exact ⟨φ, .refl hd _, rfl, by simp⟩
  | e :: es, x :: cs, ht =>
    simp only [takeC] at ht
    split at ht
    · rename_i y L' h1
      split at ht
      · rename_i ys' L'' h2
        simp only [Option.some.injEq, Prod.mk.injEq] at ht
        obtain ⟨rfl, rfl⟩ := ht
        simp only [thawL, Prod.mk.injEq] at hw
        obtain ⟨rfl, rfl⟩ := hw
        obtain ⟨k1, k2⟩ := hk.cons
        match vs, hl with
        | v :: vs, hl =>
          obtain ⟨φ1, m1, r1, _, _⟩ := moveTG e x v L φL AL H G φ AH y L' _ _ hd (hh.fst (thawL_grow _ _)) (hx 0 x v rfl rfl) h1 rfl k1
          obtain ⟨φ2, m2, l2, r2⟩ := moveCG es cs vs L' (restr φL L') AL _ G φ1 AH ys' L'' _ _ m1.duo (hh.snd m1) (by simpa using hl) (fun j c u hj hu => (hx (j + 1) c u hj hu).mono (lessEvo m1.less)) h2 rfl k2
          refine ⟨φ2, m1.trans m2, by simp [l2], fun j c u hj hu => ?_⟩
          cases j with
          | zero => simp at hj hu; subst hj; subst hu; exact r1.mono m2.eh
          | succ j => exact r2 j c u hj hu
      · simp at ht
    · simp at ht
  | [], _ :: _, ht => simp [takeC] at ht
  | _ :: _, [], ht => simp [takeC] at ht
  termination_by (SizeOf.sizeOf es, 0)
end
end duo
end Go.VS

/-
  VS, part 34: a quiet call, in open order.
-/
namespace Go.VS

section duo
variable {w : World} {AL AH : Avoid}

theorem moveVG {es : List Sh} {x : AV} {v : Value} {L : Heap} {φL : Phi} {H G : Heap} {φ : Phi} {y : AV} {L1 : Heap} {a : AV} {H1 : Heap} (hd : Duo w L φL AL G φ AH) (hh : GH G φ H H1) (hx : R w L φL AL x v)
    (ht : takeE es x L = some (y, L1)) (hw : thawV y H = (a, H1)) (hk : Kfz AL AH y) : ∃ φ1, MG w L φL AL G φ AH L1 φ1 H.bs.length H1.bs.length ∧ R w G φ1 AH a v := by
  by_cases hag : ∃ cs, x = .agg cs
  · obtain ⟨cs, rfl⟩ := hag
    obtain ⟨cs', hc, rfl⟩ := takeE_agg ht
    simp only [thawV, Prod.mk.injEq] at hw
    obtain ⟨rfl, rfl⟩ := hw
    have hk' : KfzL AL AH cs' := by
      rcases hk with h | h
      · exact .inl h
      · exact .inr (by simpa [noFz] using h)
    obtain ⟨vs, rfl, hl, ho, hp⟩ := hx.agg_inv
    obtain ⟨φ1, m, l1, r1⟩ := moveCG es cs vs.toList L φL AL H G φ AH cs' L1 _ _ hd hh (by simpa using hl) (fun j c u hj hu => hp j c u hj (by simpa using hu)) hc rfl hk'
    exact ⟨φ1, m, .agg _ _ (by rw [l1, hl]) ho fun i x v hx hv => r1 i x v hx (by simpa using hv)⟩
  · obtain ⟨e, rfl, ht'⟩ := takeE_one (fun cs h => hag ⟨cs, h⟩) ht
    obtain ⟨φ1, m, r, _⟩ := moveTG e x v L φL AL H G φ AH y L1 a H1 hd hh hx ht' hw hk
    exact ⟨φ1, m, r⟩

theorem moveValsG : ∀ (sh : List (List Sh)) (rs : List AV) (us : List Value) (L : Heap) (φL : Phi) (H G : Heap) (φ : Phi) (ys : List AV) (L1 : Heap), Duo w L φL AL G φ AH → GH G φ H (thawL ys H).2 → rs.length = us.length →
    (∀ (i : Nat) (x : AV) (u : Value), rs[i]? = some x → us[i]? = some u → R w L φL AL x u) → takeVals sh rs L = some (ys, L1) → KfzL AL AH ys →
    ∃ φ1, MG w L φL AL G φ AH L1 φ1 H.bs.length (thawL ys H).2.bs.length ∧ (thawL ys H).1.length = us.length ∧ ∀ (i : Nat) (x : AV) (u : Value), (thawL ys H).1[i]? = some x → us[i]? = some u → R w G φ1 AH x u
  | sh, [], us, L, φL, H, G, φ, ys, L1, hd, hh, hl, hr, ht, hk => by
    simp only [takeVals, Option.some.injEq, Prod.mk.injEq] at ht
    obtain ⟨rfl, rfl⟩ := ht
    exact ⟨φ, .refl hd _, hl, by simp [thawL]⟩
  | sh, x :: rs, u :: us, L, φL, H, G, φ, ys, L1, hd, hh, hl, hr, ht, hk => by
    simp only [takeVals] at ht
    split at ht
    rotate_left
    · simp at ht
    rename_i y L' h1
    split at ht
    rotate_left
    · simp at ht
    rename_i ys' L'' h2
    simp only [Option.some.injEq, Prod.mk.injEq] at ht
    obtain ⟨rfl, rfl⟩ := ht
    obtain ⟨k1, k2⟩ := hk.cons
    obtain ⟨φ1, m1, r1⟩ := moveVG (y := y) (H := H) hd (hh.fst (H1 := (thawV y H).2) (thawL_grow ys' (thawV y H).2)) (hr 0 x u rfl rfl) h1 rfl k1
    obtain ⟨φ2, m2, l2, r2⟩ := moveValsG sh.tail rs us L' (restr φL L') (thawV y H).2 G φ1 ys' L'' m1.duo (hh.snd m1) (by simpa using hl) (fun i x u hx hu => (hr (i + 1) x u hx hu).mono (lessEvo m1.less)) h2 k2
    refine ⟨φ2, m1.trans m2, by simp [thawL, l2], fun i x' u' hx hu => ?_⟩
    cases i with
    | zero => simp [thawL] at hx hu; subst hx; subst hu; exact r1.mono m2.eh
    | succ i => simp only [thawL, List.getElem?_cons_succ] at hx hu; exact r2 i x' u' hx hu
  | sh, x :: rs, [], L, φL, H, G, φ, ys, L1, hd, hh, hl, hr, ht, hk => by simp at hl
end duo

theorem snap_ext {H G : Heap} (h : Ext H G) : ∀ (n : Nat) (x y : AV), snapV n H x = some y → snapV n G x = some y
  | 0, x, y, hs => by simp [snapV] at hs
  | n + 1, x, y, hs => by
    have hm : ∀ (xs ys : List AV), xs.mapM (snapV n H) = some ys → xs.mapM (snapV n G) = some ys := by
      intro xs
      induction xs with
      | nil => intro ys h; simpa using h
      | cons z xs ih =>
        intro ys hy
        simp only [List.mapM_cons, Option.bind_eq_bind, Option.bind_eq_some_iff, Option.pure_def, Option.some.injEq] at hy ⊢
        obtain ⟨a, h1, b, h2, h3⟩ := hy
        exact ⟨a, snap_ext h n z a h1, b, ih b h2, h3⟩
    cases x with
    | agg cs =>
      simp only [snapV, Option.map_eq_some_iff] at hs ⊢
      obtain ⟨ys, h1, h2⟩ := hs
      exact ⟨ys, hm _ _ h1, h2⟩
    | fn f cs =>
      simp only [snapV, Option.map_eq_some_iff] at hs ⊢
      obtain ⟨ys, h1, h2⟩ := hs
      exact ⟨ys, hm _ _ h1, h2⟩
    | ref id ver off len =>
      simp only [snapV] at hs ⊢
      split at hs
      · rename_i b hb
        rw [h.blk hb]
        simp only
        split at hs
        · rename_i hle
          rw [if_pos hle]
          simp only [Option.map_eq_some_iff] at hs ⊢
          obtain ⟨ys, h1, h2⟩ := hs
          exact ⟨ys, hm _ _ h1, h2⟩
        · simp at hs
      · simp at hs
    | ptr id ver idx off =>
      simp only [snapV] at hs ⊢
      split at hs
      · rename_i b hb
        rw [h.blk hb]
        simp only
        split at hs
        · rename_i z hz
          simp only [Option.map_eq_some_iff] at hs ⊢
          obtain ⟨y', h1, h2⟩ := hs
          exact ⟨y', snap_ext h n z y' h1, h2⟩
        · simp at hs
      · simp at hs
    | _ => first | (simpa only [snapV] using hs) | (simp [snapV] at hs; done)

theorem prepVal_ext {H G : Heap} (h : Ext H G) : ∀ (ms : List Mode) (as ys : List AV) (b : Bool), prepVal ms as H = some (ys, b) → prepVal ms as G = some (ys, b)
  | ms, [], ys, b, hp => by cases ms <;> simpa only [prepVal] using hp
  | [], a :: as, ys, b, hp => by
    simp only [prepVal] at hp ⊢
    split at hp
    · rename_i y hy
      split at hp
      · rename_i ys' b' hys
        rw [snap_ext h 8 a y hy, prepVal_ext h [] as ys' b' hys]
        exact hp
      · simp at hp
    · simp at hp
  | m :: ms, a :: as, ys, b, hp => by
    have other : (match prepVal ms as H with | some (ys, b) => some (a :: ys, b) | none => none) = some (ys, b) → (match prepVal ms as G with | some (ys, b) => some (a :: ys, b) | none => none) = some (ys, b) := by
      intro hp
      split at hp
      · rename_i ys' b' hys
        rw [prepVal_ext h ms as ys' b' hys]
        exact hp
      · simp at hp
    cases m with
    | val =>
      simp only [prepVal] at hp ⊢
      split at hp
      · rename_i y hy
        split at hp
        · rename_i ys' b' hys
          rw [snap_ext h 8 a y hy, prepVal_ext h ms as ys' b' hys]
          exact hp
        · simp at hp
      · simp at hp
    | mov =>
      simp only [prepVal] at hp ⊢
      split at hp
      · rename_i ys' b' hys
        rw [prepVal_ext h ms as ys' b' hys]
        exact hp
      · simp at hp
    | io =>
      simp only [prepVal] at hp ⊢
      split at hp
      · rename_i ys' b' hys
        rw [prepVal_ext h ms as ys' b' hys]
        exact hp
      · simp at hp

/-- What a quiet call comes to. -/
def CResG (w : World) (G : Heap) (φ : Phi) (A : Avoid) (H H' : Heap) (x : AV) (e : Ending) (w' : World) : Prop :=
  match e with
  | .returned v' => ∃ φ' A', Out w G φ A w' G φ' A' ∧ R w' G φ' A' x v' ∧ ∀ id loc, φ' id = some loc → φ id = some loc ∨ (H.bs.length ≤ id ∧ id < H'.bs.length)
  | _ => False

theorem callSimG {P : Program} {C : Ctx} {X : CallRel} (hX : ∀ f ys H K, X f ys H K → Sim P f ys H K) {w : World} {G : Heap} {φ : Phi} {A : Avoid} (hst : St w G φ A) {H H' : Heap} (hg : Ext H G) (hh : GH G φ H H') {f : FuncId} {as : List AV} {us : Array Value} (hl : as.length = us.size)
    (hr : ∀ (i : Nat) (x : AV) (u : Value), as[i]? = some x → us[i]? = some u → R w G φ A x u) {th : Bool} {x : AV} (h : wpCallQ X C f as th H (fun v1 H1 => v1 = x ∧ H1 = H')) : Callable P f ∧ Calls P f us w (CResG w G φ A H H' x) := by
  unfold wpCallQ at h
  split at h
  · exact h.elim
  rename_i ys lent hy
  obtain ⟨y, hXf, hfz, hp⟩ := h
  have hm : allVal [] := fun m hm => by simp at hm
  have hd0 : Duo w G φ A ⟨0, []⟩ (fun _ => none) A := by
    refine ⟨hst, ⟨fun i i' c b b' h => by simp at h, fun c hc => ?_, hst.bnd, fun id loc h => by simp at h⟩, fun c _ hc => ?_, hst.own⟩
    · obtain ⟨i, b, h⟩ := hc; simp at h
    · obtain ⟨i, b, h⟩ := hc; simp at h
  have hva : thawArgs [] ys ⟨0, []⟩ = (ys, ⟨0, []⟩) := thawArgs_snap _ _ _ hy _
  obtain ⟨φ0, m, hin, hro⟩ := handIn as [] [] us.toList G φ as G ys lent ⟨0, []⟩ (fun _ => none) ys ⟨0, []⟩ hd0 (by simpa using hl) (fun i x u hx hu => hr i x u hx (by simpa using hu)) (prepMove_val _ _ _ _ hm) (prepVal_ext hg _ _ _ _ hy) hva
  have hsub : ∀ c, ¬ Ow φ0 c := fun c hc => by
    rcases m.oh c hc with ⟨i, b, h⟩ | ⟨h1, h2⟩
    · simp at h
    · rw [restr_self hst] at h2; exact h2 h1
  let A0 : Avoid := if lent = true then Ow φ0 else A
  have hA0 : ∀ c, A0 c → A c := by
    intro c hc
    simp only [A0] at hc
    split at hc
    · exact absurd hc (hsub c)
    · exact hc
  have hB0 : lent = true → ∀ c, A0 c → lentA (restr φ G) A c := by
    intro hlt c hc
    simp only [A0, hlt, if_true] at hc
    exact absurd hc (hsub c)
  have hst0 : St w ⟨0, []⟩ φ0 A0 := m.duo.sh.shrink hA0 (fun c hc => absurd hc (hsub c))
  have hvl : ys.length = us.size := by simpa using hin.1
  refine ⟨(hX _ _ _ _ hXf).1, ((hX _ _ _ _ hXf).2 w A0 φ0 us hst0 hvl (fun i x u hx hu => hin.2 A0 hA0 hB0 i x u hx (by simpa using hu))).mono fun e w' he => ?_⟩
  cases e with
  | panicked c => exact he.elim
  | outgrown => exact he.elim
  | returned v' =>
  obtain ⟨x0, L, φ', A', ho, hRx, rs, zs', L2, rfl, htv, rfl⟩ := he
  obtain ⟨rus, rfl, hrl, hrr⟩ := one_R hRx
  let AH : Avoid := if lent = true then fun c => A c ∨ (A' c ∧ w.heap.size ≤ c) else A'
  have hown' : ∀ c, Ow φ' c → w.heap.size ≤ c := fun c hc => (ho.post.own c hc).resolve_left (hsub c)
  have ha : AHok w A φ0 w' φ' AH := by
    refine ⟨fun c hc hn => ?_, fun c hc => ?_, fun c hc => ?_, fun c arr T fr hc hn => ?_⟩
    · simp only [AH]
      split
      · exact .inl hc
      · rename_i hlt
        refine ho.keep c ?_ hn
        simp only [A0, hlt]; exact hc
    · simp only [AH]
      split
      · exact .inr ⟨ho.st.own c hc, hown' c hc⟩
      · exact ho.st.own c hc
    · simp only [AH] at hc
      split at hc
      · rcases hc with h | ⟨h, _⟩
        · exact Nat.lt_of_lt_of_le (hst.bnd c h) ho.post.size
        · exact ho.st.bnd c h
      · exact ho.st.bnd c hc
    · obtain ⟨h1, h2⟩ := ho.evo.fz c arr T fr hc (fun h => hn (hA0 c h))
      refine ⟨h1, ?_⟩
      simp only [AH]
      split
      · rintro (h | ⟨_, h⟩)
        · exact hn h
        · have : c < w.heap.size := by rcases Nat.lt_or_ge c w.heap.size with h' | h'; · exact h'
                                       · rw [Array.getElem?_eq_none h'] at hc; simp at hc
          omega
      · exact h2
  obtain ⟨D, E⟩ := junk_ok (ls := []) (Lm := L) hst m (by rw [hl, hvl]) hro ho ha (by simp [takeRoots])
  rw [putJunk_val _ _ _ _ hm, restr_self hst] at D E
  have hkf : KfzL A' AH zs' := by
    cases hlt : lent with
    | false => exact .inl fun c h => by simpa [AH, hlt] using h
    | true =>
      rcases hfz with h | h
      · rw [hlt] at h; simp at h
      · rw [noFz_one] at h
        exact .inr h
  have hrs : ∀ (i : Nat) (x : AV) (u : Value), rs[i]? = some x → rus[i]? = some u → R w' L (restr φ' L) A' x u := fun i x u hx hu => by
    rw [restr_self ho.st]
    exact hrr i x u hx hu
  have hpost : ∀ {φ3 : Phi}, (∀ c, Ow φ3 c → Ow φ c ∨ Ow φ' c) → Post w φ w' φ3 := fun hq =>
    ⟨ho.post.os, ho.post.tape, ho.post.output, ho.post.size, fun c hc _ => ho.post.kept c hc (hsub c), ho.post.bsz, fun c hc => by
      rcases hq c hc with h | h
      · exact .inl h
      · exact .inr (hown' c h)⟩
  have hkeep : ∀ c, A c → ¬ Ow φ c → AH c := fun c hc _ => ha.own c hc (hsub c)
  have hbs : ∀ c, Ow φ c → bsz w' c = bsz w c := fun c hc => ho.post.bsz c (Ow.lt hst hc)
  cases htl : (th || lent) with
  | true =>
    rw [htl] at hp
    simp only [if_true, thaw_one] at hp
    obtain ⟨rfl, rfl⟩ := hp
    obtain ⟨φ3, m3, l3, r3⟩ := moveValsG _ rs rus L _ H G φ zs' L2 D hh hrl hrs htv hkf
    refine ⟨φ3, AH, ⟨m3.duo.sh, hpost fun c hc => ?_, E.trans m3.eh hbs, hkeep⟩, R_one l3 r3, m3.new⟩
    rcases m3.oh c hc with h | ⟨h, _⟩
    · exact .inl h
    · exact .inr (restr_ow h)
  | false =>
    rw [htl] at hp
    simp only [Bool.false_eq_true, if_false, frz_one] at hp
    obtain ⟨rfl, rfl⟩ := hp
    simp only [Bool.or_eq_false_iff] at htl
    have hAH : AH = A' := by simp [AH, htl.2]
    rw [hAH] at D E hkeep
    let A2 : Avoid := gone (restr φ' L) A' L2
    obtain ⟨l3, r3⟩ := frzVals (A' := A2) _ rs rus L (restr φ' L) zs' L2 D.sl hrl hrs htv (fun c h => h)
    have hA2 : ∀ c, Ow φ c → A2 c := fun c hc => ⟨D.sh.own c hc, fun h => absurd hc (D.dis c h)⟩
    have hE2 : Evo w G φ A w' G φ A2 := ⟨fun c arr T fr hc hn => ⟨(E.fz c arr T fr hc hn).1, fun h2 => (E.fz c arr T fr hc hn).2 h2.1⟩, E.st, E.ids, E.sz⟩
    refine ⟨φ, A2, ⟨D.sh.shrink (fun c h => h.1) hA2, hpost fun c hc => .inl hc, hE2, fun c hc hn => ⟨hkeep c hc hn, fun h => ?_⟩⟩, .fr _ _ (FR_one l3 r3), fun id loc h => .inl h⟩
    have := hown' c (restr_ow h)
    have := hst.bnd c hc
    omega
end Go.VS

/-
  VS, part 35: one quiet operation, in open order.
-/
namespace Go.VS

/-- Nothing old has turned. -/
def Old (H H1 : Heap) : Prop := ∀ id b, H1.get id = some b → b.ver < H.st → H.get id = some b
def QG (H H1 : Heap) : Prop := Grow H H1 ∧ Old H H1

theorem QG.refl (H : Heap) : QG H H := ⟨.refl _, fun _ _ h _ => h⟩
theorem QG.trans {H H1 H2 : Heap} (h : QG H H1) (k : QG H1 H2) : QG H H2 :=
  ⟨h.1.trans k.1, fun id b hb hv => h.2 id b (k.2 id b hb (Nat.lt_of_lt_of_le hv h.1.1.2)) hv⟩
theorem QG.of {H H' : Heap} (h : H' = H ∨ ∃ sz fx el, H' = H.new sz fx el) : QG H H' := by
  obtain ⟨h1, h2, h3⟩ := Heap.ext_old h
  exact ⟨⟨h1, h3⟩, h2⟩
theorem QG.new (H : Heap) (sz : Nat) (fx : Bool) (el : List AV) : QG H (H.new sz fx el) := .of (.inr ⟨_, _, _, rfl⟩)

mutual
theorem thawV_qg : ∀ (y : AV) (H : Heap), QG H (thawV y H).2
  | .own sz xs, H => by simp only [thawV]; exact (thawL_qg xs H).trans (.new _ _ _ _)
  | .optr sz x, H => by simp only [thawV]; exact (thawV_qg x H).trans (.new _ _ _ _)
  | .agg xs, H => by simp only [thawV]; exact thawL_qg xs H
  | .tup xs, H => by simp only [thawV]; exact thawL_qg xs H
  | .undef, H => .refl _
  | .int _ _, H => .refl _
  | .bool _, H => .refl _
  | .str _, H => .refl _
  | .nil, H => .refl _
  | .e0, H => .refl _
  | .fz _, H => .refl _
  | .ref _ _ _ _, H => .refl _
  | .ptr _ _ _ _, H => .refl _
  | .fe _ _, H => .refl _
  | .fn _ _, H => .refl _
  | .errv _, H => .refl _
  | .nilp, H => .refl _
theorem thawL_qg : ∀ (ys : List AV) (H : Heap), QG H (thawL ys H).2
  | [], H => .refl _
  | y :: ys, H => by simp only [thawL]; exact (thawV_qg y H).trans (thawL_qg ys _)
end

section ops
variable {P : Program} {E : TEnv} (hE : ∀ t ti, E t = some ti → TyOK P t ti)
variable {w : World} {G : Heap} {φ : Phi} {A : Avoid}

theorem quietBuiltin_qg {b : Builtin} {tys : Array TypeId} {args : List AV} {H H' : Heap} {z : AV} (hq : quietBuiltin b args = true) (h : evalBuiltin E b tys args H = some (z, H')) : QG H H' := by
  have hap : ∀ {te : TI} {s x : AV}, s = .nil ∨ s = .e0 → appendA te s x H = some (z, H') → QG H H' := by
    intro te s x hs h
    refine .of ?_
    rcases hs with rfl | rfl
    all_goals
      simp only [appendA] at h
      repeat' split at h
      all_goals first
        | (simp at h; done)
        | (simp only [Option.some.injEq, Prod.mk.injEq] at h; first | exact .inl h.2.symm | exact .inr ⟨_, _, _, h.2.symm⟩)
  unfold evalBuiltin at h
  split at h
  · repeat' split at h
    all_goals first
      | (simp at h; done)
      | (simp only [Option.some.injEq, Prod.mk.injEq] at h; rw [← h.2]; exact .refl _)
  · rename_i s x
    have hs : s = .nil ∨ s = .e0 := by
      cases s <;> first | exact .inl rfl | exact .inr rfl | (simp [quietBuiltin] at hq)
    split at h
    · split at h
      · split at h
        · split at h
          · unfold appendZ at h
            refine .of ?_
            repeat' split at h
            all_goals first
              | (simp at h; done)
              | (simp only [Option.some.injEq, Prod.mk.injEq] at h; first | exact .inl h.2.symm | exact .inr ⟨_, _, _, h.2.symm⟩)
          · simp at h
        · exact hap hs h
      · simp at h
    · simp at h
  · simp [quietBuiltin] at hq
  · simp [quietBuiltin] at hq
  · split at h
    · simp only [Option.some.injEq, Prod.mk.injEq] at h; rw [← h.2]; exact .refl _
    · simp at h
  · split at h
    · simp only [Option.some.injEq, Prod.mk.injEq] at h; rw [← h.2]; exact .refl _
    · simp at h
  · split at h
    · split at h
      · simp only [Option.some.injEq, Prod.mk.injEq] at h; rw [← h.2]; exact .refl _
      · simp at h
    · simp at h
  · simp at h

include hE in
theorem simBuiltinQ (hst : St w G φ A) {H H' : Heap} (hX : Ext H G) (hX' : Ext H' G) (hnew : H.bs.length < H'.bs.length → φ H.bs.length = none) {b : Builtin} {tys : Array TypeId} {ty : TypeId} {consts : Array Bool} {args : List AV} {vs : Array Value} {z : AV} (hq : quietBuiltin b args = true) (hl : args.length = vs.size)
    (hρ : ∀ (i : Nat) (a : AV) (u : Value), args[i]? = some a → vs[i]? = some u → R w G φ A a u) (h : evalBuiltin E b tys args H = some (z, H')) :
    QRes w G φ A H H' ((builtin b tys ty consts vs).run P w) z := by
  unfold evalBuiltin at h
  split at h
  · rename_i x
    obtain ⟨a, rfl⟩ : ∃ a, vs = #[a] := by
      have h1 : vs.size = 1 := hl.symm
      exact ⟨vs[0], by apply Array.ext; simp [h1]; intro i h1 h2; simp at h2; subst h2; rfl⟩
    have hx := hρ 0 x a rfl rfl
    split at h
    · rename_i ti n ht hn
      obtain ⟨t, h0, ht⟩ := Option.bind_eq_some_iff.1 ht
      have key : ∀ {q : AV × Heap}, some q = some (z, H') → q = (AV.int .i64 n, H) → ((∃ e, ti.und = .sl e ∧ ∀ s, x ≠ .str s) ∨ (ti.und = .str ∧ ∃ s, x = .str s)) → QRes w G φ A H H' ((builtin .len tys ty consts #[a]).run P w) z := by
        intro q hq hqe hu
        subst hqe
        simp only [Option.some.injEq, Prod.mk.injEq] at hq
        obtain ⟨rfl, rfl⟩ := hq
        have := v_len (tys := tys) (ty := ty) hE h0 hx hX hn ht hu
        exact QRes.val hst (by simp [builtin, this]) (.fr _ _ (.int _ _))
      split at h
      · rename_i s hu
        exact key h rfl (.inr ⟨hu, s, rfl⟩)
      · simp at h
      · rename_i e hu hne
        exact key h rfl (.inl ⟨e, hu, fun s hs => hne s hs⟩)
      · simp at h
    · simp at h
  · rename_i s x
    obtain ⟨a, b, rfl⟩ : ∃ a b, vs = #[a, b] := by
      have h1 : vs.size = 2 := hl.symm
      exact ⟨vs[0], vs[1], by apply Array.ext; simp [h1]; intro i h1 h2; simp at h2; rcases i with _ | _ | i; rfl; rfl; omega⟩
    have hs := hρ 0 s a rfl rfl
    have hx := hρ 1 x b rfl rfl
    have hs0 : s = .nil ∨ s = .e0 := by
      cases s <;> first | exact .inl rfl | exact .inr rfl | (simp [quietBuiltin] at hq)
    split at h
    · rename_i t h0
      split at h
      · rename_i te tx hte htx
        obtain ⟨t2, h1, htx⟩ := Option.bind_eq_some_iff.1 htx
        split at h
        · rename_i k hit
          split at h
          · exact q_appendZ hE hst hX' hnew h0 h1 hte htx hit hs hx h
          · simp at h
        · rename_i hne
          exact q_append0 hE hst hX hX' hnew h0 h1 hte htx (fun k hk => hne k hk) hs hx hs0 h
      · simp at h
    · simp at h
  · simp [quietBuiltin] at hq
  · simp [quietBuiltin] at hq
  · split at h
    · rename_i v hv
      simp only [Option.some.injEq, Prod.mk.injEq] at h
      obtain ⟨rfl, rfl⟩ := h
      cases args with
      | nil => simp [minA] at hv
      | cons x rest =>
        obtain ⟨a, us, hus⟩ : ∃ a us, vs.toList = a :: us := by
          cases hvl : vs.toList with
          | nil => have := congrArg List.length hvl; simp at this; simp [this] at hl
          | cons a us => exact ⟨a, us, rfl⟩
        have hlen : rest.length = us.length := by have := congrArg List.length hus; simp at this; simp at hl; omega
        have hget : ∀ (i : Nat) (u : Value), (a :: us)[i]? = some u → vs[i]? = some u := fun i u hu => by rw [← hus] at hu; simpa using hu
        obtain ⟨u, hu, hz⟩ := minmax_ok (P := P) (op := Builtin.min2) (f := fun a b => match a, b with | .int k x, .int _ y => some (.int k (if y < x then y else x)) | _, _ => none) (fun a b x y z ha hb hf => by
          split at hf
          · have e1 := ha.int_inv; have e2 := hb.int_inv; subst e1; subst e2
            simp only [Option.some.injEq] at hf; subst hf
            exact ⟨_, by simp [Builtin.min2], .fr _ _ (.int _ _)⟩
          · simp at hf) rest us x a v hlen (fun i p q hp hq => hρ (i + 1) p q hp (hget (i + 1) q hq)) (hρ 0 x a rfl (hget 0 a rfl)) hv
        exact QRes.val hst (by simp [builtin, Builtin.min_, hus, hu]) hz
    · simp at h
  · split at h
    · rename_i v hv
      simp only [Option.some.injEq, Prod.mk.injEq] at h
      obtain ⟨rfl, rfl⟩ := h
      cases args with
      | nil => simp [maxA] at hv
      | cons x rest =>
        obtain ⟨a, us, hus⟩ : ∃ a us, vs.toList = a :: us := by
          cases hvl : vs.toList with
          | nil => have := congrArg List.length hvl; simp at this; simp [this] at hl
          | cons a us => exact ⟨a, us, rfl⟩
        have hlen : rest.length = us.length := by have := congrArg List.length hus; simp at this; simp at hl; omega
        have hget : ∀ (i : Nat) (u : Value), (a :: us)[i]? = some u → vs[i]? = some u := fun i u hu => by rw [← hus] at hu; simpa using hu
        obtain ⟨u, hu, hz⟩ := minmax_ok (P := P) (op := Builtin.max2) (f := fun a b => match a, b with | .int k x, .int _ y => some (.int k (if y > x then y else x)) | _, _ => none) (fun a b x y z ha hb hf => by
          split at hf
          · have e1 := ha.int_inv; have e2 := hb.int_inv; subst e1; subst e2
            simp only [Option.some.injEq] at hf; subst hf
            exact ⟨_, by simp [Builtin.max2], .fr _ _ (.int _ _)⟩
          · simp at hf) rest us x a v hlen (fun i p q hp hq => hρ (i + 1) p q hp (hget (i + 1) q hq)) (hρ 0 x a rfl (hget 0 a rfl)) hv
        exact QRes.val hst (by simp [builtin, Builtin.max_, hus, hu]) hz
    · simp at h
  · obtain ⟨a, rfl⟩ : ∃ a, vs = #[a] := by
      have h1 : vs.size = 1 := hl.symm
      exact ⟨vs[0], by apply Array.ext; simp [h1]; intro i h1 h2; simp at h2; subst h2; rfl⟩
    have hx := (hρ 0 .nil a rfl rfl).nil_inv
    subst hx
    split at h
    · rename_i ti ht
      obtain ⟨t, h0, ht⟩ := Option.bind_eq_some_iff.1 ht
      split at h
      · rename_i e hu
        simp only [Option.some.injEq, Prod.mk.injEq] at h
        obtain ⟨rfl, rfl⟩ := h
        have hc : (Builtin.cap_ tys ty #[.slice none 0 0]).run P w = .ok (.int .i64 0) w := by
          unfold Builtin.cap_
          simp only [h0, List.getElem?_toArray, List.getElem?_cons_zero, Sem.run_bind, (hE _ _ ht).sl w hu, Result.andThen_ok]
          rfl
        exact QRes.val hst (by simp [builtin, hc]) (.fr _ _ (.int _ _))
      · simp at h
    · simp at h
  · simp at h
end ops

section step
variable {P : Program} {C : Ctx} {X : CallRel} {w : World} {G : Heap} {φ : Phi} {A : Avoid}

theorem QRes.upon {H H' : Heap} {r : Result Next} {x : AV} (h : QRes w G φ A H H' r x) {o : Oper} {a : Act} {next : Act → World → Prop} {Q : Exit → Act → World → Prop}
    (hn : ∀ v w' φ' A', Out w G φ A w' G φ' A' → R w' G φ' A' x v → (∀ id loc, φ' id = some loc → φ id = some loc ∨ (H.bs.length ≤ id ∧ id < H'.bs.length)) → next (a.put o.dst v) w') : o.upon P a next Q r := by
  obtain ⟨n, v, w', φ', A', rfl, hv, hr, ho, hi⟩ := h
  rcases hv with rfl | ⟨rfl, rfl⟩
  · exact hn v w' φ' A' ho hr hi
  · exact hn _ w' φ' A' ho hr hi

/-- One quiet operation. -/
theorem stepQ (hE : ∀ t ti, C.E t = some ti → TyOK P t ti) (hX : ∀ f ys H K, X f ys H K → Sim P f ys H K) (hst : St w G φ A) {o : Oper} {s : Frm} {a : Act} (hs : ∀ x ∈ o.op.operands, R w G φ A (ev s x) (a.eval x)) {th : Bool} {H H' : Heap} {x : AV} (hg : Ext H G) (hh : GH G φ H H')
    (h : wpOp X C true th o s H (fun v1 H1 => v1 = x ∧ H1 = H')) {next : Act → World → Prop} {Q : Exit → Act → World → Prop}
    (hn : ∀ v w' φ' A', Out w G φ A w' G φ' A' → R w' G φ' A' x v → (∀ id loc, φ' id = some loc → φ id = some loc ∨ (H.bs.length ≤ id ∧ id < H'.bs.length)) → next (a.put o.dst v) w') : o.wp P a w next Q := by
  have hnew : H.bs.length < H'.bs.length → φ H.bs.length = none := fun hlt => hh.none _ (Nat.le_refl _) hlt
  have hany : quietOp o.op = true → (match evalOp C.E o.op s H with | some (v, H1) => v = x ∧ H1 = H' | none => False) → o.wp P a w next Q := by
    intro hq hh'
    split at hh'
    · rename_i v H1 he
      obtain ⟨rfl, rfl⟩ := hh'
      exact (simQuiet hE hst hg hh.ext hnew hq hs he).upon hn
    · exact hh'.elim
  unfold wpOp at h
  split at h
  · rename_i b args tys hop
    obtain ⟨hq, h⟩ := h
    have hq := hq rfl
    split at h
    · rename_i v H1 he
      obtain ⟨rfl, rfl⟩ := h
      obtain ⟨consts, hrun⟩ := run_builtin (P := P) (w := w) (ρ := a.eval) hop
      have := simBuiltinQ hE hst hg hh.ext hnew (ty := o.type) (consts := consts) (vs := args.map a.eval) hq (by simp) (fun i x u hx hu => by
        simp only [List.getElem?_map, Option.map_eq_some_iff] at hx
        obtain ⟨y, hy, rfl⟩ := hx
        simp only [Array.getElem?_map, Option.map_eq_some_iff] at hu
        obtain ⟨y', hy', rfl⟩ := hu
        have : y' = y := by simp at hy; rw [hy] at hy'; simpa using hy'.symm
        subst this
        exact hs y' (by rw [hop]; simp only [Op.operands, Call.operands]; simp [Array.mem_of_getElem? hy'])) he
      rw [← hrun] at this
      exact this.upon hn
    · exact h.elim
  · rename_i y args tys hop
    split at h
    · rename_i g caps hg'
      simp only [if_true] at h
      have hx := hs y (by rw [hop]; simp [Op.operands, Call.operands])
      rw [hg'] at hx
      obtain ⟨vs, hv, hl, hp⟩ := hx.fn_inv
      have hc := callSimG hX hst hg hh (us := args.map a.eval ++ vs) (by simp [hl]) (fun i y u hy hu => by
        rcases Nat.lt_or_ge i args.size with hi | hi
        · rw [List.getElem?_append_left (by simpa using hi)] at hy
          rw [Array.getElem?_append_left (by simpa using hi)] at hu
          simp only [List.getElem?_map, Option.map_eq_some_iff] at hy
          obtain ⟨z, hz, rfl⟩ := hy
          simp only [Array.getElem?_map, Option.map_eq_some_iff] at hu
          obtain ⟨z', hz', rfl⟩ := hu
          have : z' = z := by simp at hz; rw [hz] at hz'; simpa using hz'.symm
          subst this
          exact hs z' (by rw [hop]; simp only [Op.operands, Call.operands]; simp [Array.mem_of_getElem? hz'])
        · rw [List.getElem?_append_right (by simpa using hi)] at hy
          rw [Array.getElem?_append_right (by simpa using hi)] at hu
          exact hp _ y u (by simpa using hy) (by simpa using hu)) h
      unfold Oper.wp
      rw [run_call hop hv hc.1, Oper.upon_enter]
      refine hc.2.mono fun e w' he => ?_
      cases e with
      | returned v' =>
        obtain ⟨φ', A', h1, h2, h3⟩ := he
        exact hn v' w' φ' A' h1 h2 h3
      | panicked c => exact he.elim
      | outgrown => exact he.elim
    · exact h.elim
  · exact hany (h.1 rfl) h.2

/-- What a quiet operation does to the heap. -/
theorem wpOp_qg {o : Oper} {s : Frm} {th : Bool} {H H' : Heap} {x : AV} (h : wpOp X C true th o s H (fun v1 H1 => v1 = x ∧ H1 = H')) : QG H H' := by
  have hany : quietOp o.op = true → (match evalOp C.E o.op s H with | some (v, H1) => v = x ∧ H1 = H' | none => False) → QG H H' := by
    intro hq hh'
    split at hh'
    · rename_i v H1 he
      obtain ⟨rfl, rfl⟩ := hh'
      exact .of (evalOp_ext hq he)
    · exact hh'.elim
  unfold wpOp at h
  split at h
  · obtain ⟨hq, h⟩ := h
    split at h
    · rename_i v H1 he
      obtain ⟨rfl, rfl⟩ := h
      exact quietBuiltin_qg (hq rfl) he
    · exact h.elim
  · split at h
    · rename_i g caps hg'
      simp only [if_true] at h
      unfold wpCallQ at h
      split at h
      · exact h.elim
      obtain ⟨y, _, _, hp⟩ := h
      split at hp
      · obtain ⟨_, rfl⟩ := hp; exact thawV_qg _ _
      · obtain ⟨_, rfl⟩ := hp; exact .refl _
    · exact h.elim
  · exact hany (h.1 rfl) h.2
end step
end Go.VS

/-
  VS, part 36: a region whose order is open: its trace in the text's order, and what its edges say.
-/
namespace Go.VS

section tr
variable {C : Ctx} {X : CallRel}

theorem wpOp_exact (hXe : Exact X) {q th : Bool} {o : Oper} {s : Frm} {H : Heap} {K : AV → Heap → Prop} (h : wpOp X C q th o s H K) : ∃ v H', wpOp X C q th o s H (fun v1 H1 => v1 = v ∧ H1 = H') ∧ K v H' := by
  unfold wpOp at h ⊢
  split at h
  · rename_i b args tys hop
    obtain ⟨hq, h⟩ := h
    split at h
    · rename_i v H' he
      refine ⟨v, H', ?_, h⟩
      first
        | exact ⟨hq, rfl, rfl⟩
        | (simp only [hop]; exact ⟨hq, trivial, trivial⟩)
        | (simp only [hop, he]; exact ⟨hq, trivial, trivial⟩)
    · exact h.elim
  · rename_i x args tys hop
    split at h
    · rename_i g caps hg
      have hQ : wpCallQ X C g (args.toList.map (ev s) ++ caps) th H K → ∃ v H', wpCallQ X C g (args.toList.map (ev s) ++ caps) th H (fun v1 H1 => v1 = v ∧ H1 = H') ∧ K v H' := by
        intro h
        unfold wpCallQ at h ⊢
        split at h
        · exact h.elim
        rename_i ys lent hy
        obtain ⟨y, h1, h2, h3⟩ := h
        split at h3
        · rename_i ht
          refine ⟨_, _, ⟨y, h1, h2, ?_⟩, h3⟩
          simp only [ht, if_true]
          exact ⟨trivial, trivial⟩
        · rename_i ht
          refine ⟨_, _, ⟨y, h1, h2, ?_⟩, h3⟩
          simp only [ht]
          exact ⟨trivial, trivial⟩
      have key : ∃ v H', (if q then wpCallQ X C g (args.toList.map (ev s) ++ caps) th H (fun v1 H1 => v1 = v ∧ H1 = H') else X g (args.toList.map (ev s) ++ caps) H (fun v1 H1 => v1 = v ∧ H1 = H') ∨ wpCallQ X C g (args.toList.map (ev s) ++ caps) th H (fun v1 H1 => v1 = v ∧ H1 = H')) ∧ K v H' := by
        cases q with
        | false =>
          simp only [Bool.false_eq_true, if_false] at h ⊢
          rcases h with h | h
          · obtain ⟨v, H', h1, h2⟩ := hXe _ _ _ _ h; exact ⟨v, H', .inl h1, h2⟩
          · obtain ⟨v, H', h1, h2⟩ := hQ h; exact ⟨v, H', .inr h1, h2⟩
        | true =>
          simp only [if_true] at h ⊢
          exact hQ h
      obtain ⟨v, H', k1, k2⟩ := key
      refine ⟨v, H', ?_, k2⟩
      first
        | exact k1
        | (simp only [hop, hg]; exact k1)
    · exact h.elim
  · rename_i op hn1 hn2
    obtain ⟨hq, h⟩ := h
    split at h
    · rename_i v H' he
      refine ⟨v, H', ?_, h⟩
      exact ⟨hq, rfl, rfl⟩
    · exact h.elim

theorem lateAll_iff (C : Ctx) (ops : Array Oper) (s : Frm) (H : Heap) (K : Prop) : ∀ (l : List Nat), lateAll C ops s H K l → (∀ j ∈ l, lateChk C ops s H j) ∧ K
  | [], h => ⟨by simp, h⟩
  | j :: js, h => by
    obtain ⟨h1, h2⟩ := h
    obtain ⟨k1, k2⟩ := lateAll_iff C ops s H K js h2
    refine ⟨fun i hi => ?_, k2⟩
    rcases List.mem_cons.1 hi with rfl | hi
    · exact h1
    · exact k1 i hi

/-- A region's run in the text's order. -/
structure Tr (X : CallRel) (C : Ctx) (ops : Array Oper) (q : Nat → Bool) (late : Nat → List Nat) (th : List Nat) (K : Frm → Heap → Prop) (l : List Oper) (k : Nat) (s : Nat → Frm) (H : Nat → Heap) (v : Nat → AV) (act : Nat → Bool) : Prop where
  step : ∀ i o, l[i]? = some o → s (i + 1) = setA (s i) o.dst (v i) ∧ guardA ops o (s i) = some (act i) ∧ (act i = true → wpOp X C (q (k + i)) (th.contains (k + i)) o (s i) (H i) (fun v1 H1 => v1 = v i ∧ H1 = H (i + 1))) ∧
    (act i = false → v i = .tup [] ∧ H (i + 1) = H i) ∧ ∀ j ∈ late (k + i), lateChk C ops (s (i + 1)) (H (i + 1)) j
  fin : K (s l.length) (H l.length)

theorem tr_of (hXe : Exact X) {ops : Array Oper} {q : Nat → Bool} {late : Nat → List Nat} {th : List Nat} {K : Frm → Heap → Prop} : ∀ (l : List Oper) (k : Nat) (s0 : Frm) (H0 : Heap), wpOpsA X C ops q late th K l k s0 H0 →
    ∃ s H v act, s 0 = s0 ∧ H 0 = H0 ∧ Tr X C ops q late th K l k s H v act
  | [], k, s0, H0, h => ⟨fun _ => s0, fun _ => H0, fun _ => .undef, fun _ => true, rfl, rfl, ⟨by simp, h⟩⟩
  | o :: l, k, s0, H0, h => by
    have key : ∃ v0 H1 a0, guardA ops o s0 = some a0 ∧ (a0 = true → wpOp X C (q k) (th.contains k) o s0 H0 (fun v1 H' => v1 = v0 ∧ H' = H1)) ∧ (a0 = false → v0 = .tup [] ∧ H1 = H0) ∧ (∀ j ∈ late k, lateChk C ops (setA s0 o.dst v0) H1 j) ∧
        wpOpsA X C ops q late th K l (k + 1) (setA s0 o.dst v0) H1 := by
      simp only [wpOpsA] at h
      cases hg : o.guard with
      | none =>
        rw [hg] at h
        obtain ⟨v, H', h1, h2⟩ := wpOp_exact hXe h
        obtain ⟨k1, k2⟩ := lateAll_iff _ _ _ _ _ _ h2
        exact ⟨v, H', true, by simp [guardA, hg], fun _ => h1, fun h => by simp at h, k1, k2⟩
      | some p =>
        rw [hg] at h
        obtain ⟨v, H', h1, h2⟩ := h
        obtain ⟨k1, k2⟩ := lateAll_iff _ _ _ _ _ _ h2
        split at h1
        · rename_i b hb
          cases b with
          | true => exact ⟨v, H', true, hb, fun _ => by simpa using h1, fun h => by simp at h, k1, k2⟩
          | false => exact ⟨v, H', false, hb, fun h => by simp at h, fun _ => by simpa using h1, k1, k2⟩
        · exact h1.elim
    obtain ⟨v0, H1, a0, g1, g2, g3, g4, g5⟩ := key
    obtain ⟨s, H, v, act, e1, e2, t⟩ := tr_of hXe l (k + 1) _ _ g5
    refine ⟨fun i => match i with | 0 => s0 | i + 1 => s i, fun i => match i with | 0 => H0 | i + 1 => H i, fun i => match i with | 0 => v0 | i + 1 => v i, fun i => match i with | 0 => a0 | i + 1 => act i, rfl, rfl, ⟨fun i o' hi => ?_, t.fin⟩⟩
    cases i with
    | zero =>
      simp only [List.getElem?_cons_zero, Option.some.injEq] at hi; subst hi
      simp only [Nat.add_zero, e1, e2]
      exact ⟨trivial, g1, g2, g3, g4⟩
    | succ i =>
      have := t.step i o' (by simpa using hi)
      rw [show k + 1 + i = k + (i + 1) by omega] at this
      exact this
end tr

theorem foldl_bit (bs : Edge → Bool) (acc : List Nat) (j : Nat) : ∀ (l : List Edge) (m0 : Nat), (l.foldl (fun m e => if bs e then m ||| 2 ^ e.on ||| acc.getD e.on 0 else m) m0).testBit j = true → m0.testBit j = true ∨ ∃ e ∈ l, bs e = true ∧ (e.on = j ∨ (acc.getD e.on 0).testBit j = true)
  | [], m0, h => .inl h
  | e :: l, m0, h => by
    simp only [List.foldl_cons] at h
    rcases foldl_bit bs acc j l _ h with h | ⟨e', h1, h2⟩
    · split at h
      · rename_i hb
        simp only [Nat.testBit_or, Nat.testBit_two_pow, Bool.or_eq_true, decide_eq_true_eq] at h
        rcases h with (h | h) | h
        · exact .inl h
        · exact .inr ⟨e, by simp, hb, .inl h⟩
        · exact .inr ⟨e, by simp, hb, .inr h⟩
      · exact .inl h
    · exact .inr ⟨e', by simp [h1], h2⟩

theorem befGo_spec : ∀ (os : List Oper) (acc : List Nat), (befGo os acc).length = acc.length + os.length ∧ (∀ i, i < acc.length → (befGo os acc).getD i 0 = acc.getD i 0) ∧
    ∀ i o, os[i]? = some o → ∀ j, ((befGo os acc).getD (acc.length + i) 0).testBit j = true → ∃ e ∈ o.after.toList, Region.binds .any e = true ∧ (e.on = j ∨ (e.on < acc.length + i ∧ ((befGo os acc).getD e.on 0).testBit j = true))
  | [], acc => ⟨by simp [befGo], by simp [befGo], by simp⟩
  | o :: os, acc => by
    obtain ⟨h1, h2, h3⟩ := befGo_spec os (acc ++ [o.after.toList.foldl (fun m e => if Region.binds .any e then m ||| 2 ^ e.on ||| acc.getD e.on 0 else m) 0])
    simp only [befGo]
    have hold : ∀ i, i < acc.length → (befGo os (acc ++ [o.after.toList.foldl (fun m e => if Region.binds .any e then m ||| 2 ^ e.on ||| acc.getD e.on 0 else m) 0])).getD i 0 = acc.getD i 0 := by
      intro i hi
      rw [h2 i (by simp; omega)]
      simp [List.getD, List.getElem?_append_left hi]
    refine ⟨by rw [h1]; simp; omega, hold, fun i o' ho j hj => ?_⟩
    cases i with
    | zero =>
      simp only [List.getElem?_cons_zero, Option.some.injEq] at ho; subst ho
      rw [Nat.add_zero, h2 _ (by simp)] at hj
      simp only [List.getD, List.getElem?_append_right (Nat.le_refl _), Nat.sub_self, List.getElem?_cons_zero, Option.getD_some] at hj
      rcases foldl_bit (Region.binds .any) acc j _ _ hj with h | ⟨e, q1, q2, q3⟩
      · simp at h
      · refine ⟨e, q1, q2, ?_⟩
        rcases q3 with q3 | q3
        · exact .inl q3
        · have hlt : e.on < acc.length := by
            rcases Nat.lt_or_ge e.on acc.length with h | h
            · exact h
            · rw [List.getD, List.getElem?_eq_none h] at q3; simp at q3
          exact .inr ⟨by omega, by rw [hold _ hlt]; exact q3⟩
    | succ i =>
      simp only [List.length_append, List.length_singleton] at h3
      have := h3 i o' (by simpa using ho) j (by rw [show acc.length + 1 + i = acc.length + (i + 1) by omega]; exact hj)
      obtain ⟨e, q1, q2, q3⟩ := this
      refine ⟨e, q1, q2, ?_⟩
      rcases q3 with q3 | ⟨q3, q4⟩
      · exact .inl q3
      · exact .inr ⟨by omega, q4⟩

/-- What has come, closed under the edges. -/
def Shut (ops : Array Oper) (L : Nat → Prop) : Prop := ∀ i o, ops[i]? = some o → L i → ∀ e ∈ o.after, Region.binds .any e = true → L e.on

theorem bef_listed {ops : Array Oper} {L : Nat → Prop} (hs : Shut ops L) (hlt : ∀ i o, ops[i]? = some o → ∀ e ∈ o.after, Region.binds .any e = true → e.on < i) :
    ∀ (i : Nat) (o : Oper), ops[i]? = some o → (∀ e ∈ o.after, Region.binds .any e = true → L e.on) → ∀ j, ((bef ops.toList).getD i 0).testBit j = true → L j := by
  intro i
  induction i using Nat.strongRecOn with
  | _ i ih =>
    intro o ho ha j hj
    have := (befGo_spec ops.toList []).2.2 i o (by simpa using ho) j (by simpa [bef] using hj)
    obtain ⟨e, q1, q2, q3⟩ := this
    have hLe := ha e (by simpa using q1) q2
    rcases q3 with rfl | ⟨_, q4⟩
    · exact hLe
    · have hon := hlt i o ho e (by simpa using q1) q2
      have hi : i < ops.size := (Array.getElem?_eq_some_iff.1 ho).1
      have ho' := Array.getElem?_eq_getElem (xs := ops) (show e.on < ops.size by omega)
      exact ih e.on hon _ ho' (hs e.on _ ho' hLe) j q4
end Go.VS
