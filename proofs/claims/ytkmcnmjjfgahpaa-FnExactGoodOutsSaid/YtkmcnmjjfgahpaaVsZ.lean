/-
  VS, part 26: all of a call's arguments.
-/
import Derived.Test.YtkmcnmjjfgahpaaVsY
namespace Go.VS

section duo
variable {w : World} {A : Avoid}

theorem prepM_less {m : Mode} {sh : List Sh} {v : AV} {H : Heap} {y : AV} {H1 : Heap} (h : prepM m sh v H = some (y, H1)) : Less H H1 := by
  cases m with
  | val => simp only [prepM, Option.some.injEq, Prod.mk.injEq] at h; obtain ⟨_, rfl⟩ := h; exact .refl _
  | mov => exact takeE_less sh v H y H1 h
  | io =>
    cases v <;> simp only [prepM] at h
    case nil => simp only [Option.some.injEq, Prod.mk.injEq] at h; obtain ⟨_, rfl⟩ := h; exact .refl _
    case e0 => simp only [Option.some.injEq, Prod.mk.injEq] at h; obtain ⟨_, rfl⟩ := h; exact .refl _
    case ref =>
      split at h
      · split at h
        · simp only [Option.some.injEq, Prod.mk.injEq] at h; obtain ⟨_, rfl⟩ := h; exact .refl _
        · split at h
          · exact takeE_less _ _ H y H1 h
          · simp at h
      · simp at h
    case ptr => exact takeE_less _ _ H y H1 h
    all_goals simp at h

theorem prepMove_less : ∀ (ms : List Mode) (sh : List (List Sh)) (as : List AV) (H : Heap) (zs : List AV) (H1 : Heap), prepMove ms sh as H = some (zs, H1) → Less H H1
  | [], sh, as, H, zs, H1, h => by
    simp only [prepMove, Option.some.injEq, Prod.mk.injEq] at h; obtain ⟨_, rfl⟩ := h; exact .refl _
  | m :: ms, sh, [], H, zs, H1, h => by
    simp only [prepMove, Option.some.injEq, Prod.mk.injEq] at h; obtain ⟨_, rfl⟩ := h; exact .refl _
  | m :: ms, sh, a :: as, H, zs, H1, h => by
    simp only [prepMove] at h
    split at h
    · rename_i y H' h1
      split at h
      · rename_i ys H'' h2
        simp only [Option.some.injEq, Prod.mk.injEq] at h
        obtain ⟨_, rfl⟩ := h
        exact (prepM_less h1).trans (prepMove_less ms _ as H' ys _ h2)
      · simp at h
    · simp at h

/-- Values in the callee's eyes, for whatever it shall keep off. -/
def Hin (w : World) (A : Avoid) (B : Avoid) (L0 : Heap) (φ0 : Phi) (lent : Bool) (vs : List AV) (us : List Value) : Prop :=
  vs.length = us.length ∧ ∀ A0 : Avoid, (∀ c, A0 c → A c) → (lent = true → ∀ c, A0 c → B c) → ∀ (i : Nat) (x : AV) (u : Value), vs[i]? = some x → us[i]? = some u → R w L0 φ0 A0 x u

theorem Hin.cons {B : Avoid} {L L0 : Heap} {φL φ0 : Phi} {l1 l2 : Bool} {x : AV} {u : Value} {vs : List AV} {us : List Value} (hx : ∀ A0 : Avoid, (∀ c, A0 c → A c) → (l1 = true → ∀ c, A0 c → B c) → R w L φL A0 x u)
    (he : ∀ A0, Evo w L φL A0 w L0 φ0 A0) (h : Hin w A B L0 φ0 l2 vs us) : Hin w A B L0 φ0 (l1 || l2) (x :: vs) (u :: us) := by
  refine ⟨by simp [h.1], fun A0 h1 h2 i x' u' hx' hu' => ?_⟩
  cases i with
  | zero => simp at hx' hu'; subst hx'; subst hu'; exact (hx A0 h1 (fun hl => h2 (by simp [hl]))).mono (he A0)
  | succ i => exact h.2 A0 h1 (fun hl => h2 (by simp [hl])) i x' u' hx' hu'

theorem Evo.any {L L0 : Heap} {φL φ0 : Phi} {A1 : Avoid} (h : Evo w L φL A1 w L0 φ0 A1) (A0 : Avoid) : Evo w L φL A0 w L0 φ0 A0 :=
  ⟨fun _c _a _t fr hc hn => ⟨⟨fr, hc⟩, hn⟩, h.st, h.ids, h.sz⟩

theorem snapIn {H : Heap} {φ : Phi} {H1 : Heap} {L : Heap} {φL : Phi} (hst : St w H φ A) (hl : Less H H1) {a : AV} {u : Value} (ha : R w H φ A a u) {y : AV} (hs : snapV 8 H1 a = some y) :
    ∀ A0 : Avoid, (∀ c, A0 c → A c) → (lends a = true → ∀ c, A0 c → lentA (restr φ H1) A c) → R w L φL A0 y u := by
  intro A0 h1 h2
  obtain ⟨s1, s2, _⟩ := (snap_ok (lessSt hst hl) 8).1 a u y (ha.mono (lessEvo hl)) hs
  cases hle : lends a with
  | false => exact .fr _ _ ((s2 hle).shrink h1)
  | true => exact .fr _ _ (s1.shrink (h2 hle))

theorem handIn : ∀ (as : List AV) (ms : List Mode) (psh : List (List Sh)) (us : List Value) (H : Heap) (φ : Phi) (zs : List AV) (H1 : Heap) (ys : List AV) (lent : Bool) (L : Heap) (φL : Phi) (vs : List AV) (L0 : Heap),
    Duo w H φ A L φL A → as.length = us.length → (∀ (i : Nat) (x : AV) (u : Value), as[i]? = some x → us[i]? = some u → R w H φ A x u) → prepMove ms psh as H = some (zs, H1) → prepVal ms zs H1 = some (ys, lent) → thawArgs ms ys L = (vs, L0) →
    ∃ φ0, Moved w H φ A L φL A H1 L0 φ0 ∧ Hin w A (lentA (restr φ H1) A) L0 φ0 lent vs us ∧ Roots H φ L0 φ0 ms as vs
  | [], ms, psh, us, H, φ, zs, H1, ys, lent, L, φL, vs, L0, hd, hl, hr, h1, h2, h3 => by
    have hzs : zs = [] ∧ H1 = H := by
      cases ms <;> simp only [prepMove, Option.some.injEq, Prod.mk.injEq] at h1 <;> exact ⟨h1.1.symm, h1.2.symm⟩
    obtain ⟨rfl, rfl⟩ := hzs
    have hys : ys = [] ∧ lent = false := by
      cases ms <;> simp only [prepVal, Option.some.injEq, Prod.mk.injEq] at h2 <;> exact ⟨h2.1.symm, h2.2.symm⟩
    obtain ⟨rfl, rfl⟩ := hys
    have hvs : vs = [] ∧ L0 = L := by
      cases ms <;> simp only [thawArgs, Prod.mk.injEq] at h3 <;> exact ⟨h3.1.symm, h3.2.symm⟩
    obtain ⟨rfl, rfl⟩ := hvs
    refine ⟨φL, .refl hd, ⟨by simpa using hl, by simp⟩, ?_⟩
    cases ms with
    | nil => simp [Roots]
    | cons m ms => cases m <;> simp [Roots]
  | a :: as, [], psh, us, H, φ, zs, H1, ys, lent, L, φL, vs, L0, hd, hl, hr, h1, h2, h3 => by
    match us, hl with
    | u :: us, hl =>
    simp only [prepMove, Option.some.injEq, Prod.mk.injEq] at h1
    obtain ⟨rfl, rfl⟩ := h1
    simp only [prepVal] at h2
    split at h2
    · rename_i y hy
      split at h2
      · rename_i ys' b hys
        simp only [Option.some.injEq, Prod.mk.injEq] at h2
        obtain ⟨rfl, rfl⟩ := h2
        simp only [thawArgs, snap_thaw _ _ _ _ hy, List.tail_nil, Prod.mk.injEq] at h3
        obtain ⟨rfl, rfl⟩ := h3
        obtain ⟨φ0, m, hin, _⟩ := handIn as [] psh us H φ as H ys' b L φL _ _ hd (by simpa using hl) (fun i x u hx hu => hr (i + 1) x u hx hu) rfl hys rfl
        exact ⟨φ0, m, Hin.cons (snapIn (L := L) (φL := φL) hd.sl (.refl _) (hr 0 a u rfl rfl) hy) (fun A0 => m.eh.any A0) hin, by simp [Roots]⟩
      · simp at h2
    · simp at h2
  | a :: as, md :: ms, psh, us, H, φ, zs, H1, ys, lent, L, φL, vs, L0, hd, hl, hr, h1, h2, h3 => by
    match us, hl with
    | u :: us, hl =>
    simp only [prepMove] at h1
    split at h1
    rotate_left
    · simp at h1
    rename_i z H' hz
    split at h1
    rotate_left
    · simp at h1
    rename_i zs' H'' hzs
    simp only [Option.some.injEq, Prod.mk.injEq] at h1
    obtain ⟨rfl, rfl⟩ := h1
    have hl1 := prepM_less hz
    have hl2 := prepMove_less _ _ _ _ _ _ hzs
    have ha := hr 0 a u rfl rfl
    -- the rest
    have rest : ∀ {ys' : List AV} {b : Bool} {L' : Heap} {φ' : Phi} (m1 : Moved w H φ A L φL A H' L' φ') (hys : prepVal ms zs' H'' = some (ys', b)),
        ∃ φ0, Moved w H' (restr φ H') A L' φ' A H'' (thawArgs ms ys' L').2 φ0 ∧ Hin w A (lentA (restr φ H'') A) (thawArgs ms ys' L').2 φ0 b (thawArgs ms ys' L').1 us ∧ Roots H' (restr φ H') (thawArgs ms ys' L').2 φ0 ms as (thawArgs ms ys' L').1 := by
      intro ys' b L' φ' m1 hys
      obtain ⟨φ0, m, hin, hro⟩ := handIn as ms psh.tail us H' (restr φ H') zs' H'' ys' b L' φ' _ _ m1.duo (by simpa using hl) (fun i x u hx hu => (hr (i + 1) x u hx hu).mono (lessEvo hl1)) hzs hys rfl
      refine ⟨φ0, m, ?_, hro⟩
      rw [restr_restr hl2] at hin
      exact hin
    cases md with
    | val =>
      simp only [prepM, Option.some.injEq, Prod.mk.injEq] at hz
      obtain ⟨rfl, rfl⟩ := hz
      simp only [prepVal] at h2
      split at h2
      rotate_left
      · simp at h2
      rename_i y hy
      split at h2
      rotate_left
      · simp at h2
      rename_i ys' b hys
      simp only [Option.some.injEq, Prod.mk.injEq] at h2
      obtain ⟨rfl, rfl⟩ := h2
      have hth : thawArgs (.val :: ms) (y :: ys') L = (y :: (thawArgs ms ys' L).1, (thawArgs ms ys' L).2) := by
        simp only [thawArgs, snap_thaw _ _ _ _ hy, List.tail_cons]
      rw [hth] at h3
      simp only [Prod.mk.injEq] at h3
      obtain ⟨rfl, rfl⟩ := h3
      obtain ⟨φ0, m, hin, hro⟩ := rest (Moved.refl hd) hys
      refine ⟨φ0, (Moved.refl hd).trans m, Hin.cons (L := L) (φL := φL) (fun A0 q1 q2 => ?_) (fun A0 => m.eh.any A0) hin, ?_⟩
      · exact snapIn (L := L) (φL := φL) hd.sl hl2 ha hy A0 q1 q2
      · simp only [Roots]
        exact Roots.mono (.refl _) (fun _ _ h => h) (fun _ _ h => h) hro
    | mov =>
      have hz' : takeE (psh.headD []) a H = some (z, H') := hz
      simp only [prepVal] at h2
      split at h2
      rotate_left
      · simp at h2
      rename_i ys' b hys
      simp only [Option.some.injEq, Prod.mk.injEq] at h2
      obtain ⟨rfl, rfl⟩ := h2
      have hth : thawArgs (.mov :: ms) (z :: ys') L = ((thawV z L).1 :: (thawArgs ms ys' (thawV z L).2).1, (thawArgs ms ys' (thawV z L).2).2) := by
        simp only [thawArgs, List.tail_cons]
      rw [hth] at h3
      simp only [Prod.mk.injEq] at h3
      obtain ⟨rfl, rfl⟩ := h3
      obtain ⟨φ1, m1, r1⟩ := moveV hd ha hz' rfl (.inl fun _ h => h)
      obtain ⟨φ0, m, hin, hro⟩ := rest m1 hys
      have := Hin.cons (l1 := false) (L := (thawV z L).2) (φL := φ1) (x := (thawV z L).1) (u := u) (fun A0 q1 _ => r1.shrinkA q1) (fun A0 => m.eh.any A0) hin
      refine ⟨φ0, m1.trans m, by simpa using this, ?_⟩
      simp only [Roots]
      exact Roots.mono hl1 (fun _ _ h => h) (fun _ _ h => h) hro
    | io =>
      simp only [prepVal] at h2
      split at h2
      rotate_left
      · simp at h2
      rename_i ys' b hys
      simp only [Option.some.injEq, Prod.mk.injEq] at h2
      obtain ⟨rfl, rfl⟩ := h2
      rcases ioStep hd ha hz with ⟨sz, xs, φ1, rfl, m1, r1, ro⟩ | ⟨sz, x, φ1, rfl, m1, r1, ro⟩
      · have hth : thawArgs (.io :: ms) (.own sz xs :: ys') L = (.ref (thawL xs L).2.bs.length (thawL xs L).2.st 0 (thawL xs L).1.length :: (thawArgs ms ys' ((thawL xs L).2.new sz true (thawL xs L).1)).1, (thawArgs ms ys' ((thawL xs L).2.new sz true (thawL xs L).1)).2) := by
          simp only [thawArgs]
        rw [hth] at h3
        simp only [Prod.mk.injEq] at h3
        obtain ⟨rfl, rfl⟩ := h3
        obtain ⟨φ0, m, hin, hro⟩ := rest m1 hys
        have := Hin.cons (l1 := false) (φL := φ1) (u := u) (fun A0 q1 _ => r1.shrinkA q1) (fun A0 => m.eh.any A0) hin
        refine ⟨φ0, m1.trans m, by simpa using this, ?_⟩
        simp only [Roots]
        refine ⟨?_, Roots.mono hl1 (fun _ _ h => h) (fun _ _ h => h) hro⟩
        obtain ⟨k, kv, bk, e1, e2, ⟨loc, e2'⟩, e3, e4⟩ := ro
        exact ⟨k, kv, bk, e1, blk_hget m.hget e2, ⟨loc, m.hphi _ _ e2'⟩, e3, fun id ver hr => by obtain ⟨b, c, b0, q1, q2, q3, q4, q5⟩ := e4 id ver hr; exact ⟨b, c, b0, q1, q2, q3, q4, m.hphi _ _ q5⟩⟩
      · have hth : thawArgs (.io :: ms) (.optr sz x :: ys') L = ((thawV (.optr sz x) L).1 :: (thawArgs ms ys' (thawV (.optr sz x) L).2).1, (thawArgs ms ys' (thawV (.optr sz x) L).2).2) := by
          simp only [thawArgs, List.tail_cons]
        rw [hth] at h3
        simp only [Prod.mk.injEq] at h3
        obtain ⟨rfl, rfl⟩ := h3
        obtain ⟨φ0, m, hin, hro⟩ := rest m1 hys
        have := Hin.cons (l1 := false) (φL := φ1) (u := u) (fun A0 q1 _ => r1.shrinkA q1) (fun A0 => m.eh.any A0) hin
        refine ⟨φ0, m1.trans m, by simpa using this, ?_⟩
        simp only [Roots]
        refine ⟨?_, Roots.mono hl1 (fun _ _ h => h) (fun _ _ h => h) hro⟩
        obtain ⟨k, kv, bk, e1, e2, ⟨loc, e2'⟩, e3, e4⟩ := ro
        exact ⟨k, kv, bk, e1, blk_hget m.hget e2, ⟨loc, m.hphi _ _ e2'⟩, e3, fun id ver hr => by obtain ⟨b, c, b0, q1, q2, q3, q4, q5⟩ := e4 id ver hr; exact ⟨b, c, b0, q1, q2, q3, q4, m.hphi _ _ q5⟩⟩
end duo
end Go.VS
