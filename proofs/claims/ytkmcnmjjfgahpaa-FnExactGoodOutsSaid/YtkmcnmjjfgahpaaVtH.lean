/-
  VS, part 34: a quiet call, in open order.
-/
import Derived.Test.YtkmcnmjjfgahpaaVtG
namespace Go.VS

section duo
variable {w : World} {AL AH : Avoid}

theorem moveVG {es : List Sh} {x : AV} {v : Value} {L : Heap} {φL : Phi} {H G : Heap} {φ : Phi} {y : AV} {L1 : Heap} {a : AV} {H1 : Heap} (hd : Duo w L φL AL G φ AH) (hh : GH G φ H H1) (hx : R w L φL AL x v)
    (ht : takeE es x L = some (y, L1)) (hw : thawV y H = (a, H1)) (hk : Kfz AL AH y) : ∃ φ1, MG w L φL AL G φ AH L1 φ1 H.bs.length H1.bs.length ∧ R w G φ1 AH a v := by
  by_cases hag : ∃ cs, x = .agg cs
  · obtain ⟨cs, rfl⟩ := hag
    obtain ⟨cs', hc, rfl⟩ := takeE_agg ht
    simp only [thawV, Prod.mk.injEq] at hw
    obtain ⟨rfl, rfl⟩ := hw
    have hk' : KfzL AL AH cs' := by
      rcases hk with h | h
      · exact .inl h
      · exact .inr (by simpa [noFz] using h)
    obtain ⟨vs, rfl, hl, ho, hp⟩ := hx.agg_inv
    obtain ⟨φ1, m, l1, r1⟩ := moveCG es cs vs.toList L φL AL H G φ AH cs' L1 _ _ hd hh (by simpa using hl) (fun j c u hj hu => hp j c u hj (by simpa using hu)) hc rfl hk'
    exact ⟨φ1, m, .agg _ _ (by rw [l1, hl]) ho fun i x v hx hv => r1 i x v hx (by simpa using hv)⟩
  · obtain ⟨e, rfl, ht'⟩ := takeE_one (fun cs h => hag ⟨cs, h⟩) ht
    obtain ⟨φ1, m, r, _⟩ := moveTG e x v L φL AL H G φ AH y L1 a H1 hd hh hx ht' hw hk
    exact ⟨φ1, m, r⟩

theorem moveValsG : ∀ (sh : List (List Sh)) (rs : List AV) (us : List Value) (L : Heap) (φL : Phi) (H G : Heap) (φ : Phi) (ys : List AV) (L1 : Heap), Duo w L φL AL G φ AH → GH G φ H (thawL ys H).2 → rs.length = us.length →
    (∀ (i : Nat) (x : AV) (u : Value), rs[i]? = some x → us[i]? = some u → R w L φL AL x u) → takeVals sh rs L = some (ys, L1) → KfzL AL AH ys →
    ∃ φ1, MG w L φL AL G φ AH L1 φ1 H.bs.length (thawL ys H).2.bs.length ∧ (thawL ys H).1.length = us.length ∧ ∀ (i : Nat) (x : AV) (u : Value), (thawL ys H).1[i]? = some x → us[i]? = some u → R w G φ1 AH x u
  | sh, [], us, L, φL, H, G, φ, ys, L1, hd, hh, hl, hr, ht, hk => by
    simp only [takeVals, Option.some.injEq, Prod.mk.injEq] at ht
    obtain ⟨rfl, rfl⟩ := ht
    exact ⟨φ, .refl hd _, hl, by simp [thawL]⟩
  | sh, x :: rs, u :: us, L, φL, H, G, φ, ys, L1, hd, hh, hl, hr, ht, hk => by
    simp only [takeVals] at ht
    split at ht
    rotate_left
    · simp at ht
    rename_i y L' h1
    split at ht
    rotate_left
    · simp at ht
    rename_i ys' L'' h2
    simp only [Option.some.injEq, Prod.mk.injEq] at ht
    obtain ⟨rfl, rfl⟩ := ht
    obtain ⟨k1, k2⟩ := hk.cons
    obtain ⟨φ1, m1, r1⟩ := moveVG (y := y) (H := H) hd (hh.fst (H1 := (thawV y H).2) (thawL_grow ys' (thawV y H).2)) (hr 0 x u rfl rfl) h1 rfl k1
    obtain ⟨φ2, m2, l2, r2⟩ := moveValsG sh.tail rs us L' (restr φL L') (thawV y H).2 G φ1 ys' L'' m1.duo (hh.snd m1) (by simpa using hl) (fun i x u hx hu => (hr (i + 1) x u hx hu).mono (lessEvo m1.less)) h2 k2
    refine ⟨φ2, m1.trans m2, by simp [thawL, l2], fun i x' u' hx hu => ?_⟩
    cases i with
    | zero => simp [thawL] at hx hu; subst hx; subst hu; exact r1.mono m2.eh
    | succ i => simp only [thawL, List.getElem?_cons_succ] at hx hu; exact r2 i x' u' hx hu
  | sh, x :: rs, [], L, φL, H, G, φ, ys, L1, hd, hh, hl, hr, ht, hk => by simp at hl
end duo

theorem snap_ext {H G : Heap} (h : Ext H G) : ∀ (n : Nat) (x y : AV), snapV n H x = some y → snapV n G x = some y
  | 0, x, y, hs => by simp [snapV] at hs
  | n + 1, x, y, hs => by
    have hm : ∀ (xs ys : List AV), xs.mapM (snapV n H) = some ys → xs.mapM (snapV n G) = some ys := by
      intro xs
      induction xs with
      | nil => intro ys h; simpa using h
      | cons z xs ih =>
        intro ys hy
        simp only [List.mapM_cons, Option.bind_eq_bind, Option.bind_eq_some_iff, Option.pure_def, Option.some.injEq] at hy ⊢
        obtain ⟨a, h1, b, h2, h3⟩ := hy
        exact ⟨a, snap_ext h n z a h1, b, ih b h2, h3⟩
    cases x with
    | agg cs =>
      simp only [snapV, Option.map_eq_some_iff] at hs ⊢
      obtain ⟨ys, h1, h2⟩ := hs
      exact ⟨ys, hm _ _ h1, h2⟩
    | fn f cs =>
      simp only [snapV, Option.map_eq_some_iff] at hs ⊢
      obtain ⟨ys, h1, h2⟩ := hs
      exact ⟨ys, hm _ _ h1, h2⟩
    | ref id ver off len =>
      simp only [snapV] at hs ⊢
      split at hs
      · rename_i b hb
        rw [h.blk hb]
        simp only
        split at hs
        · rename_i hle
          rw [if_pos hle]
          simp only [Option.map_eq_some_iff] at hs ⊢
          obtain ⟨ys, h1, h2⟩ := hs
          exact ⟨ys, hm _ _ h1, h2⟩
        · simp at hs
      · simp at hs
    | ptr id ver idx off =>
      simp only [snapV] at hs ⊢
      split at hs
      · rename_i b hb
        rw [h.blk hb]
        simp only
        split at hs
        · rename_i z hz
          simp only [Option.map_eq_some_iff] at hs ⊢
          obtain ⟨y', h1, h2⟩ := hs
          exact ⟨y', snap_ext h n z y' h1, h2⟩
        · simp at hs
      · simp at hs
    | _ => first | (simpa only [snapV] using hs) | (simp [snapV] at hs; done)

theorem prepVal_ext {H G : Heap} (h : Ext H G) : ∀ (ms : List Mode) (as ys : List AV) (b : Bool), prepVal ms as H = some (ys, b) → prepVal ms as G = some (ys, b)
  | ms, [], ys, b, hp => by cases ms <;> simpa only [prepVal] using hp
  | [], a :: as, ys, b, hp => by
    simp only [prepVal] at hp ⊢
    split at hp
    · rename_i y hy
      split at hp
      · rename_i ys' b' hys
        rw [snap_ext h 8 a y hy, prepVal_ext h [] as ys' b' hys]
        exact hp
      · simp at hp
    · simp at hp
  | m :: ms, a :: as, ys, b, hp => by
    have other : (match prepVal ms as H with | some (ys, b) => some (a :: ys, b) | none => none) = some (ys, b) → (match prepVal ms as G with | some (ys, b) => some (a :: ys, b) | none => none) = some (ys, b) := by
      intro hp
      split at hp
      · rename_i ys' b' hys
        rw [prepVal_ext h ms as ys' b' hys]
        exact hp
      · simp at hp
    cases m with
    | val =>
      simp only [prepVal] at hp ⊢
      split at hp
      · rename_i y hy
        split at hp
        · rename_i ys' b' hys
          rw [snap_ext h 8 a y hy, prepVal_ext h ms as ys' b' hys]
          exact hp
        · simp at hp
      · simp at hp
    | mov =>
      simp only [prepVal] at hp ⊢
      split at hp
      · rename_i ys' b' hys
        rw [prepVal_ext h ms as ys' b' hys]
        exact hp
      · simp at hp
    | io =>
      simp only [prepVal] at hp ⊢
      split at hp
      · rename_i ys' b' hys
        rw [prepVal_ext h ms as ys' b' hys]
        exact hp
      · simp at hp

/-- What a quiet call comes to. -/
def CResG (w : World) (G : Heap) (φ : Phi) (A : Avoid) (H H' : Heap) (x : AV) (e : Ending) (w' : World) : Prop :=
  match e with
  | .returned v' => ∃ φ' A', Out w G φ A w' G φ' A' ∧ R w' G φ' A' x v' ∧ ∀ id loc, φ' id = some loc → φ id = some loc ∨ (H.bs.length ≤ id ∧ id < H'.bs.length)
  | _ => False

theorem callSimG {P : Program} {C : Ctx} {X : CallRel} (hX : ∀ f ys H K, X f ys H K → Sim P f ys H K) {w : World} {G : Heap} {φ : Phi} {A : Avoid} (hst : St w G φ A) {H H' : Heap} (hg : Ext H G) (hh : GH G φ H H') {f : FuncId} {as : List AV} {us : Array Value} (hl : as.length = us.size)
    (hr : ∀ (i : Nat) (x : AV) (u : Value), as[i]? = some x → us[i]? = some u → R w G φ A x u) {th : Bool} {x : AV} (h : wpCallQ X C f as th H (fun v1 H1 => v1 = x ∧ H1 = H')) : Callable P f ∧ Calls P f us w (CResG w G φ A H H' x) := by
  unfold wpCallQ at h
  split at h
  · exact h.elim
  rename_i ys lent hy
  obtain ⟨y, hXf, hfz, hp⟩ := h
  have hm : allVal [] := fun m hm => by simp at hm
  have hd0 : Duo w G φ A ⟨0, []⟩ (fun _ => none) A := by
    refine ⟨hst, ⟨fun i i' c b b' h => by simp at h, fun c hc => ?_, hst.bnd, fun id loc h => by simp at h⟩, fun c _ hc => ?_, hst.own⟩
    · obtain ⟨i, b, h⟩ := hc; simp at h
    · obtain ⟨i, b, h⟩ := hc; simp at h
  have hva : thawArgs [] ys ⟨0, []⟩ = (ys, ⟨0, []⟩) := thawArgs_snap _ _ _ hy _
  obtain ⟨φ0, m, hin, hro⟩ := handIn as [] [] us.toList G φ as G ys lent ⟨0, []⟩ (fun _ => none) ys ⟨0, []⟩ hd0 (by simpa using hl) (fun i x u hx hu => hr i x u hx (by simpa using hu)) (prepMove_val _ _ _ _ hm) (prepVal_ext hg _ _ _ _ hy) hva
  have hsub : ∀ c, ¬ Ow φ0 c := fun c hc => by
    rcases m.oh c hc with ⟨i, b, h⟩ | ⟨h1, h2⟩
    · simp at h
    · rw [restr_self hst] at h2; exact h2 h1
  let A0 : Avoid := if lent = true then Ow φ0 else A
  have hA0 : ∀ c, A0 c → A c := by
    intro c hc
    simp only [A0] at hc
    split at hc
    · exact absurd hc (hsub c)
    · exact hc
  have hB0 : lent = true → ∀ c, A0 c → lentA (restr φ G) A c := by
    intro hlt c hc
    simp only [A0, hlt, if_true] at hc
    exact absurd hc (hsub c)
  have hst0 : St w ⟨0, []⟩ φ0 A0 := m.duo.sh.shrink hA0 (fun c hc => absurd hc (hsub c))
  have hvl : ys.length = us.size := by simpa using hin.1
  refine ⟨(hX _ _ _ _ hXf).1, ((hX _ _ _ _ hXf).2 w A0 φ0 us hst0 hvl (fun i x u hx hu => hin.2 A0 hA0 hB0 i x u hx (by simpa using hu))).mono fun e w' he => ?_⟩
  cases e with
  | panicked c => exact he.elim
  | outgrown => exact he.elim
  | returned v' =>
  obtain ⟨x0, L, φ', A', ho, hRx, rs, zs', L2, rfl, htv, rfl⟩ := he
  obtain ⟨rus, rfl, hrl, hrr⟩ := one_R hRx
  let AH : Avoid := if lent = true then fun c => A c ∨ (A' c ∧ w.heap.size ≤ c) else A'
  have hown' : ∀ c, Ow φ' c → w.heap.size ≤ c := fun c hc => (ho.post.own c hc).resolve_left (hsub c)
  have ha : AHok w A φ0 w' φ' AH := by
    refine ⟨fun c hc hn => ?_, fun c hc => ?_, fun c hc => ?_, fun c arr T fr hc hn => ?_⟩
    · simp only [AH]
      split
      · exact .inl hc
      · rename_i hlt
        refine ho.keep c ?_ hn
        simp only [A0, hlt]; exact hc
    · simp only [AH]
      split
      · exact .inr ⟨ho.st.own c hc, hown' c hc⟩
      · exact ho.st.own c hc
    · simp only [AH] at hc
      split at hc
      · rcases hc with h | ⟨h, _⟩
        · exact Nat.lt_of_lt_of_le (hst.bnd c h) ho.post.size
        · exact ho.st.bnd c h
      · exact ho.st.bnd c hc
    · obtain ⟨h1, h2⟩ := ho.evo.fz c arr T fr hc (fun h => hn (hA0 c h))
      refine ⟨h1, ?_⟩
      simp only [AH]
      split
      · rintro (h | ⟨_, h⟩)
        · exact hn h
        · have : c < w.heap.size := by rcases Nat.lt_or_ge c w.heap.size with h' | h'; · exact h'
                                       · rw [Array.getElem?_eq_none h'] at hc; simp at hc
          omega
      · exact h2
  obtain ⟨D, E⟩ := junk_ok (ls := []) (Lm := L) hst m (by rw [hl, hvl]) hro ho ha (by simp [takeRoots])
  rw [putJunk_val _ _ _ _ hm, restr_self hst] at D E
  have hkf : KfzL A' AH zs' := by
    cases hlt : lent with
    | false => exact .inl fun c h => by simpa [AH, hlt] using h
    | true =>
      rcases hfz with h | h
      · rw [hlt] at h; simp at h
      · rw [noFz_one] at h
        exact .inr h
  have hrs : ∀ (i : Nat) (x : AV) (u : Value), rs[i]? = some x → rus[i]? = some u → R w' L (restr φ' L) A' x u := fun i x u hx hu => by
    rw [restr_self ho.st]
    exact hrr i x u hx hu
  have hpost : ∀ {φ3 : Phi}, (∀ c, Ow φ3 c → Ow φ c ∨ Ow φ' c) → Post w φ w' φ3 := fun hq =>
    ⟨ho.post.os, ho.post.tape, ho.post.output, ho.post.size, fun c hc _ => ho.post.kept c hc (hsub c), ho.post.bsz, fun c hc => by
      rcases hq c hc with h | h
      · exact .inl h
      · exact .inr (hown' c h)⟩
  have hkeep : ∀ c, A c → ¬ Ow φ c → AH c := fun c hc _ => ha.own c hc (hsub c)
  have hbs : ∀ c, Ow φ c → bsz w' c = bsz w c := fun c hc => ho.post.bsz c (Ow.lt hst hc)
  cases htl : (th || lent) with
  | true =>
    rw [htl] at hp
    simp only [if_true, thaw_one] at hp
    obtain ⟨rfl, rfl⟩ := hp
    obtain ⟨φ3, m3, l3, r3⟩ := moveValsG _ rs rus L _ H G φ zs' L2 D hh hrl hrs htv hkf
    refine ⟨φ3, AH, ⟨m3.duo.sh, hpost fun c hc => ?_, E.trans m3.eh hbs, hkeep⟩, R_one l3 r3, m3.new⟩
    rcases m3.oh c hc with h | ⟨h, _⟩
    · exact .inl h
    · exact .inr (restr_ow h)
  | false =>
    rw [htl] at hp
    simp only [Bool.false_eq_true, if_false, frz_one] at hp
    obtain ⟨rfl, rfl⟩ := hp
    simp only [Bool.or_eq_false_iff] at htl
    have hAH : AH = A' := by simp [AH, htl.2]
    rw [hAH] at D E hkeep
    let A2 : Avoid := gone (restr φ' L) A' L2
    obtain ⟨l3, r3⟩ := frzVals (A' := A2) _ rs rus L (restr φ' L) zs' L2 D.sl hrl hrs htv (fun c h => h)
    have hA2 : ∀ c, Ow φ c → A2 c := fun c hc => ⟨D.sh.own c hc, fun h => absurd hc (D.dis c h)⟩
    have hE2 : Evo w G φ A w' G φ A2 := ⟨fun c arr T fr hc hn => ⟨(E.fz c arr T fr hc hn).1, fun h2 => (E.fz c arr T fr hc hn).2 h2.1⟩, E.st, E.ids, E.sz⟩
    refine ⟨φ, A2, ⟨D.sh.shrink (fun c h => h.1) hA2, hpost fun c hc => .inl hc, hE2, fun c hc hn => ⟨hkeep c hc hn, fun h => ?_⟩⟩, .fr _ _ (FR_one l3 r3), fun id loc h => .inl h⟩
    have := hown' c (restr_ow h)
    have := hst.bnd c hc
    omega
end Go.VS
