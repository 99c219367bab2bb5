/-
  VS, part 43: slices that are made and grow; calls; loops.
-/
import Derived.Test.YtkmcnmjjfgahpaaVtP
namespace Go.VS

/-- A slice's value. -/
structure isSl (v : AV) : Prop where
  ok : v = .nil ∨ v = .e0 ∨ ∃ id ver off len, v = .ref id ver off len
theorem isSl_ref (id ver off len : Nat) : isSl (.ref id ver off len) := ⟨.inr (.inr ⟨id, ver, off, len, rfl⟩)⟩
theorem isSl_nil : isSl .nil := ⟨.inl rfl⟩
theorem isSl_e0 : isSl .e0 := ⟨.inr (.inl rfl)⟩
theorem isSl.ne {v : AV} (h : isSl v) (id ver : Nat) : v ≠ .ptr id ver 0 0 := by
  rcases h.ok with rfl | rfl | ⟨_, _, _, _, rfl⟩ <;> simp
theorem isSl.cells {v : AV} (h : isSl v) : v.cells = [v] := by
  rcases h.ok with rfl | rfl | ⟨_, _, _, _, rfl⟩ <;> rfl
theorem isSl.stor {v : AV} (h : isSl v) : stor1 v = true := by
  rcases h.ok with rfl | rfl | ⟨_, _, _, _, rfl⟩ <;> rfl
theorem isSl.stora {v : AV} (h : isSl v) : storA v = true := by
  rcases h.ok with rfl | rfl | ⟨_, _, _, _, rfl⟩ <;> rfl
theorem isSl.rd {v : AV} (h : isSl v) (z : List AV) (b : Nat) (w : UD) (e : Bool) : rdAt ⟨1, false, z, b, w, e⟩ v 0 = some v := by
  rcases h.ok with rfl | rfl | ⟨_, _, _, _, rfl⟩ <;> rfl
theorem isSl.same {v : AV} (h : isSl v) : sameRef v v = true := by
  rcases h.ok with rfl | rfl | ⟨_, _, _, _, rfl⟩ <;> simp [sameRef]
theorem isSl.wr {v : AV} (h : isSl v) (cs : List AV) (o : Nat) (ho : o < cs.length) : wrAt (.agg cs) o v = some (.agg (cs.set o v)) := by
  simp only [wrAt, h.cells, List.length_cons, List.length_nil]
  rw [if_pos (by omega)]
  simp only [splice, List.length_cons, List.length_nil, List.append_assoc, List.cons_append, List.nil_append, Option.some.injEq, AV.agg.injEq]
  rw [List.set_eq_take_append_cons_drop, if_pos ho]

section
variable {C : Ctx} {q th : Bool} {s : Frm} {H : Heap} {K : AV → Heap → Prop} {L : List It}

theorem Own.len (hS : Own H L) (j : Nat) {v : AV} {sz : Nat} {el : List AV} (hj : L[j]? = some ⟨v, sz, el⟩) (hp : isSl v) : lenOf H v = some el.length := by
  have hok := (hS.ok j _ hj).2
  simp only at hok
  split at hok
  · subst hok; rfl
  · subst hok; rfl
  · rename_i id ver off len
    obtain ⟨h3, b, hb, _⟩ := hok
    simp only [lenOf, hb, h3]
  · rename_i id ver ix off
    obtain ⟨rfl, rfl, _⟩ := hok
    exact absurd rfl (hp.ne id ver)
  · exact hok.elim

theorem Own.elems (hS : Own H L) (j : Nat) {v : AV} {sz : Nat} {el : List AV} (hj : L[j]? = some ⟨v, sz, el⟩) (hp : isSl v) : elemsOf H v = some el := by
  have hok := (hS.ok j _ hj).2
  simp only at hok
  split at hok
  · subst hok; rfl
  · subst hok; rfl
  · rename_i id ver off len
    obtain ⟨h3, b, hb, _, _, h5, h6⟩ := hok
    simp only [elemsOf, hb, h5, if_true, h6]
  · rename_i id ver ix off
    obtain ⟨rfl, rfl, _⟩ := hok
    exact absurd rfl (hp.ne id ver)
  · exact hok.elim

theorem Own.notStr (hS : Own H L) (j : Nat) {v : AV} {sz : Nat} {el : List AV} (hj : L[j]? = some ⟨v, sz, el⟩) (l : List UInt8) : v ≠ .str l := by
  rintro rfl
  exact (hS.ok j _ hj).2

theorem w_len (j : Nat) (hS : Own H L) {v : AV} {sz : Nat} {el : List AV} (hj : L[j]? = some ⟨v, sz, el⟩) (hp : isSl v) {ti : TI} {e : TypeId} (hu : ti.und = .sl e) (h : K (.int .i64 el.length) H) : lenK (some ti) v (lenOf H v) H K := by
  rw [hS.len j hj hp]
  have hn := hS.notStr j hj
  simp only [lenK, hu]
  cases v with
  | str l => exact absurd rfl (hn l)
  | _ => exact h
theorem len_fz (xs : List AV) : lenOf H (.fz xs) = some xs.length := rfl
theorem len_str (l : List UInt8) : lenOf H (.str l) = some l.length := rfl
theorem len_nil : lenOf H .nil = some 0 := rfl
theorem len_e0 : lenOf H .e0 = some 0 := rfl
theorem lenK_fz (ti : TI) {e : TypeId} (hu : ti.und = .sl e) (xs : List AV) (n : Nat) : lenK (some ti) (.fz xs) (some n) H K = K (.int .i64 n) H := by simp [lenK, hu]
theorem lenK_nil (ti : TI) {e : TypeId} (hu : ti.und = .sl e) (n : Nat) : lenK (some ti) .nil (some n) H K = K (.int .i64 n) H := by simp [lenK, hu]
theorem lenK_e0 (ti : TI) {e : TypeId} (hu : ti.und = .sl e) (n : Nat) : lenK (some ti) .e0 (some n) H K = K (.int .i64 n) H := by simp [lenK, hu]
theorem lenK_str (ti : TI) (hu : ti.und = .str) (l : List UInt8) (n : Nat) : lenK (some ti) (.str l) (some n) H K = K (.int .i64 n) H := by simp [lenK, hu]

/-- A slice is made. -/
theorem w_mk {α β : Type} {t : TypeId} {x y : Operand} {te : TI} {z : AV} {n : Int} {c : α → AV} {d : α} {f : List α → Option β} {r : β} (hS : Own H L) (ht : elTI C.E t = some te) (hx : ev s x = .int .i64 n) (hy : ev s y = .int .i64 n) (hz : zeroE te = some z) (hd : c d = z) (h0 : te.sz ≠ 0)
    (hh : (if 0 ≤ n ∧ roomy n.toNat te.bytes then some (List.replicate n.toNat d) else none : Option (List α)).bind f = some r)
    (h : ∀ v H', isSl v → 0 ≤ n → roomy n.toNat te.bytes = true → f (List.replicate n.toNat d) = some r → Own H' (⟨v, te.sz, (List.replicate n.toNat d).map c⟩ :: L) → K v H') : wpO (ACall C) C q th (.makeSlice t x y) s H K := by
  rw [wpO_pure _ rfl]
  split at hh
  · rename_i hc
    simp only [evalOp, ht, hx, hy, hz]
    rw [if_pos ⟨hc.1, Int.le_refl _, hc.2, h0⟩]
    refine h _ _ (isSl_ref ..) hc.1 hc.2 hh (hS.newSl (by simp [hd]) (by simp) ?_)
    simp only [szAll, List.map_replicate, List.all_replicate, hd, zeroE_len hz]
    simp
  · simp at hh
theorem w_lit0 {t : TypeId} {ps : Array (Nat × Operand)} {te : TI} (ht : elTI C.E t = some te) (hp : ps.size = 0) (h : K .e0 H) : wpO (ACall C) C q th (.buildSlice t 0 ps) s H K := by
  rw [wpO_pure _ rfl]
  simp only [evalOp, ht, hp, if_true]
  exact h
/-- A slice is written down. -/
theorem w_lit {t : TypeId} {n : Nat} {ps : Array (Nat × Operand)} {te : TI} {z : AV} {el : List AV} (hS : Own H L) (ht : elTI C.E t = some te) (hz : zeroA te = some z) (hn : (n == 0) = false) (hb : (decide (n * te.sz ≤ 1000000) && te.sz != 0) = true)
    (he : fillE te.sz (List.replicate n z) (ps.toList.map fun p => (p.1, ev s p.2)) = some el) (hl : el.length = n) (hsz : szAll te.sz el = true) (h : ∀ v H', isSl v → Own H' (⟨v, te.sz, el⟩ :: L) → K v H') : wpO (ACall C) C q th (.buildSlice t n ps) s H K := by
  rw [wpO_pure _ rfl]
  simp at hn hb
  simp only [evalOp, ht, if_neg hn, hz]
  rw [if_pos hb]
  simp only [he]
  exact h _ _ (isSl_ref ..) (hS.newSl (by rw [← hl]; simp) hl.symm hsz)

theorem szAll_append {sz : Nat} {a b : List AV} (ha : szAll sz a = true) (hb : szAll sz b = true) : szAll sz (a ++ b) = true := by
  unfold szAll at *; rw [List.all_append, ha, hb]; rfl

/-- What append gives. -/
theorem app_own (hS : Own H L) (j : Nat) {te : TI} {v x : AV} {el xs : List AV} (hj : L[j]? = some ⟨v, te.sz, el⟩) (hp : isSl v) (hx : elemsOf H x = some xs) (hsz : szAll te.sz xs = true) (h0 : te.sz ≠ 0) (hr : roomy (el.length + xs.length) te.bytes = true) :
    ∃ v' H', appendA te v x H = some (v', H') ∧ isSl v' ∧ Own H' (L.set j ⟨v', te.sz, el ++ xs⟩) := by
  have hok := hS.ok j _ hj
  obtain ⟨k0, hok⟩ := hok
  have hset : ∀ it : It, L[j]? = some it → L.set j it = L := fun it h => List.ext_getElem? fun k => by
    rw [List.getElem?_set]
    split
    · rename_i e; subst e
      have := (List.getElem?_eq_some_iff.1 h).1
      simp only [this, if_true]; exact h.symm
    · rfl
  simp only [appendA, hx, hsz, Bool.not_true, if_neg h0]
  simp only at hok k0
  split at hok
  · subst hok
    by_cases hn : xs.length = 0
    · have : xs = [] := List.eq_nil_of_length_eq_zero hn
      subst this
      refine ⟨.nil, H, by simp, isSl_nil, ?_⟩
      rw [List.append_nil, hset _ hj]
      exact hS
    · have hr' : roomy xs.length te.bytes = true := by simpa using hr
      refine ⟨.ref H.bs.length H.st 0 xs.length, H.new te.sz false xs, by simp [hn, hr'], isSl_ref .., ?_⟩
      exact hS.updNew (fun id ver h => blk_new_old h) ⟨by simpa using hsz, by simp, _, blk_new, rfl, rfl, by simp, by simp [subL]⟩ (fun k hk => by simp [idOf] at hk; omega)
  · subst hok
    by_cases hn : xs.length = 0
    · have : xs = [] := List.eq_nil_of_length_eq_zero hn
      subst this
      refine ⟨.e0, H, by simp, isSl_e0, ?_⟩
      rw [List.append_nil, hset _ hj]
      exact hS
    · have hr' : roomy xs.length te.bytes = true := by simpa using hr
      refine ⟨.ref H.bs.length H.st 0 xs.length, H.new te.sz false xs, by simp [hn, hr'], isSl_ref .., ?_⟩
      exact hS.updNew (fun id ver h => blk_new_old h) ⟨by simpa using hsz, by simp, _, blk_new, rfl, rfl, by simp, by simp [subL]⟩ (fun k hk => by simp [idOf] at hk; omega)
  · rename_i id ver off len
    obtain ⟨k1, b, hb, k2, k3, k4, k5⟩ := hok
    have hlt := (hS.ok j _ hj).lt rfl
    have hver := (Heap.blk_get hb).2
    subst k1
    by_cases hin : off + el.length + xs.length ≤ b.el.length
    · refine ⟨.ref id ver off (el.length + xs.length), H.upd id { b with el := splice b.el (off + el.length) xs }, by simp [hb, k2, hin], isSl_ref .., ?_⟩
      refine hS.upd hj rfl (fun id' ver' hne _ => blk_upd_ne hne) ⟨szAll_append k0 hsz, by simp, { b with el := splice b.el (off + el.length) xs }, ?_, k2, k3, ?_, ?_⟩ (fun k hk => by simpa [idOf] using hk.symm)
      · have := blk_upd (b := { b with el := splice b.el (off + el.length) xs }) hlt
        simpa only [hver] using this
      · simp only [splice_len _ _ _ hin]; omega
      · simp only [subL] at k5 ⊢
        have e1 : (splice b.el (off + el.length) xs).drop off = el ++ (xs ++ b.el.drop (off + el.length + xs.length)) := by
          unfold splice
          rw [List.append_assoc, List.drop_append_of_le_length (by simp; omega)]
          congr 1
          rw [List.drop_take]
          have : off + el.length - off = el.length := by omega
          rw [this, k5]
        rw [e1, ← List.append_assoc, List.take_append_of_le_length (by simp), List.take_of_length_le (by simp)]
    · refine ⟨.ref id H.st 0 (el.length + xs.length), ⟨H.st + 1, H.bs.set id (some ⟨H.st, b.sz, false, subL b.el off el.length ++ xs⟩)⟩, by simp [hb, k2, hin, k3, k4, hr], isSl_ref .., ?_⟩
      refine hS.upd hj rfl (fun id' ver' hne _ => ?_) ⟨szAll_append k0 hsz, by simp, ⟨H.st, te.sz, false, el ++ xs⟩, ?_, rfl, rfl, by simp, by simp only [subL, List.drop_zero]; exact List.take_of_length_le (by simp)⟩ (fun k hk => by simpa [idOf] using hk.symm)
      · have h' : ¬ id = id' := fun e => hne e.symm
        simp only [Heap.blk, List.getElem?_set, if_neg h']
      · simp only [Heap.blk, List.getElem?_set, hlt, if_true, k2, subL] at k5 ⊢; rw [k5]
  · rename_i id ver ix off
    obtain ⟨rfl, rfl, _⟩ := hok
    exact absurd rfl (hp.ne id ver)
  · exact hok.elim

/-- Lists that may grow so far. -/
def app {α : Type} (by_ : Nat) (l m : List α) : Option (List α) := if roomy (l.length + m.length) by_ then some (l ++ m) else none

theorem o_app (a b : Operand) (t u : TypeId) : wpO (ACall C) C false th (.call { callee := .builtin .append, args := #[a, b], argTypes := #[t, u] }) s H K = resO (evalBuiltin C.E .append #[t, u] [ev s a, ev s b] H) K := by
  unfold wpO wpOp
  simp only [Bool.false_eq_true, false_implies, true_and]; rfl

theorem w_app {α β : Type} {E : TEnv} {t u : TypeId} {te tu : TI} {e : TypeId} {v x : AV} {l m : List α} {c : α → AV} {f : List α → Option β} {r : β} (j : Nat) (hS : Own H L) (hj : L[j]? = some ⟨v, te.sz, l.map c⟩) (hp : isSl v) (ht : elTI E t = some te) (hu : E u = some tu) (hi : tu.und = .sl e)
    (hx : elemsOf H x = some (m.map c)) (hsz : szAll te.sz (m.map c) = true) (h0 : (te.sz == 0) = false) (hh : (app te.bytes l m).bind f = some r) (h : ∀ v' H', isSl v' → app te.bytes l m = some (l ++ m) → f (l ++ m) = some r → Own H' (L.set j ⟨v', te.sz, (l ++ m).map c⟩) → K v' H') :
    resO (evalBuiltin E .append #[t, u] [v, x] H) K := by
  cases hr : app te.bytes l m with
  | none => rw [hr] at hh; simp at hh
  | some lm =>
    have hr' := hr
    unfold app at hr
    split at hr
    · rename_i hroom
      simp only [Option.some.injEq] at hr; subst hr
      rw [hr'] at hh
      obtain ⟨v', H', h1, h2, h3⟩ := app_own hS j hj hp hx hsz (by simpa using h0) (by simpa using hroom)
      have e1 : (#[t, u] : Array TypeId)[0]? = some t := rfl
      have e2 : ((#[t, u] : Array TypeId)[1]?).bind E = E u := rfl
      simp only [evalBuiltin, e1, e2, ht, hu, hi, h1, resO]
      exact h v' H' h2 hr' hh (by rw [List.map_append]; exact h3)
    · simp at hr

/-! Calls. -/
def callK (C : Ctx) (q th : Bool) (f : AV) (args : List AV) (H : Heap) (K : AV → Heap → Prop) : Prop :=
  match f with
  | .fn g caps => if q then wpCallQ (ACall C) C g (args ++ caps) th H K else ACall C g (args ++ caps) H K ∨ wpCallQ (ACall C) C g (args ++ caps) th H K
  | _ => False
theorem o_call (f : Operand) (args : Array Operand) (tys : Array TypeId) : wpO (ACall C) C q th (.call { callee := .value f, args, argTypes := tys }) s H K = callK C q th (ev s f) (args.toList.map (ev s)) H K := rfl
theorem w_call {α β : Type} {g : FuncId} {caps args : List AV} {o : Option α} {f : α → Option β} {r : β} (h : o.bind f = some r) (hk : ∀ x, o = some x → f x = some r → ACall C g (args ++ caps) H K) : callK C false th (.fn g caps) args H K := by
  cases ho : o with
  | none => rw [ho] at h; simp at h
  | some x => rw [ho] at h; exact .inl (hk x ho h)
end

/-! Loops. -/
inductive LR (σ ρ : Type) where
  | next (x : σ)
  | done (r : ρ)

def iter {σ ρ : Type} (f : σ → Option (LR σ ρ)) : Nat → σ → Option ρ
  | 0, _ => none
  | n + 1, x => (f x).bind fun y => match y with | .next x' => iter f n x' | .done r => some r

open Classical in
/-- What a loop comes to. -/
noncomputable def whl {σ ρ : Type} (f : σ → Option (LR σ ρ)) (x : σ) : Option ρ := if h : ∃ n, (iter f n x).isSome then iter f h.choose x else none

theorem iter_mono {σ ρ : Type} {f : σ → Option (LR σ ρ)} : ∀ {n m : Nat} {x : σ} {r : ρ}, iter f n x = some r → n ≤ m → iter f m x = some r
  | 0, _, _, _, h, _ => by simp [iter] at h
  | n + 1, 0, _, _, _, h => by omega
  | n + 1, m + 1, x, r, h, hle => by
    simp only [iter] at h ⊢
    cases hf : f x with
    | none => rw [hf] at h; simp at h
    | some y =>
      rw [hf] at h
      cases y with
      | next x' => exact iter_mono (m := m) h (by omega)
      | done r' => exact h

theorem whl_some {σ ρ : Type} {f : σ → Option (LR σ ρ)} {x : σ} {r : ρ} : whl f x = some r ↔ ∃ n, iter f n x = some r := by
  unfold whl
  constructor
  · intro h
    split at h
    · exact ⟨_, h⟩
    · simp at h
  · rintro ⟨n, h⟩
    have hex : ∃ n, (iter f n x).isSome := ⟨n, by simp [h]⟩
    rw [dif_pos hex]
    cases hc : iter f hex.choose x with
    | none => have := hex.choose_spec; rw [hc] at this; simp at this
    | some r' =>
      have h1 := iter_mono hc (Nat.le_max_left hex.choose n)
      have h2 := iter_mono h (Nat.le_max_right hex.choose n)
      rw [h1] at h2; exact h2

theorem whl_eq {σ ρ : Type} (f : σ → Option (LR σ ρ)) (x : σ) : whl f x = (f x).bind fun y => match y with | .next x' => whl f x' | .done r => some r := by
  refine Option.ext fun r => ?_
  rw [whl_some]
  constructor
  · rintro ⟨n, h⟩
    cases n with
    | zero => simp [iter] at h
    | succ n =>
      simp only [iter] at h
      cases hf : f x with
      | none => rw [hf] at h; simp at h
      | some y =>
        rw [hf] at h
        cases y with
        | next x' => exact whl_some.2 ⟨n, h⟩
        | done r' => exact h
  · intro h
    cases hf : f x with
    | none => rw [hf] at h; simp at h
    | some y =>
      rw [hf] at h
      cases y with
      | next x' => obtain ⟨n, hn⟩ := whl_some.1 h; exact ⟨n + 1, by simp only [iter, hf]; exact hn⟩
      | done r' => exact ⟨1, by simp only [iter, hf]; exact h⟩

/-- What holds at a round's end. -/
def lpK {σ ρ : Type} (keep : List Nat) (Inv : σ → Frm → Heap → Prop) (y : LR σ ρ) (K : Ex → Frm → Heap → Prop) : Ex → Frm → Heap → Prop
  | .normal, s, H => ∃ x', y = .next x' ∧ Inv x' (killF keep s) H
  | .exit i, s, H => K (.exit i) s H
  | .ret, s, H => K .ret s H

section
variable {C : Ctx} {K K1 : Ex → Frm → Heap → Prop} {s : Frm} {H : Heap}
theorem w_loop {σ ρ : Type} (gC : Good C) {f : σ → Option (LR σ ρ)} {x : σ} {r : ρ} {keep : List Nat} {a : AC} (hw : whl f x = some r) (Inv : σ → Frm → Heap → Prop) (h0 : Inv x (killF keep s) H)
    (hb : ∀ x y s H, f x = some y → (∀ r', y = .done r' → r' = r) → Inv x s H → ∀ K1, K1 = lpK keep Inv y K → wpC (ACall C) C a s H K1) : wpC (ACall C) C (.loop ⟨keep, false⟩ a) s H K := by
  obtain ⟨n, hn⟩ := whl_some.1 hw
  have key : ∀ (n : Nat) (x : σ) (s : Frm) (H : Heap), iter f n x = some r → Inv x s H → ∀ m, LoopP (wpC (ACall C) C a) (nextL ⟨keep, false⟩ m) K s H := by
    intro n
    induction n with
    | zero => intro x s H h; simp [iter] at h
    | succ n ih =>
      intro x s H h hi m
      simp only [iter] at h
      cases hf : f x with
      | none => rw [hf] at h; simp at h
      | some y =>
        rw [hf] at h
        simp only [Option.bind_some] at h
        refine LoopP.round (ACall.up gC.up) (wpC_mono (ACall.up gC.up) _ _ _ _ _ (fun e s' H' he => ?_) (hb x y s H hf (fun r' e => by subst e; simpa using h) hi _ rfl))
        cases e with
        | normal =>
          obtain ⟨x', rfl, hi'⟩ := he
          exact ih x' _ _ h hi' m
        | exit i => exact he
        | ret => exact he
  exact key n x _ _ hn h0 _
theorem lp_n {σ ρ : Type} {keep : List Nat} {Inv : σ → Frm → Heap → Prop} {y : LR σ ρ} {x' : σ} (hK : K1 = lpK keep Inv y K) (hy : some (LR.next x') = some y) (hi : Inv x' (killF keep s) H) : K1 .normal s H := by
  rw [hK]; exact ⟨x', (Option.some.inj hy).symm, hi⟩
theorem lp_x {σ ρ : Type} {keep : List Nat} {Inv : σ → Frm → Heap → Prop} {y : LR σ ρ} {i : Nat} (hK : K1 = lpK keep Inv y K) (h : K (.exit i) s H) : K1 (.exit i) s H := by rw [hK]; exact h
theorem lp_r {σ ρ : Type} {keep : List Nat} {Inv : σ → Frm → Heap → Prop} {y : LR σ ρ} (hK : K1 = lpK keep Inv y K) (h : K .ret s H) : K1 .ret s H := by rw [hK]; exact h

/-- A piece of code with several ends: each comes to 'Q'. -/
def cutK (Q : Frm → Heap → Prop) (K : Ex → Frm → Heap → Prop) : Ex → Frm → Heap → Prop
  | .normal, s, H => Q s H
  | .exit i, s, H => K (.exit i) s H
  | .ret, s, H => K .ret s H
theorem w_join (gC : Good C) {a : AC} (Q : Frm → Heap → Prop) (h : ∀ K1, K1 = cutK Q K → wpC (ACall C) C a s H K1) (hq : ∀ s H, Q s H → K .normal s H) : wpC (ACall C) C a s H K := by
  refine w_cut (h _ rfl) (fun e s H he => ?_) gC
  cases e with
  | normal => exact hq s H he
  | exit i => exact he
  | ret => exact he
theorem cut_n {Q : Frm → Heap → Prop} (hK : K1 = cutK Q K) (h : Q s H) : K1 .normal s H := by rw [hK]; exact h
theorem cut_x {Q : Frm → Heap → Prop} {i : Nat} (hK : K1 = cutK Q K) (h : K (.exit i) s H) : K1 (.exit i) s H := by rw [hK]; exact h
theorem cut_r {Q : Frm → Heap → Prop} (hK : K1 = cutK Q K) (h : K .ret s H) : K1 .ret s H := by rw [hK]; exact h
end
end Go.VS
