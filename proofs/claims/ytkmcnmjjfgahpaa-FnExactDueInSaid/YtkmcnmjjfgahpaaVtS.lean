/-
  VS, part 45: keeping for good; choosing of what is owned; all equations together.
-/
import Derived.Test.YtkmcnmjjfgahpaaVtR
namespace Go.VS

/-- Slots are kept for good, and then this. -/
def FZ (l : List (List Nat × List Sh)) (s : Frm) (H : Heap) (P : Frm → Heap → Prop) : Prop := ∃ s' H', frzSlots l s H = some (s', H') ∧ P s' H'

section
variable {C : Ctx} {s : Frm} {H : Heap} {L : List It}

theorem FZ_nil (P : Frm → Heap → Prop) : FZ [] s H P = P s H := by
  apply propext
  constructor
  · rintro ⟨s', H', h, hp⟩
    simp only [frzSlots, Option.some.injEq, Prod.mk.injEq] at h
    obtain ⟨rfl, rfl⟩ := h; exact hp
  · exact fun h => ⟨s, H, rfl, h⟩
theorem FZ_step {t : Nat} {ts : List Nat} {e : Sh} {sh : List Sh} {l : List (List Nat × List Sh)} {P : Frm → Heap → Prop} {y : AV} {H1 : Heap} (ht : takeE (e :: sh) (s.getD t .undef) H = some (y, H1)) (h : FZ l (setSame (s.getD t .undef) (frzV y) ts (s.set t (frzV y))) H1 P) : FZ ((t :: ts, e :: sh) :: l) s H P := by
  obtain ⟨s', H', h1, h2⟩ := h
  exact ⟨s', H', by simp only [frzSlots, ht]; exact h1, h2⟩

theorem mapH_id {f : AV → Heap → Option (AV × Heap)} : ∀ (xs : List AV) (H : Heap), (∀ x ∈ xs, ∀ H, f x H = some (x, H)) → mapH f xs H = some (xs, H)
  | [], H, _ => rfl
  | x :: xs, H, h => by
    simp only [mapH, h x (by simp) H, mapH_id xs H (fun y hy => h y (by simp [hy]))]
theorem frzL_map {α : Type} {c : α → AV} (hz : ∀ x, frzV (c x) = c x) : ∀ (l : List α), frzL (l.map c) = l.map c
  | [] => rfl
  | x :: l => by simp only [List.map_cons, frzL, hz x, frzL_map hz l]

theorem Own.del (hS : Own H L) {id : Nat} (h : ∀ (i : Nat) (it : It), L[i]? = some it → idOf it.v ≠ some id) : Own (H.del id) L :=
  ⟨fun i it hi => (hS.ok i it hi).frame fun k ver hk => by
      have hne : ¬ id = k := fun e => h i it hi (by rw [hk, e])
      simp only [Heap.blk, Heap.del, List.getElem?_set, if_neg hne], hS.dis⟩

theorem sameRef_ok (hS : Own H L) {j : Nat} {v : AV} {sz : Nat} {el : List AV} (hj : L[j]? = some ⟨v, sz, el⟩) (hp : isSl v) : sameRef v v = true := by
  have hok := (hS.ok j _ hj).2
  simp only at hok
  split at hok
  · rfl
  · rfl
  · simp [sameRef]
  · rename_i id ver ix off
    obtain ⟨rfl, rfl, _⟩ := hok
    exact absurd rfl (hp.ne id ver)
  · exact hok.elim

/-- What is owned is taken. -/
theorem Own.take {α : Type} (hS : Own H L) (j : Nat) {v : AV} {es : List Sh} {l : List α} {c : α → AV} (hj : L[j]? = some ⟨v, es.length, l.map c⟩) (hp : isSl v) (hc : ∀ x H, takeE es (c x) H = some (c x, H)) :
    ∃ H', takeE [.sl es] v H = some (.own es.length (l.map c), H') ∧ Own H' (L.eraseIdx j) := by
  have hok := hS.ok j _ hj
  have hf := hS.front j hj
  obtain ⟨k0, hok⟩ := hok
  have e1 : takeE [.sl es] v H = takeT (.sl es) v H := by
    have hna : ∀ cs, v ≠ .agg cs := by rintro cs rfl; exact hok
    cases v with
    | agg cs => exact absurd rfl (hna cs)
    | _ => simp only [takeE]
  rw [e1]
  simp only at hok
  split at hok
  · rename_i hv
    exact ⟨H, by simp only [takeT, hok], hf.tl⟩
  · exact ⟨H, by simp only [takeT, hok], hf.tl⟩
  · rename_i id ver off len
    obtain ⟨k1, b, hb, k2, k3, k4, k5⟩ := hok
    have hm : mapH (takeE es) (l.map c) (H.del id) = some (l.map c, H.del id) := mapH_id _ _ (by
      intro x hx H
      obtain ⟨y, _, rfl⟩ := List.mem_map.1 hx
      exact hc y H)
    refine ⟨H.del id, ?_, hf.tl.del fun i it hi e => ?_⟩
    · simp only [takeT, hb]
      rw [if_pos ⟨k2, k4, .inl k3⟩, k5, hm]
    · have := hf.dis 0 (i + 1) _ it id rfl (by simpa using hi) rfl e
      omega
  · rename_i id ver ix off
    obtain ⟨rfl, rfl, _⟩ := hok
    exact absurd rfl (hp.ne id ver)
  · exact hok.elim

theorem FZ_own {α : Type} {t : Nat} {ts : List Nat} {es : List Sh} {l : List (List Nat × List Sh)} {P : Frm → Heap → Prop} {v : AV} {m : List α} {c : α → AV} (j : Nat) (hS : Own H L) (hj : L[j]? = some ⟨v, es.length, m.map c⟩) (hp : isSl v) (hv : s.getD t .undef = v) (hc : ∀ x H, takeE es (c x) H = some (c x, H)) (hz : ∀ x, frzV (c x) = c x)
    (h : ∀ H', sameRef v v = true → Own H' (L.eraseIdx j) → FZ l (setSame v (.fz (m.map c)) ts (s.set t (.fz (m.map c)))) H' P) : FZ ((t :: ts, [.sl es]) :: l) s H P := by
  obtain ⟨H', h1, h2⟩ := hS.take j hj hp hc
  rw [← hv] at h1
  refine FZ_step h1 ?_
  simp only [frzV, frzL_map hz, hv]
  exact h H' (sameRef_ok hS hj hp) h2
theorem FZ_nl {t : Nat} {ts : List Nat} {es : List Sh} {l : List (List Nat × List Sh)} {P : Frm → Heap → Prop} (hv : s.getD t .undef = .nil) (h : FZ l (setSame .nil (.fz []) ts (s.set t (.fz []))) H P) : FZ ((t :: ts, [.sl es]) :: l) s H P := by
  refine FZ_step (y := .own es.length []) (H1 := H) (by rw [hv]; simp only [takeE, takeT]) ?_
  rw [hv]; exact h
theorem FZ_e {t : Nat} {ts : List Nat} {es : List Sh} {l : List (List Nat × List Sh)} {P : Frm → Heap → Prop} (hv : s.getD t .undef = .e0) (h : FZ l (setSame .e0 (.fz []) ts (s.set t (.fz []))) H P) : FZ ((t :: ts, [.sl es]) :: l) s H P := by
  refine FZ_step (y := .own es.length []) (H1 := H) (by rw [hv]; simp only [takeE, takeT]) ?_
  rw [hv]; exact h
/-! A struct is kept for good, cell by cell. -/
def TC (es : List Sh) (cs : List AV) (H : Heap) (K : List AV → Heap → Prop) : Prop := ∃ ys H', takeC es cs H = some (ys, H') ∧ K ys H'
theorem TC_nil {K : List AV → Heap → Prop} (h : K [] H) : TC [] [] H K := ⟨[], H, by simp only [takeC], h⟩
theorem TC_one {e : Sh} {es : List Sh} {v y : AV} {cs : List AV} {H1 : Heap} {K : List AV → Heap → Prop} (ht : takeT e v H = some (y, H1)) (h : TC es cs H1 fun ys H' => K (y :: ys) H') : TC (e :: es) (v :: cs) H K := by
  obtain ⟨ys, H', h1, h2⟩ := h
  exact ⟨y :: ys, H', by simp only [takeC, ht, h1], h2⟩
theorem TC_sc {es : List Sh} {v : AV} {cs : List AV} {K : List AV → Heap → Prop} (hp : plainA v = true) (h : TC es cs H fun ys H' => K (v :: ys) H') : TC (.sc :: es) (v :: cs) H K :=
  TC_one (by simp only [takeT, hp, if_true]) h
theorem TC_fz {es fs : List Sh} {xs cs : List AV} {K : List AV → Heap → Prop} (h : TC es cs H fun ys H' => K (.fz xs :: ys) H') : TC (.sl fs :: es) (.fz xs :: cs) H K :=
  TC_one (by simp only [takeT]) h
theorem TC_nl {es fs : List Sh} {cs : List AV} {K : List AV → Heap → Prop} (h : TC es cs H fun ys H' => K (.own fs.length [] :: ys) H') : TC (.sl fs :: es) (.nil :: cs) H K :=
  TC_one (by simp only [takeT]) h
theorem TC_e0 {es fs : List Sh} {cs : List AV} {K : List AV → Heap → Prop} (h : TC es cs H fun ys H' => K (.own fs.length [] :: ys) H') : TC (.sl fs :: es) (.e0 :: cs) H K :=
  TC_one (by simp only [takeT]) h
theorem TC_ow {α : Type} {es fs : List Sh} {v : AV} {cs : List AV} {K : List AV → Heap → Prop} {m : List α} {c : α → AV} (j : Nat) (hS : Own H L) (hj : L[j]? = some ⟨v, fs.length, m.map c⟩) (hp : isSl v) (hc : ∀ x H, takeE fs (c x) H = some (c x, H))
    (h : ∀ H', Own H' (L.eraseIdx j) → TC es cs H' fun ys H' => K (.own fs.length (m.map c) :: ys) H') : TC (.sl fs :: es) (v :: cs) H K := by
  obtain ⟨H', h1, h2⟩ := hS.take j hj hp hc
  have h3 : takeT (.sl fs) v H = some (.own fs.length (m.map c), H') := by
    have hna : ∀ cs, v ≠ .agg cs := by rintro cs rfl; rcases hp.ok with h | h | ⟨_, _, _, _, h⟩ <;> simp at h
    cases v with
    | agg cs => exact absurd rfl (hna cs)
    | _ => simpa only [takeE] using h1
  exact TC_one h3 (h H' h2)
theorem FZ_agg {t : Nat} {e : Sh} {sh : List Sh} {l : List (List Nat × List Sh)} {P : Frm → Heap → Prop} {cs : List AV} (hv : s.getD t .undef = .agg cs) (h : TC (e :: sh) cs H fun ys H' => FZ l (s.set t (frzV (.agg ys))) H' P) : FZ (([t], e :: sh) :: l) s H P := by
  obtain ⟨ys, H', h1, h2⟩ := h
  refine FZ_step (y := .agg ys) (H1 := H') (by rw [hv]; simp only [takeE, h1]) ?_
  exact h2
theorem frzV_agg (xs : List AV) : frzV (.agg xs) = .agg (frzL xs) := rfl
theorem frzL_c (x : AV) (xs : List AV) : frzL (x :: xs) = frzV x :: frzL xs := rfl
theorem frzL_n : frzL [] = [] := rfl
theorem frzV_i (k : IntKind) (n : Int) : frzV (.int k n) = .int k n := rfl
theorem frzV_b (b : Bool) : frzV (.bool b) = .bool b := rfl
theorem frzV_s (b : List UInt8) : frzV (.str b) = .str b := rfl
theorem frzV_f (b : List AV) : frzV (.fz b) = .fz b := rfl
theorem frzV_o (n : Nat) (b : List AV) : frzV (.own n b) = .fz (frzL b) := rfl
theorem frzV_t (xs : List AV) : frzV (.tup xs) = .tup (frzL xs) := rfl
theorem one_1 (x : AV) : oneOrTup [x] = x := rfl
theorem one_2 (x y : AV) (l : List AV) : oneOrTup (x :: y :: l) = .tup (x :: y :: l) := rfl
theorem one_0 : oneOrTup [] = .tup [] := rfl
/-- Less is said of a slot. -/
theorem FZ_wk {t : Nat} {ts : List Nat} {l : List (List Nat × List Sh)} {P : Frm → Heap → Prop} {v : AV} (hv : s.getD t .undef = v) (hn : ∀ a b c d, v ≠ .ref a b c d) (h : FZ l (s.set t (wkA v)) H P) : FZ ((t :: ts, []) :: l) s H P := by
  obtain ⟨s', H', h1, h2⟩ := h
  refine ⟨s', H', ?_, h2⟩
  simp only [frzSlots]
  have : wkSlot t s H = (s.set t (wkA v), H) := by
    unfold wkSlot
    rw [hv]
    cases v <;> first | rfl | exact absurd rfl (hn _ _ _ _)
  rw [this]; exact h1
/-- Less is said of what a slice holds. -/
theorem FZ_wo {α : Type} {t : Nat} {ts : List Nat} {l : List (List Nat × List Sh)} {P : Frm → Heap → Prop} {v : AV} {sz : Nat} {el : List AV} {m : List α} {c : α → AV} (j : Nat) (hS : Own H L) (hj : L[j]? = some ⟨v, sz, el⟩) (hp : isSl v) (hv : s.getD t .undef = v) (he : el.map wkA = m.map c)
    (h : ∀ s' H', (s' = s ∨ s' = s.set t (.fz [])) → (v = .nil ∨ v = .e0 → m = []) → (s' = s → Own H' (L.set j ⟨v, sz, m.map c⟩)) → FZ l s' H' P) : (v ≠ .nil ∧ v ≠ .e0) → FZ ((t :: ts, []) :: l) s H P := by
  intro hne
  have hok := hS.ok j _ hj
  obtain ⟨k0, hok⟩ := hok
  simp only at hok k0
  split at hok
  · exact absurd rfl hne.1
  · exact absurd rfl hne.2
  · rename_i id ver off len
    obtain ⟨k1, b, hb, k2, k3, k4, k5⟩ := hok
    have hver := (Heap.blk_get hb).2
    have hlt := (hS.ok j _ hj).lt rfl
    obtain ⟨s', H', h1, h2⟩ := h s (H.upd id { b with el := b.el.map wkA }) (.inl rfl) (fun h => by rcases h with h | h <;> simp at h) (fun _ => by
      refine hS.upd hj rfl (fun id' ver' hne _ => blk_upd_ne hne) ⟨?_, ?_, { b with el := b.el.map wkA }, ?_, k2, k3, by simpa using k4, ?_⟩ (fun k hk => by simpa [idOf] using hk.symm)
      · rw [← he]
        simp only [szAll, List.all_eq_true, List.mem_map] at k0 ⊢
        rintro z ⟨y, hy, rfl⟩
        rw [wkA_cells, List.length_map]; exact k0 y hy
      · simp only; rw [← he]; simpa using k1
      · have := blk_upd (b := { b with el := b.el.map wkA }) hlt
        simpa only [hver] using this
      · simp only [subL, ← List.map_drop, ← List.map_take] at k5 ⊢
        rw [k5, he])
    refine ⟨s', H', ?_, h2⟩
    simp only [frzSlots]
    have : wkSlot t s H = (s, H.upd id { b with el := b.el.map wkA }) := by
      unfold wkSlot
      rw [hv]
      simp only [hb]
    rw [this]; exact h1
  · rename_i id ver ix off
    obtain ⟨rfl, rfl, _⟩ := hok
    exact absurd rfl (hp.ne id ver)
  · exact hok.elim
theorem setSame_n (x y : AV) : setSame x y [] s = s := rfl
theorem setSame_c (x y : AV) (t : Nat) (ts : List Nat) : setSame x y (t :: ts) s = setSame x y ts (if sameRef (s.getD t .undef) x then s.set t y else s) := rfl
theorem sameRef_n : sameRef .nil .nil = true := rfl
theorem sameRef_e : sameRef .e0 .e0 = true := rfl

theorem wpF_nil (fz : List (Nat × List (List Nat × List Sh))) (K : Frm → Heap → Prop) (i : Nat) : wpF C fz K [] i s H = K s H := rfl
theorem wpF_cons (fz : List (Nat × List (List Nat × List Sh))) (K : Frm → Heap → Prop) (d : Option Tmp) (op : Op) (g : Option (Option Tmp × Bool)) (late : List (Op × Option Tmp)) (q th : Bool) (rest : List GO) (i : Nat) :
    wpF C fz K (⟨d, op, g, late, th, q⟩ :: rest) i s H = FZ ((fz.lookup i).getD []) s H fun s H => grd g s (wpO (ACall C) C q th op s H fun v H' => wpF C fz K rest (i + 1) (setA s d v) H') (wpF C fz K rest (i + 1) (setA s d (.tup [])) H) := rfl
theorem w_frzN {l : List (List Nat × List Sh)} {kp : Option (List Nat)} {K : Ex → Frm → Heap → Prop} (h : FZ l s H fun s H => K .normal (killB kp s) H) : wpC (ACall C) C (.frz l kp) s H K := by
  obtain ⟨s', H', h1, h2⟩ := h
  exact w_frz h1 h2

/-- A choice of what is owned, in an order of its own. -/
theorem Own.sel (hS : Own H L) (n : Nat) (js : List Nat) (hj : (js.Nodup ∧ ∀ j ∈ js, j < n)) : Own H (js.filterMap (L[·]?) ++ L.drop n) := by
  refine ⟨fun i it hi => ?_, fun i j a b id hi hj' ha hb => ?_⟩
  · rcases List.mem_append.1 (List.mem_of_getElem? hi) with h | h
    · obtain ⟨k, _, hk⟩ := List.mem_filterMap.1 h
      exact hS.ok k it hk
    · obtain ⟨k, hk⟩ := List.mem_iff_getElem?.1 (List.mem_of_mem_drop h)
      exact hS.ok k it hk
  · -- by the nodup form
    have key : ∀ (js : List Nat), js.Nodup → (∀ j ∈ js, j < n) → ∀ (i j : Nat) (a b : It), (js.filterMap (L[·]?) ++ L.drop n)[i]? = some a → (js.filterMap (L[·]?) ++ L.drop n)[j]? = some b → idOf a.v = some id → idOf b.v = some id → i = j := by
      intro js
      induction js with
      | nil =>
        intro _ _ i j a b hi hj ha hb
        simp only [List.filterMap_nil, List.nil_append, List.getElem?_drop] at hi hj
        have := hS.dis _ _ a b id hi hj ha hb
        omega
      | cons k ks ih =>
        intro hnd hlt i j a b hi hj ha hb
        have hnd' := (List.nodup_cons.1 hnd)
        have ih' := ih hnd'.2 (fun j h => hlt j (by simp [h]))
        cases hk : L[k]? with
        | none =>
          simp only [List.filterMap_cons, hk] at hi hj
          exact ih' i j a b hi hj ha hb
        | some c =>
          simp only [List.filterMap_cons, hk, List.cons_append] at hi hj
          have other : ∀ (m : Nat) (d : It), (ks.filterMap (L[·]?) ++ L.drop n)[m]? = some d → idOf c.v = some id → idOf d.v ≠ some id := by
            intro m d hm hc hd
            rcases List.mem_append.1 (List.mem_of_getElem? hm) with h | h
            · obtain ⟨k', hk1, hk'⟩ := List.mem_filterMap.1 h
              have := hS.dis k k' c d id hk hk' hc hd
              subst this
              exact hnd'.1 hk1
            · obtain ⟨k', hk'⟩ := List.mem_iff_getElem?.1 h
              rw [List.getElem?_drop] at hk'
              have := hS.dis k _ c d id hk hk' hc hd
              have := hlt k (by simp)
              omega
          cases i with
          | zero =>
            simp at hi; subst hi
            cases j with
            | zero => rfl
            | succ j => exact absurd hb (other j b (by simpa using hj) ha)
          | succ i =>
            cases j with
            | zero => simp at hj; subst hj; exact absurd ha (other i a (by simpa using hi) hb)
            | succ j => have := ih' i j a b (by simpa using hi) (by simpa using hj) ha hb; omega
    exact key js hj.1 hj.2 i j a b hi hj' ha hb
end

theorem memd {α : Type} {L F : List α} {n : Nat} {x : α} (hL : L.drop n = F) (h : x ∈ F) : x ∈ L := List.mem_of_mem_drop (hL.symm ▸ h)
abbrev u := AV.undef
def fzl {α : Type} (c : α → AV) (l : List α) : AV := .fz (l.map c)
theorem res_n (E : TEnv) (s : Frm) (H : Heap) : resVals E s H [] = some [] := rfl
theorem res_t (E : TEnv) (s : Frm) (H : Heap) (t : Tmp) (rs : List ResultVar) : resVals E s H (.tmp t :: rs) = (resVals E s H rs).map (s.getD t .undef :: ·) := rfl
/-- A result that lies in a variable. -/
theorem res_c {E : TEnv} {s : Frm} {H : Heap} {a : Tmp} {t : TypeId} {rs : List ResultVar} {ti : TI} {id ver sz : Nat} {x y : AV} {ys : List AV} (ht : E t = some ti) (ha : s.getD a .undef = .ptr id ver 0 0) (hb : H.blk id ver = some ⟨ver, sz, false, [x]⟩) (hx : rdAt ti x 0 = some y) (hr : resVals E s H rs = some ys) : resVals E s H (.cell a t :: rs) = some (y :: ys) := by
  have : evalOp E (.load t (.tmp a)) s H = some (y, H) := by
    have e : ev s (.tmp a) = .ptr id ver 0 0 := ha
    simp only [evalOp, ht, e, hb, List.getElem?_cons_zero, hx]
  simp only [resVals, this, hr, Option.map_some]
theorem res_tc {E : TEnv} {s : Frm} {H : Heap} {a : Tmp} {rs : List ResultVar} {y : AV} {ys : List AV} (ha : s.getD a .undef = y) (hr : resVals E s H rs = some ys) : resVals E s H (.tmp a :: rs) = some (y :: ys) := by
  simp only [resVals, hr, Option.map_some, ha]

/-! Continuations with names, so that nothing is looked at before its time. -/
section
variable {C : Ctx} {s : Frm} {H : Heap}
def goK (C : Ctx) (K : Frm → Heap → Prop) (d : Option Tmp) (late : List (Op × Option Tmp)) (rest : List GO) (s : Frm) : AV → Heap → Prop := fun v H => lateG C (setA s d v) H (wpG C K rest (setA s d v) H) late
def grdT (C : Ctx) (K : Frm → Heap → Prop) (v : AV) (w : Bool) (d : Option Tmp) (op : Op) (late : List (Op × Option Tmp)) (th q : Bool) (rest : List GO) (s : Frm) (H : Heap) : Prop := grdV v w (wpO (ACall C) C q th op s H (goK C K d late rest s)) (goK C K d late rest s (.tup []) H)
theorem goK_0 (K : Frm → Heap → Prop) (d : Option Tmp) (rest : List GO) (v : AV) : goK C K d [] rest s v H = wpG C K rest (setA s d v) H := rfl
theorem goK_l (K : Frm → Heap → Prop) (d : Option Tmp) (l : Op × Option Tmp) (ls : List (Op × Option Tmp)) (rest : List GO) (v : AV) : goK C K d (l :: ls) rest s v H = lateG C (setA s d v) H (wpG C K rest (setA s d v) H) (l :: ls) := rfl
theorem wpG_c (K : Frm → Heap → Prop) (d : Option Tmp) (op : Op) (late : List (Op × Option Tmp)) (q th : Bool) (rest : List GO) : wpG C K (⟨d, op, none, late, th, q⟩ :: rest) s H = wpO (ACall C) C q th op s H (goK C K d late rest s) := rfl
theorem wpG_g (K : Frm → Heap → Prop) (d : Option Tmp) (op : Op) (t : Tmp) (w : Bool) (late : List (Op × Option Tmp)) (q th : Bool) (rest : List GO) : wpG C K (⟨d, op, some (some t, w), late, th, q⟩ :: rest) s H = grdT C K (s.getD t .undef) w d op late th q rest s H := rfl
variable (K : Frm → Heap → Prop) (d : Option Tmp) (op : Op) (late : List (Op × Option Tmp)) (th q : Bool) (rest : List GO)
theorem grdT_tt : grdT C K (.bool true) true d op late th q rest s H = wpO (ACall C) C q th op s H (goK C K d late rest s) := grdV_tt _ _
theorem grdT_ff : grdT C K (.bool false) false d op late th q rest s H = wpO (ACall C) C q th op s H (goK C K d late rest s) := grdV_ff _ _
theorem grdT_tf : grdT C K (.bool true) false d op late th q rest s H = goK C K d late rest s (.tup []) H := grdV_tf _ _
theorem grdT_ft : grdT C K (.bool false) true d op late th q rest s H = goK C K d late rest s (.tup []) H := grdV_ft _ _
theorem grdT_u (l : List AV) (w : Bool) : grdT C K (.tup l) w d op late th q rest s H = goK C K d late rest s (.tup []) H := rfl
theorem w_grdT {α : Type} {c w : Bool} {x y : Option α} {r : α} {K : Frm → Heap → Prop} {d : Option Tmp} {op : Op} {late : List (Op × Option Tmp)} {th q : Bool} {rest : List GO} (h : (bif c then x else y) = some r) (ht : c = true → x = some r → grdT C K (.bool true) w d op late th q rest s H) (hf : c = false → y = some r → grdT C K (.bool false) w d op late th q rest s H) : grdT C K (.bool c) w d op late th q rest s H := by
  cases c with
  | true => exact ht rfl h
  | false => exact hf rfl h
variable (fz : List (Nat × List (List Nat × List Sh))) (i : Nat)
def goF (C : Ctx) (fz : List (Nat × List (List Nat × List Sh))) (K : Frm → Heap → Prop) (d : Option Tmp) (rest : List GO) (i : Nat) (s : Frm) : AV → Heap → Prop := fun v H => wpF C fz K rest (i + 1) (setA s d v) H
def grdF (C : Ctx) (fz : List (Nat × List (List Nat × List Sh))) (K : Frm → Heap → Prop) (v : AV) (w : Bool) (d : Option Tmp) (op : Op) (th q : Bool) (rest : List GO) (i : Nat) (s : Frm) (H : Heap) : Prop := grdV v w (wpO (ACall C) C q th op s H (goF C fz K d rest i s)) (goF C fz K d rest i s (.tup []) H)
def fzK (C : Ctx) (fz : List (Nat × List (List Nat × List Sh))) (K : Frm → Heap → Prop) (o : GO) (rest : List GO) (i : Nat) : Frm → Heap → Prop := fun s H => grd o.g s (wpO (ACall C) C o.q o.th o.op s H (goF C fz K o.d rest i s)) (goF C fz K o.d rest i s (.tup []) H)
theorem wpF_c (o : GO) : wpF C fz K (o :: rest) i s H = FZ ((fz.lookup i).getD []) s H (fzK C fz K o rest i) := rfl
theorem fzK_n : fzK C fz K ⟨d, op, none, late, th, q⟩ rest i s H = wpO (ACall C) C q th op s H (goF C fz K d rest i s) := rfl
theorem fzK_g (t : Tmp) (w : Bool) : fzK C fz K ⟨d, op, some (some t, w), late, th, q⟩ rest i s H = grdF C fz K (s.getD t .undef) w d op th q rest i s H := rfl
theorem goF_a (v : AV) : goF C fz K d rest i s v H = wpF C fz K rest (i + 1) (setA s d v) H := rfl
theorem grdF_tt : grdF C fz K (.bool true) true d op th q rest i s H = wpO (ACall C) C q th op s H (goF C fz K d rest i s) := grdV_tt _ _
theorem grdF_ff : grdF C fz K (.bool false) false d op th q rest i s H = wpO (ACall C) C q th op s H (goF C fz K d rest i s) := grdV_ff _ _
theorem grdF_tf : grdF C fz K (.bool true) false d op th q rest i s H = goF C fz K d rest i s (.tup []) H := grdV_tf _ _
theorem grdF_ft : grdF C fz K (.bool false) true d op th q rest i s H = goF C fz K d rest i s (.tup []) H := grdV_ft _ _
theorem grdF_u (l : List AV) (w : Bool) : grdF C fz K (.tup l) w d op th q rest i s H = goF C fz K d rest i s (.tup []) H := rfl
theorem w_grdF {α : Type} {c w : Bool} {x y : Option α} {r : α} {K : Frm → Heap → Prop} {d : Option Tmp} {op : Op} {th q : Bool} {rest : List GO} {fz : List (Nat × List (List Nat × List Sh))} {i : Nat} (h : (bif c then x else y) = some r) (ht : c = true → x = some r → grdF C fz K (.bool true) w d op th q rest i s H) (hf : c = false → y = some r → grdF C fz K (.bool false) w d op th q rest i s H) : grdF C fz K (.bool c) w d op th q rest i s H := by
  cases c with
  | true => exact ht rfl h
  | false => exact hf rfl h
end

theorem lk_hit {β : Type} (i : Nat) (l : β) (r : List (Nat × β)) : ((i, l) :: r).lookup i = some l := by simp [List.lookup]
theorem lk_miss {β : Type} (i k : Nat) (l : β) (r : List (Nat × β)) (h : (i == k) = false) : ((k, l) :: r).lookup i = r.lookup i := by simp only [List.lookup, h]
theorem lk_nil {β : Type} (i : Nat) : ([] : List (Nat × β)).lookup i = none := rfl
theorem cmpL_n (all : List Oper) (q : Nat → Bool) (late : Nat → List Nat) (th : List Nat) (i : Nat) : cmpL all q late th [] i = [] := rfl
theorem cmpL_c (all : List Oper) (q : Nat → Bool) (late : Nat → List Nat) (th : List Nat) (o : Oper) (rest : List Oper) (i : Nat) : cmpL all q late th (o :: rest) i = ⟨o.dst, o.op, o.guard.map fun p => (lk all p.1, p.2), (late i).map (lkO all), th.contains i, q i⟩ :: cmpL all q late th rest (i + 1) := rfl
theorem lk_0 (o : Oper) (os : List Oper) : lk (o :: os) 0 = o.dst := rfl
theorem lk_s (o : Oper) (os : List Oper) (n : Nat) : lk (o :: os) (n + 1) = lk os n := rfl
theorem nrm_s (K : Ex → Frm → Heap → Prop) (s : Frm) (H : Heap) : nrm K s H = K .normal s H := rfl
theorem fldT_d (E : TEnv) (t : TypeId) (f : Nat) : fldT E t f = match E t with
  | some ti => match ti.und with
    | .st fs => match fs[f]? with
      | some (o, ft) => match E ft with
        | some tf => some (o, tf)
        | none => none
      | none => none
    | _ => none
  | none => none := rfl
theorem lenK_fz' (ti : TI) (hu : isSlU ti.und = true) (xs : List AV) (n : Nat) {H : Heap} {K : AV → Heap → Prop} : lenK (some ti) (.fz xs) (some n) H K = K (.int .i64 n) H := by cases h : ti.und <;> rw [h] at hu <;> simp [isSlU] at hu; exact lenK_fz ti h xs n
theorem lenK_nil' (ti : TI) (hu : isSlU ti.und = true) (n : Nat) {H : Heap} {K : AV → Heap → Prop} : lenK (some ti) .nil (some n) H K = K (.int .i64 n) H := by cases h : ti.und <;> rw [h] at hu <;> simp [isSlU] at hu; exact lenK_nil ti h n
theorem lenK_e0' (ti : TI) (hu : isSlU ti.und = true) (n : Nat) {H : Heap} {K : AV → Heap → Prop} : lenK (some ti) .e0 (some n) H K = K (.int .i64 n) H := by cases h : ti.und <;> rw [h] at hu <;> simp [isSlU] at hu; exact lenK_e0 ti h n
theorem lenK_str' (ti : TI) (hu : isStrU ti.und = true) (l : List UInt8) (n : Nat) {H : Heap} {K : AV → Heap → Prop} : lenK (some ti) (.str l) (some n) H K = K (.int .i64 n) H := by cases h : ti.und <;> rw [h] at hu <;> simp [isStrU] at hu; exact lenK_str ti h l n
theorem convI_d (ta tb : TI) (n : Int) (H : Heap) (K : AV → Heap → Prop) : convI (some ta) (some tb) n H K = match tb.und with | .it k => K (.int k (k.wrap n)) H | _ => False := rfl
theorem fa_fe' (o : Nat) (tf : TI) (y : AV) (off : Nat) (h : (tf.sz == 0) = false) {H : Heap} {K : AV → Heap → Prop} : faK (some (o, tf)) (.fe y off) H K = K (.fe y (off + o)) H := fa_fe o tf h y off
def faP (b : Option Blk) (k : Prop) : Prop := match b with | some _ => k | none => False
theorem fa_p' (o : Nat) (tf : TI) (id ver idx off : Nat) (h : (tf.sz == 0) = false) {H : Heap} {K : AV → Heap → Prop} : faK (some (o, tf)) (.ptr id ver idx off) H K = faP (H.blk id ver) (K (.ptr id ver idx (off + o)) H) := by
  rw [fa_p o tf h]; rfl
theorem faP_s (b : Blk) (k : Prop) : faP (some b) k = k := rfl
theorem o_nc {C : Ctx} {q th : Bool} {s : Frm} {H : Heap} {K : AV → Heap → Prop} (x : Operand) : wpO (ACall C) C q th (.nilCheck x) s H K = (match ev s x with | .ptr a b c d => faP (H.blk a b) (K (.ptr a b c d) H) | .fe x o => K (.fe x o) H | _ => False) := by
  rw [wpO_pure _ rfl]
  simp only [evalOp]
  generalize ev s x = r
  cases r <;> try rfl
  rename_i a b c d
  simp only
  cases H.blk a b <;> rfl
theorem rd_1 (z : List AV) (b : Nat) (w : UD) (e : Bool) (cs : List AV) (off : Nat) : rdAt ⟨1, false, z, b, w, e⟩ (.agg cs) off = cs[off]? := by
  by_cases h : off < cs.length
  · have e1 : subL cs off 1 = [cs[off]] := by
      simp only [subL, List.drop_eq_getElem_cons h, List.take_succ_cons, List.take_zero]
    have e2 : rdAt ⟨1, false, z, b, w, e⟩ (.agg cs) off = mkT false (subL cs off 1) := if_pos (show off + 1 ≤ cs.length from h)
    rw [e2, e1, List.getElem?_eq_getElem h]
    rfl
  · rw [List.getElem?_eq_none (by omega)]
    exact if_neg (show ¬ off + 1 ≤ cs.length from h)
theorem rd_i (z : List AV) (b : Nat) (w : UD) (e : Bool) (k : IntKind) (n : Int) : rdAt ⟨1, false, z, b, w, e⟩ (.int k n) 0 = some (.int k n) := rfl
theorem rd_b (z : List AV) (b : Nat) (w : UD) (e : Bool) (n : Bool) : rdAt ⟨1, false, z, b, w, e⟩ (.bool n) 0 = some (.bool n) := rfl
theorem rd_s (z : List AV) (b : Nat) (w : UD) (e : Bool) (n : List UInt8) : rdAt ⟨1, false, z, b, w, e⟩ (.str n) 0 = some (.str n) := rfl
theorem rd_f (z : List AV) (b : Nat) (w : UD) (e : Bool) (n : List AV) : rdAt ⟨1, false, z, b, w, e⟩ (.fz n) 0 = some (.fz n) := rfl
theorem rd_n (z : List AV) (b : Nat) (w : UD) (e : Bool) : rdAt ⟨1, false, z, b, w, e⟩ .nil 0 = some .nil := rfl
theorem rd_e (z : List AV) (b : Nat) (w : UD) (e : Bool) : rdAt ⟨1, false, z, b, w, e⟩ .e0 0 = some .e0 := rfl
theorem rd_v (z : List AV) (b : Nat) (w : UD) (e : Bool) (a c d f : Nat) : rdAt ⟨1, false, z, b, w, e⟩ (.ref a c d f) 0 = some (.ref a c d f) := rfl
theorem rd_a (n : Nat) (z : List AV) (b : Nat) (w : UD) (e : Bool) (cs : List AV) (off : Nat) : rdAt ⟨n, true, z, b, w, e⟩ (.agg cs) off = if off + n ≤ cs.length then some (.agg ((cs.drop off).take n)) else none := rfl
theorem aggEq_d (ti : TI) (r : Bool) (neg : Bool) : aggEq (some ti) (some r) neg = if ti.agg then some (.bool (if neg then !r else r)) else none := rfl
theorem nilEq_d (ti : TI) (x y : AV) (neg : Bool) : nilEq (some ti) x y neg = match isNil ti.und x y with | some b => some (.bool (if neg then !b else b)) | none => none := rfl
theorem eqT_s (E : TEnv) (d : Nat) (t : TypeId) (xs ys : List AV) : eqT E (d + 1) t xs ys = match E t with
    | none => none
    | some ti => match ti.und with
      | .it _ => match xs, ys with
        | [.int k a], [.int j b] => if k = j then some (a == b) else none
        | _, _ => none
      | .bl => match xs, ys with
        | [.bool a], [.bool b] => some (a == b)
        | _, _ => none
      | .str => match xs, ys with
        | [.str a], [.str b] => some (a == b)
        | _, _ => none
      | .st fs => if ti.eqok then eqFs E (eqT E d) fs xs ys else none
      | _ => none := rfl
theorem eqFs_n (E : TEnv) (f : TypeId → List AV → List AV → Option Bool) (xs ys : List AV) : eqFs E f [] xs ys = some true := rfl
theorem eqFs_c (E : TEnv) (f : TypeId → List AV → List AV → Option Bool) (o : Nat) (ft : TypeId) (fs : List (Nat × TypeId)) (xs ys : List AV) : eqFs E f ((o, ft) :: fs) xs ys = match E ft with
    | none => none
    | some tf =>
      if o + tf.sz ≤ xs.length ∧ o + tf.sz ≤ ys.length then
        match f ft (subL xs o tf.sz) (subL ys o tf.sz) with
        | some b => match eqFs E f fs xs ys with
          | some r => some (b && r)
          | none => none
        | none => none
      else none := rfl
theorem subL_d (cs : List AV) (off n : Nat) : subL cs off n = (cs.drop off).take n := rfl
/-- A struct is built. -/
def bldK (E : TEnv) (t : TypeId) (ps : List (Nat × AV)) (H : Heap) (K : AV → Heap → Prop) : Prop := match E t with
    | some ti => match ti.und with
      | .st fs => if !(fs.all fun f => (E f.2).isSome) || !(ti.zero.all stor1) then False else resV ((fillA (fun i => match fs[i]? with | some (o, ft) => (E ft).map fun tf => (o, tf.sz) | none => none) ti.zero ps).map .agg) H K
      | .ar n e => match E e with
        | some te => if !(ti.zero.all stor1) then False else resV ((fillA (fun i => if i < n then some (i * te.sz, te.sz) else none) ti.zero ps).map .agg) H K
        | none => False
      | _ => False
    | none => False
theorem o_bld {C : Ctx} {q th : Bool} {s : Frm} {H : Heap} {K : AV → Heap → Prop} (t : TypeId) (ps : Array (Nat × Operand)) : wpO (ACall C) C q th (.build t ps) s H K = bldK C.E t (ps.toList.map fun p => (p.1, ev s p.2)) H K := by
  rw [wpO_pure _ rfl]
  simp only [evalOp, bldK]
  cases C.E t with
  | none => rfl
  | some ti =>
    simp only
    cases ti.und <;> try rfl
    · rename_i fs
      simp only
      split
      · rfl
      · generalize Option.map AV.agg _ = r; cases r <;> rfl
    · rename_i n e
      simp only
      cases C.E e with
      | none => rfl
      | some te =>
        simp only
        split
        · rfl
        · generalize Option.map AV.agg _ = r; cases r <;> rfl
theorem w_bld {E : TEnv} {t : TypeId} {ps : List (Nat × AV)} {H : Heap} {K : AV → Heap → Prop} {ti : TI} {fs : List (Nat × TypeId)} {cs : List AV} (ht : E t = some ti) (hu : ti.und = .st fs) (h1 : (fs.all fun f => (E f.2).isSome) = true) (h2 : ti.zero.all stor1 = true)
    (hf : fillA (fun i => match fs[i]? with | some (o, ft) => (E ft).map fun tf => (o, tf.sz) | none => none) ti.zero ps = some cs) (h : K (.agg cs) H) : bldK E t ps H K := by
  simp only [bldK, ht, hu, h1, h2, Bool.not_true, Bool.or_self, Bool.false_eq_true, if_false, hf]
  exact h
theorem o_mf {C : Ctx} {q th : Bool} {s : Frm} {H : Heap} {K : AV → Heap → Prop} (f : FuncId) (cap : Array Operand) : wpO (ACall C) C q th (.makeFunc (.func f) #[] cap) s H K = K (.fn f (cap.toList.map (ev s))) H := by
  rw [wpO_pure _ rfl]
  simp only [evalOp]
  rfl

theorem W : type_of% (And.intro @lk_hit <| And.intro @frzV_agg <| And.intro @frzL_c <| And.intro @frzL_n <| And.intro @frzV_i <| And.intro @frzV_b <| And.intro @frzV_s <| And.intro @frzV_f <| And.intro @frzV_o <| And.intro @frzV_t <| And.intro @one_1 <| And.intro @one_2 <| And.intro @one_0 <| And.intro @Bool.or_false <| And.intro @lk_miss <| And.intro @lk_nil <| And.intro @wpG_nil <| And.intro @wpG_c <| And.intro @wpG_g <| And.intro @goK_0 <| And.intro @goK_l <| And.intro @grdT_tt <| And.intro @grdT_ff <| And.intro @grdT_tf <| And.intro @grdT_ft <| And.intro @grdT_u <| And.intro @wpF_c <| And.intro @fzK_n <| And.intro @fzK_g <| And.intro @goF_a <| And.intro @grdF_tt <| And.intro @grdF_ff <| And.intro @grdF_tf <| And.intro @grdF_ft <| And.intro @grdF_u <|          
  And.intro @late_nil <| And.intro @late_cons <| And.intro @setA_s <| And.intro @setA_n <| And.intro @ev_t <| And.intro @ev_c <| And.intro @ev_f <| And.intro @ofV_i <| And.intro @ofV_b <| And.intro @ofV_n <| And.intro @ofV_e <| And.intro @ofV_p <| And.intro @ofV_s <|
  And.intro @resV_s <| And.intro @o_move <| And.intro @o_assign <| And.intro @o_binc <| And.intro @o_bint <| And.intro @binK_i <| And.intro @binK_b <| And.intro @binK_s <| And.intro @binK_a <| And.intro @b_add <| And.intro @b_sub <| And.intro @b_mul <|
  And.intro @b_andL <| And.intro @b_orL <| And.intro @b_xorL <| And.intro @b_eql <| And.intro @b_neq <| And.intro @b_lss <| And.intro @b_leq <| And.intro @b_gtr <| And.intro @b_geq <| And.intro @b_quo <| And.intro @b_rem <| And.intro @b_shl <| And.intro @b_shr <|
  And.intro @b_seql <| And.intro @b_sneq <| And.intro @b_sadd <| And.intro @b_aeql <| And.intro @b_aneq <| And.intro @b_nn <| And.intro @b_nn' <| And.intro @b_en <| And.intro @b_en' <| And.intro @o_un <| And.intro @u_not <| And.intro @u_neg <| And.intro @o_pick <|
  And.intro @pick_t <| And.intro @pick_f <| And.intro @pick_b <| And.intro @o_ext <| And.intro @ext_t <| And.intro @o_load <| And.intro @load_fe <| And.intro @load_p <| And.intro @loadB_s <| And.intro @loadC_s <| And.intro @o_fa <| And.intro @o_field <| And.intro @field_a <|
  And.intro @o_len <| And.intro @e_len <| And.intro @o_min <| And.intro @o_max <| And.intro @min2 <| And.intro @max2 <| And.intro @o_index <| And.intro @o_ia <| And.intro @len_fz <| And.intro @len_str <| And.intro @len_nil <| And.intro @len_e0 <|
  And.intro @o_app <| And.intro @o_call <| And.intro @killB_n <| And.intro @o_conv <| And.intro @conv_i <| And.intro @o_slice <| And.intro @intOp_n <| And.intro @intOp_s <| And.intro @FZ_nil <| And.intro @setSame_n <| And.intro @setSame_c <| And.intro @sameRef_n <| And.intro @sameRef_e <|
  And.intro @wpF_nil <|  And.intro @cmpL_n <| And.intro @cmpL_c <| And.intro @lk_0 <| And.intro @lk_s <| And.intro @nrm_s <| And.intro @fldT_d <| And.intro @lenK_fz' <| And.intro @lenK_nil' <| And.intro @lenK_e0' <| And.intro @lenK_str' <| And.intro @convI_d <|
  And.intro @fa_fe' <| And.intro @fa_p' <| And.intro @faP_s <| And.intro @o_nc <| And.intro @rd_1 <| And.intro @rd_i <| And.intro @rd_b <| And.intro @rd_s <| And.intro @rd_f <| And.intro @rd_n <| And.intro @rd_e <| And.intro @rd_v <| And.intro @rd_a <| And.intro @aggEq_d <| And.intro @nilEq_d <|
  And.intro @eqT_s <| And.intro @eqFs_n <| And.intro @eqFs_c <| And.intro @subL_d <| And.intro @o_bld <| And.intro @o_mf <| And.intro @isStrU_s <| And.intro @isSlU_s <| And.intro @indK_s <|
  And.intro @List.set_cons_succ.{0} <| And.intro @List.set_cons_zero.{0} <| And.intro @List.getD_cons_succ.{0} <| And.intro @List.getD_cons_zero.{0} <| And.intro @Option.map_some.{0, 0} <| And.intro @Option.map_none.{0, 0} <| And.intro @List.map_nil.{0, 0} <| And.intro @List.map_cons.{0, 0} <| And.intro @List.contains_nil.{0} <|
  And.intro @List.getElem?_cons_succ.{0} <| And.intro @List.getElem?_cons_zero.{0} <| And.intro @List.length_map.{0, 0} <| And.intro @List.drop_succ_cons.{0} <| And.intro @List.drop_zero.{0} <| And.intro @List.take_succ_cons.{0} <| And.intro @List.take_zero.{0} <| And.intro @List.length_cons.{0} <| And.intro @List.length_nil.{0} <|
  And.intro @if_true.{0} <| And.intro @if_false.{0} <| And.intro @Bool.not_true <| And.intro @Bool.not_false <| And.intro @Option.getD_none.{0} <| And.intro @Option.getD_some.{0} <| And.intro @List.cons_append.{0} <| And.intro @List.nil_append.{0} <| And.intro @and_self <| And.intro @and_true @true_and) :=
  And.intro @lk_hit <| And.intro @frzV_agg <| And.intro @frzL_c <| And.intro @frzL_n <| And.intro @frzV_i <| And.intro @frzV_b <| And.intro @frzV_s <| And.intro @frzV_f <| And.intro @frzV_o <| And.intro @frzV_t <| And.intro @one_1 <| And.intro @one_2 <| And.intro @one_0 <| And.intro @Bool.or_false <| And.intro @lk_miss <| And.intro @lk_nil <| And.intro @wpG_nil <| And.intro @wpG_c <| And.intro @wpG_g <| And.intro @goK_0 <| And.intro @goK_l <| And.intro @grdT_tt <| And.intro @grdT_ff <| And.intro @grdT_tf <| And.intro @grdT_ft <| And.intro @grdT_u <| And.intro @wpF_c <| And.intro @fzK_n <| And.intro @fzK_g <| And.intro @goF_a <| And.intro @grdF_tt <| And.intro @grdF_ff <| And.intro @grdF_tf <| And.intro @grdF_ft <| And.intro @grdF_u <|          
  And.intro @late_nil <| And.intro @late_cons <| And.intro @setA_s <| And.intro @setA_n <| And.intro @ev_t <| And.intro @ev_c <| And.intro @ev_f <| And.intro @ofV_i <| And.intro @ofV_b <| And.intro @ofV_n <| And.intro @ofV_e <| And.intro @ofV_p <| And.intro @ofV_s <|
  And.intro @resV_s <| And.intro @o_move <| And.intro @o_assign <| And.intro @o_binc <| And.intro @o_bint <| And.intro @binK_i <| And.intro @binK_b <| And.intro @binK_s <| And.intro @binK_a <| And.intro @b_add <| And.intro @b_sub <| And.intro @b_mul <|
  And.intro @b_andL <| And.intro @b_orL <| And.intro @b_xorL <| And.intro @b_eql <| And.intro @b_neq <| And.intro @b_lss <| And.intro @b_leq <| And.intro @b_gtr <| And.intro @b_geq <| And.intro @b_quo <| And.intro @b_rem <| And.intro @b_shl <| And.intro @b_shr <|
  And.intro @b_seql <| And.intro @b_sneq <| And.intro @b_sadd <| And.intro @b_aeql <| And.intro @b_aneq <| And.intro @b_nn <| And.intro @b_nn' <| And.intro @b_en <| And.intro @b_en' <| And.intro @o_un <| And.intro @u_not <| And.intro @u_neg <| And.intro @o_pick <|
  And.intro @pick_t <| And.intro @pick_f <| And.intro @pick_b <| And.intro @o_ext <| And.intro @ext_t <| And.intro @o_load <| And.intro @load_fe <| And.intro @load_p <| And.intro @loadB_s <| And.intro @loadC_s <| And.intro @o_fa <| And.intro @o_field <| And.intro @field_a <|
  And.intro @o_len <| And.intro @e_len <| And.intro @o_min <| And.intro @o_max <| And.intro @min2 <| And.intro @max2 <| And.intro @o_index <| And.intro @o_ia <| And.intro @len_fz <| And.intro @len_str <| And.intro @len_nil <| And.intro @len_e0 <|
  And.intro @o_app <| And.intro @o_call <| And.intro @killB_n <| And.intro @o_conv <| And.intro @conv_i <| And.intro @o_slice <| And.intro @intOp_n <| And.intro @intOp_s <| And.intro @FZ_nil <| And.intro @setSame_n <| And.intro @setSame_c <| And.intro @sameRef_n <| And.intro @sameRef_e <|
  And.intro @wpF_nil <|  And.intro @cmpL_n <| And.intro @cmpL_c <| And.intro @lk_0 <| And.intro @lk_s <| And.intro @nrm_s <| And.intro @fldT_d <| And.intro @lenK_fz' <| And.intro @lenK_nil' <| And.intro @lenK_e0' <| And.intro @lenK_str' <| And.intro @convI_d <|
  And.intro @fa_fe' <| And.intro @fa_p' <| And.intro @faP_s <| And.intro @o_nc <| And.intro @rd_1 <| And.intro @rd_i <| And.intro @rd_b <| And.intro @rd_s <| And.intro @rd_f <| And.intro @rd_n <| And.intro @rd_e <| And.intro @rd_v <| And.intro @rd_a <| And.intro @aggEq_d <| And.intro @nilEq_d <|
  And.intro @eqT_s <| And.intro @eqFs_n <| And.intro @eqFs_c <| And.intro @subL_d <| And.intro @o_bld <| And.intro @o_mf <| And.intro @isStrU_s <| And.intro @isSlU_s <| And.intro @indK_s <|
  And.intro @List.set_cons_succ.{0} <| And.intro @List.set_cons_zero.{0} <| And.intro @List.getD_cons_succ.{0} <| And.intro @List.getD_cons_zero.{0} <| And.intro @Option.map_some.{0, 0} <| And.intro @Option.map_none.{0, 0} <| And.intro @List.map_nil.{0, 0} <| And.intro @List.map_cons.{0, 0} <| And.intro @List.contains_nil.{0} <|
  And.intro @List.getElem?_cons_succ.{0} <| And.intro @List.getElem?_cons_zero.{0} <| And.intro @List.length_map.{0, 0} <| And.intro @List.drop_succ_cons.{0} <| And.intro @List.drop_zero.{0} <| And.intro @List.take_succ_cons.{0} <| And.intro @List.take_zero.{0} <| And.intro @List.length_cons.{0} <| And.intro @List.length_nil.{0} <|
  And.intro @if_true.{0} <| And.intro @if_false.{0} <| And.intro @Bool.not_true <| And.intro @Bool.not_false <| And.intro @Option.getD_none.{0} <| And.intro @Option.getD_some.{0} <| And.intro @List.cons_append.{0} <| And.intro @List.nil_append.{0} <| And.intro @and_self <| And.intro @and_true @true_and
end Go.VS
