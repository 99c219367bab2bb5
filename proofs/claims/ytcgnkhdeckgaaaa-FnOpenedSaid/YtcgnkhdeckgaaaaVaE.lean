import Derived.Test.YtcgnkhdeckgaaaaVaD
/-
  VS, part 45: keeping for good; choosing of what is owned; all equations together.
-/
namespace Go.VS

/-- Slots are kept for good, and then this. -/
def FZ (l : List (List Nat × List Sh)) (s : Frm) (H : Heap) (P : Frm → Heap → Prop) : Prop := ∃ s' H', frzSlots l s H = some (s', H') ∧ P s' H'

section
variable {C : Ctx} {s : Frm} {H : Heap} {L : List It}

theorem FZ_nil (P : Frm → Heap → Prop) : FZ [] s H P = P s H := by
  apply propext
  constructor
  · rintro ⟨s', H', h, hp⟩
    simp only [frzSlots, Option.some.injEq, Prod.mk.injEq] at h
    obtain ⟨rfl, rfl⟩ := h; exact hp
  · exact fun h => ⟨s, H, rfl, h⟩
theorem FZ_step {t : Nat} {ts : List Nat} {e : Sh} {sh : List Sh} {l : List (List Nat × List Sh)} {P : Frm → Heap → Prop} {y : AV} {H1 : Heap} (ht : takeE (e :: sh) (s.getD t .undef) H = some (y, H1)) (h : FZ l (setSame (s.getD t .undef) (frzV y) ts (s.set t (frzV y))) H1 P) : FZ ((t :: ts, e :: sh) :: l) s H P := by
  obtain ⟨s', H', h1, h2⟩ := h
  exact ⟨s', H', by simp only [frzSlots, ht]; exact h1, h2⟩

theorem mapH_id {f : AV → Heap → Option (AV × Heap)} : ∀ (xs : List AV) (H : Heap), (∀ x ∈ xs, ∀ H, f x H = some (x, H)) → mapH f xs H = some (xs, H)
  | [], H, _ => rfl
  | x :: xs, H, h => by
    simp only [mapH, h x (by simp) H, mapH_id xs H (fun y hy => h y (by simp [hy]))]
theorem frzL_map {α : Type} {c : α → AV} (hz : ∀ x, frzV (c x) = c x) : ∀ (l : List α), frzL (l.map c) = l.map c
  | [] => rfl
  | x :: l => by simp only [List.map_cons, frzL, hz x, frzL_map hz l]

theorem Own.del (hS : Own H L) {id : Nat} (h : ∀ (i : Nat) (it : It), L[i]? = some it → idOf it.v ≠ some id) : Own (H.del id) L :=
  ⟨fun i it hi => (hS.ok i it hi).frame fun k ver hk => by
      have hne : ¬ id = k := fun e => h i it hi (by rw [hk, e])
      simp only [Heap.blk, Heap.del, List.getElem?_set, if_neg hne], hS.dis⟩

theorem sameRef_ok (hS : Own H L) {j : Nat} {v : AV} {sz : Nat} {el : List AV} (hj : L[j]? = some ⟨v, sz, el⟩) (hp : isSl v) : sameRef v v = true := by
  have hok := (hS.ok j _ hj).2
  simp only at hok
  split at hok
  · rfl
  · rfl
  · simp [sameRef]
  · rename_i id ver ix off
    obtain ⟨rfl, rfl, _⟩ := hok
    exact absurd rfl (hp.ne id ver)
  · exact hok.elim

/-- What is owned is taken. -/
theorem Own.take {α : Type} (hS : Own H L) (j : Nat) {v : AV} {es : List Sh} {l : List α} {c : α → AV} (hj : L[j]? = some ⟨v, es.length, l.map c⟩) (hp : isSl v) (hc : ∀ x H, takeE es (c x) H = some (c x, H)) :
    ∃ H', takeE [.sl es] v H = some (.own es.length (l.map c), H') ∧ Own H' (L.eraseIdx j) := by
  have hok := hS.ok j _ hj
  have hf := hS.front j hj
  obtain ⟨k0, hok⟩ := hok
  have e1 : takeE [.sl es] v H = takeT (.sl es) v H := by
    have hna : ∀ cs, v ≠ .agg cs := by rintro cs rfl; exact hok
    cases v with
    | agg cs => exact absurd rfl (hna cs)
    | _ => simp only [takeE]
  rw [e1]
  simp only at hok
  split at hok
  · rename_i hv
    exact ⟨H, by simp only [takeT, hok], hf.tl⟩
  · exact ⟨H, by simp only [takeT, hok], hf.tl⟩
  · rename_i id ver off len
    obtain ⟨k1, b, hb, k2, k3, k4, k5⟩ := hok
    have hm : mapH (takeE es) (l.map c) (H.del id) = some (l.map c, H.del id) := mapH_id _ _ (by
      intro x hx H
      obtain ⟨y, _, rfl⟩ := List.mem_map.1 hx
      exact hc y H)
    refine ⟨H.del id, ?_, hf.tl.del fun i it hi e => ?_⟩
    · simp only [takeT, hb]
      rw [if_pos ⟨k2, k4, .inl k3⟩, k5, hm]
    · have := hf.dis 0 (i + 1) _ it id rfl (by simpa using hi) rfl e
      omega
  · rename_i id ver ix off
    obtain ⟨rfl, rfl, _⟩ := hok
    exact absurd rfl (hp.ne id ver)
  · exact hok.elim

theorem FZ_own {α : Type} {t : Nat} {ts : List Nat} {es : List Sh} {l : List (List Nat × List Sh)} {P : Frm → Heap → Prop} {v : AV} {m : List α} {c : α → AV} (j : Nat) (hS : Own H L) (hj : L[j]? = some ⟨v, es.length, m.map c⟩) (hp : isSl v) (hv : s.getD t .undef = v) (hc : ∀ x H, takeE es (c x) H = some (c x, H)) (hz : ∀ x, frzV (c x) = c x)
    (h : ∀ H', sameRef v v = true → Own H' (L.eraseIdx j) → FZ l (setSame v (.fz (m.map c)) ts (s.set t (.fz (m.map c)))) H' P) : FZ ((t :: ts, [.sl es]) :: l) s H P := by
  obtain ⟨H', h1, h2⟩ := hS.take j hj hp hc
  rw [← hv] at h1
  refine FZ_step h1 ?_
  simp only [frzV, frzL_map hz, hv]
  exact h H' (sameRef_ok hS hj hp) h2
/-! A struct is kept for good, cell by cell. -/
def TC (es : List Sh) (cs : List AV) (H : Heap) (K : List AV → Heap → Prop) : Prop := ∃ ys H', takeC es cs H = some (ys, H') ∧ K ys H'
theorem TC_nil {K : List AV → Heap → Prop} (h : K [] H) : TC [] [] H K := ⟨[], H, by simp only [takeC], h⟩
theorem TC_one {e : Sh} {es : List Sh} {v y : AV} {cs : List AV} {H1 : Heap} {K : List AV → Heap → Prop} (ht : takeT e v H = some (y, H1)) (h : TC es cs H1 fun ys H' => K (y :: ys) H') : TC (e :: es) (v :: cs) H K := by
  obtain ⟨ys, H', h1, h2⟩ := h
  exact ⟨y :: ys, H', by simp only [takeC, ht, h1], h2⟩
theorem TC_sc {es : List Sh} {v : AV} {cs : List AV} {K : List AV → Heap → Prop} (hp : plainA v = true) (h : TC es cs H fun ys H' => K (v :: ys) H') : TC (.sc :: es) (v :: cs) H K :=
  TC_one (by simp only [takeT, hp, if_true]) h
theorem TC_ow {α : Type} {es fs : List Sh} {v : AV} {cs : List AV} {K : List AV → Heap → Prop} {m : List α} {c : α → AV} (j : Nat) (hS : Own H L) (hj : L[j]? = some ⟨v, fs.length, m.map c⟩) (hp : isSl v) (hc : ∀ x H, takeE fs (c x) H = some (c x, H))
    (h : ∀ H', Own H' (L.eraseIdx j) → TC es cs H' fun ys H' => K (.own fs.length (m.map c) :: ys) H') : TC (.sl fs :: es) (v :: cs) H K := by
  obtain ⟨H', h1, h2⟩ := hS.take j hj hp hc
  have h3 : takeT (.sl fs) v H = some (.own fs.length (m.map c), H') := by
    have hna : ∀ cs, v ≠ .agg cs := by rintro cs rfl; rcases hp.ok with h | h | ⟨_, _, _, _, h⟩ <;> simp at h
    cases v with
    | agg cs => exact absurd rfl (hna cs)
    | _ => simpa only [takeE] using h1
  exact TC_one h3 (h H' h2)
theorem frzV_agg (xs : List AV) : frzV (.agg xs) = .agg (frzL xs) := rfl
theorem frzL_c (x : AV) (xs : List AV) : frzL (x :: xs) = frzV x :: frzL xs := rfl
theorem frzL_n : frzL [] = [] := rfl
theorem frzV_i (k : IntKind) (n : Int) : frzV (.int k n) = .int k n := rfl
theorem frzV_b (b : Bool) : frzV (.bool b) = .bool b := rfl
theorem frzV_s (b : List UInt8) : frzV (.str b) = .str b := rfl
theorem frzV_f (b : List AV) : frzV (.fz b) = .fz b := rfl
theorem frzV_o (n : Nat) (b : List AV) : frzV (.own n b) = .fz (frzL b) := rfl
theorem frzV_t (xs : List AV) : frzV (.tup xs) = .tup (frzL xs) := rfl
theorem one_1 (x : AV) : oneOrTup [x] = x := rfl
theorem one_2 (x y : AV) (l : List AV) : oneOrTup (x :: y :: l) = .tup (x :: y :: l) := rfl
theorem one_0 : oneOrTup [] = .tup [] := rfl
theorem setSame_n (x y : AV) : setSame x y [] s = s := rfl
theorem setSame_c (x y : AV) (t : Nat) (ts : List Nat) : setSame x y (t :: ts) s = setSame x y ts (if sameRef (s.getD t .undef) x then s.set t y else s) := rfl
theorem sameRef_n : sameRef .nil .nil = true := rfl
theorem sameRef_e : sameRef .e0 .e0 = true := rfl

theorem wpF_nil (fz : List (Nat × List (List Nat × List Sh))) (K : Frm → Heap → Prop) (i : Nat) : wpF C fz K [] i s H = K s H := rfl
/-- A choice of what is owned, in an order of its own. -/
theorem Own.sel (hS : Own H L) (n : Nat) (js : List Nat) (hj : (js.Nodup ∧ ∀ j ∈ js, j < n)) : Own H (js.filterMap (L[·]?) ++ L.drop n) := by
  refine ⟨fun i it hi => ?_, fun i j a b id hi hj' ha hb => ?_⟩
  · rcases List.mem_append.1 (List.mem_of_getElem? hi) with h | h
    · obtain ⟨k, _, hk⟩ := List.mem_filterMap.1 h
      exact hS.ok k it hk
    · obtain ⟨k, hk⟩ := List.mem_iff_getElem?.1 (List.mem_of_mem_drop h)
      exact hS.ok k it hk
  · -- by the nodup form
    have key : ∀ (js : List Nat), js.Nodup → (∀ j ∈ js, j < n) → ∀ (i j : Nat) (a b : It), (js.filterMap (L[·]?) ++ L.drop n)[i]? = some a → (js.filterMap (L[·]?) ++ L.drop n)[j]? = some b → idOf a.v = some id → idOf b.v = some id → i = j := by
      intro js
      induction js with
      | nil =>
        intro _ _ i j a b hi hj ha hb
        simp only [List.filterMap_nil, List.nil_append, List.getElem?_drop] at hi hj
        have := hS.dis _ _ a b id hi hj ha hb
        omega
      | cons k ks ih =>
        intro hnd hlt i j a b hi hj ha hb
        have hnd' := (List.nodup_cons.1 hnd)
        have ih' := ih hnd'.2 (fun j h => hlt j (by simp [h]))
        cases hk : L[k]? with
        | none =>
          simp only [List.filterMap_cons, hk] at hi hj
          exact ih' i j a b hi hj ha hb
        | some c =>
          simp only [List.filterMap_cons, hk, List.cons_append] at hi hj
          have other : ∀ (m : Nat) (d : It), (ks.filterMap (L[·]?) ++ L.drop n)[m]? = some d → idOf c.v = some id → idOf d.v ≠ some id := by
            intro m d hm hc hd
            rcases List.mem_append.1 (List.mem_of_getElem? hm) with h | h
            · obtain ⟨k', hk1, hk'⟩ := List.mem_filterMap.1 h
              have := hS.dis k k' c d id hk hk' hc hd
              subst this
              exact hnd'.1 hk1
            · obtain ⟨k', hk'⟩ := List.mem_iff_getElem?.1 h
              rw [List.getElem?_drop] at hk'
              have := hS.dis k _ c d id hk hk' hc hd
              have := hlt k (by simp)
              omega
          cases i with
          | zero =>
            simp at hi; subst hi
            cases j with
            | zero => rfl
            | succ j => exact absurd hb (other j b (by simpa using hj) ha)
          | succ i =>
            cases j with
            | zero => simp at hj; subst hj; exact absurd ha (other i a (by simpa using hi) hb)
            | succ j => have := ih' i j a b (by simpa using hi) (by simpa using hj) ha hb; omega
    exact key js hj.1 hj.2 i j a b hi hj' ha hb
end

theorem memd {α : Type} {L F : List α} {n : Nat} {x : α} (hL : L.drop n = F) (h : x ∈ F) : x ∈ L := List.mem_of_mem_drop (hL.symm ▸ h)
abbrev u := AV.undef
def fzl {α : Type} (c : α → AV) (l : List α) : AV := .fz (l.map c)
/-- A result that lies in a variable. -/
theorem res_c {E : TEnv} {s : Frm} {H : Heap} {a : Tmp} {t : TypeId} {rs : List ResultVar} {ti : TI} {id ver sz : Nat} {x y : AV} {ys : List AV} (ht : E t = some ti) (ha : s.getD a .undef = .ptr id ver 0 0) (hb : H.blk id ver = some ⟨ver, sz, false, [x]⟩) (hx : rdAt ti x 0 = some y) (hr : resVals E s H rs = some ys) : resVals E s H (.cell a t :: rs) = some (y :: ys) := by
  have : evalOp E (.load t (.tmp a)) s H = some (y, H) := by
    have e : ev s (.tmp a) = .ptr id ver 0 0 := ha
    simp only [evalOp, ht, e, hb, List.getElem?_cons_zero, hx]
  simp only [resVals, this, hr, Option.map_some]
theorem res_tc {E : TEnv} {s : Frm} {H : Heap} {a : Tmp} {rs : List ResultVar} {y : AV} {ys : List AV} (ha : s.getD a .undef = y) (hr : resVals E s H rs = some ys) : resVals E s H (.tmp a :: rs) = some (y :: ys) := by
  simp only [resVals, hr, Option.map_some, ha]

/-! Continuations with names, so that nothing is looked at before its time. -/
section
variable {C : Ctx} {s : Frm} {H : Heap}
def goK (C : Ctx) (K : Frm → Heap → Prop) (d : Option Tmp) (late : List (Op × Option Tmp)) (rest : List GO) (s : Frm) : AV → Heap → Prop := fun v H => lateG C (setA s d v) H (wpG C K rest (setA s d v) H) late
def grdT (C : Ctx) (K : Frm → Heap → Prop) (v : AV) (w : Bool) (d : Option Tmp) (op : Op) (late : List (Op × Option Tmp)) (th q : Bool) (rest : List GO) (s : Frm) (H : Heap) : Prop := grdV v w (wpO (ACall C) C q th op s H (goK C K d late rest s)) (goK C K d late rest s (.tup []) H)
theorem goK_0 (K : Frm → Heap → Prop) (d : Option Tmp) (rest : List GO) (v : AV) : goK C K d [] rest s v H = wpG C K rest (setA s d v) H := rfl
theorem goK_l (K : Frm → Heap → Prop) (d : Option Tmp) (l : Op × Option Tmp) (ls : List (Op × Option Tmp)) (rest : List GO) (v : AV) : goK C K d (l :: ls) rest s v H = lateG C (setA s d v) H (wpG C K rest (setA s d v) H) (l :: ls) := rfl
theorem wpG_c (K : Frm → Heap → Prop) (d : Option Tmp) (op : Op) (late : List (Op × Option Tmp)) (q th : Bool) (rest : List GO) : wpG C K (⟨d, op, none, late, th, q⟩ :: rest) s H = wpO (ACall C) C q th op s H (goK C K d late rest s) := rfl
theorem wpG_g (K : Frm → Heap → Prop) (d : Option Tmp) (op : Op) (t : Tmp) (w : Bool) (late : List (Op × Option Tmp)) (q th : Bool) (rest : List GO) : wpG C K (⟨d, op, some (some t, w), late, th, q⟩ :: rest) s H = grdT C K (s.getD t .undef) w d op late th q rest s H := rfl
variable (K : Frm → Heap → Prop) (d : Option Tmp) (op : Op) (late : List (Op × Option Tmp)) (th q : Bool) (rest : List GO)
theorem grdT_tt : grdT C K (.bool true) true d op late th q rest s H = wpO (ACall C) C q th op s H (goK C K d late rest s) := grdV_tt _ _
theorem grdT_ff : grdT C K (.bool false) false d op late th q rest s H = wpO (ACall C) C q th op s H (goK C K d late rest s) := grdV_ff _ _
theorem grdT_tf : grdT C K (.bool true) false d op late th q rest s H = goK C K d late rest s (.tup []) H := grdV_tf _ _
theorem grdT_ft : grdT C K (.bool false) true d op late th q rest s H = goK C K d late rest s (.tup []) H := grdV_ft _ _
theorem grdT_u (l : List AV) (w : Bool) : grdT C K (.tup l) w d op late th q rest s H = goK C K d late rest s (.tup []) H := rfl
theorem w_grdT {α : Type} {c w : Bool} {x y : Option α} {r : α} {K : Frm → Heap → Prop} {d : Option Tmp} {op : Op} {late : List (Op × Option Tmp)} {th q : Bool} {rest : List GO} (h : (bif c then x else y) = some r) (ht : c = true → x = some r → grdT C K (.bool true) w d op late th q rest s H) (hf : c = false → y = some r → grdT C K (.bool false) w d op late th q rest s H) : grdT C K (.bool c) w d op late th q rest s H := by
  cases c with
  | true => exact ht rfl h
  | false => exact hf rfl h
variable (fz : List (Nat × List (List Nat × List Sh))) (i : Nat)
def goF (C : Ctx) (fz : List (Nat × List (List Nat × List Sh))) (K : Frm → Heap → Prop) (d : Option Tmp) (rest : List GO) (i : Nat) (s : Frm) : AV → Heap → Prop := fun v H => wpF C fz K rest (i + 1) (setA s d v) H
def grdF (C : Ctx) (fz : List (Nat × List (List Nat × List Sh))) (K : Frm → Heap → Prop) (v : AV) (w : Bool) (d : Option Tmp) (op : Op) (th q : Bool) (rest : List GO) (i : Nat) (s : Frm) (H : Heap) : Prop := grdV v w (wpO (ACall C) C q th op s H (goF C fz K d rest i s)) (goF C fz K d rest i s (.tup []) H)
def fzK (C : Ctx) (fz : List (Nat × List (List Nat × List Sh))) (K : Frm → Heap → Prop) (o : GO) (rest : List GO) (i : Nat) : Frm → Heap → Prop := fun s H => grd o.g s (wpO (ACall C) C o.q o.th o.op s H (goF C fz K o.d rest i s)) (goF C fz K o.d rest i s (.tup []) H)
theorem wpF_c (o : GO) : wpF C fz K (o :: rest) i s H = FZ ((fz.lookup i).getD []) s H (fzK C fz K o rest i) := rfl
theorem fzK_n : fzK C fz K ⟨d, op, none, late, th, q⟩ rest i s H = wpO (ACall C) C q th op s H (goF C fz K d rest i s) := rfl
theorem fzK_g (t : Tmp) (w : Bool) : fzK C fz K ⟨d, op, some (some t, w), late, th, q⟩ rest i s H = grdF C fz K (s.getD t .undef) w d op th q rest i s H := rfl
theorem goF_a (v : AV) : goF C fz K d rest i s v H = wpF C fz K rest (i + 1) (setA s d v) H := rfl
theorem grdF_tt : grdF C fz K (.bool true) true d op th q rest i s H = wpO (ACall C) C q th op s H (goF C fz K d rest i s) := grdV_tt _ _
theorem grdF_ff : grdF C fz K (.bool false) false d op th q rest i s H = wpO (ACall C) C q th op s H (goF C fz K d rest i s) := grdV_ff _ _
theorem grdF_tf : grdF C fz K (.bool true) false d op th q rest i s H = goF C fz K d rest i s (.tup []) H := grdV_tf _ _
theorem grdF_ft : grdF C fz K (.bool false) true d op th q rest i s H = goF C fz K d rest i s (.tup []) H := grdV_ft _ _
theorem grdF_u (l : List AV) (w : Bool) : grdF C fz K (.tup l) w d op th q rest i s H = goF C fz K d rest i s (.tup []) H := rfl
end

theorem lk_hit {β : Type} (i : Nat) (l : β) (r : List (Nat × β)) : ((i, l) :: r).lookup i = some l := by simp [List.lookup]
theorem lk_miss {β : Type} (i k : Nat) (l : β) (r : List (Nat × β)) (h : (i == k) = false) : ((k, l) :: r).lookup i = r.lookup i := by simp only [List.lookup, h]
theorem lk_nil {β : Type} (i : Nat) : ([] : List (Nat × β)).lookup i = none := rfl
theorem cmpL_n (all : List Oper) (q : Nat → Bool) (late : Nat → List Nat) (th : List Nat) (i : Nat) : cmpL all q late th [] i = [] := rfl
theorem cmpL_c (all : List Oper) (q : Nat → Bool) (late : Nat → List Nat) (th : List Nat) (o : Oper) (rest : List Oper) (i : Nat) : cmpL all q late th (o :: rest) i = ⟨o.dst, o.op, o.guard.map fun p => (lk all p.1, p.2), (late i).map (lkO all), th.contains i, q i⟩ :: cmpL all q late th rest (i + 1) := rfl
theorem lk_0 (o : Oper) (os : List Oper) : lk (o :: os) 0 = o.dst := rfl
theorem lk_s (o : Oper) (os : List Oper) (n : Nat) : lk (o :: os) (n + 1) = lk os n := rfl
theorem nrm_s (K : Ex → Frm → Heap → Prop) (s : Frm) (H : Heap) : nrm K s H = K .normal s H := rfl
theorem fldT_d (E : TEnv) (t : TypeId) (f : Nat) : fldT E t f = match E t with
  | some ti => match ti.und with
    | .st fs => match fs[f]? with
      | some (o, ft) => match E ft with
        | some tf => some (o, tf)
        | none => none
      | none => none
    | _ => none
  | none => none := rfl
theorem lenK_fz' (ti : TI) (hu : isSlU ti.und = true) (xs : List AV) (n : Nat) {H : Heap} {K : AV → Heap → Prop} : lenK (some ti) (.fz xs) (some n) H K = K (.int .i64 n) H := by cases h : ti.und <;> rw [h] at hu <;> simp [isSlU] at hu; exact lenK_fz ti h xs n
theorem lenK_nil' (ti : TI) (hu : isSlU ti.und = true) (n : Nat) {H : Heap} {K : AV → Heap → Prop} : lenK (some ti) .nil (some n) H K = K (.int .i64 n) H := by cases h : ti.und <;> rw [h] at hu <;> simp [isSlU] at hu; exact lenK_nil ti h n
theorem lenK_e0' (ti : TI) (hu : isSlU ti.und = true) (n : Nat) {H : Heap} {K : AV → Heap → Prop} : lenK (some ti) .e0 (some n) H K = K (.int .i64 n) H := by cases h : ti.und <;> rw [h] at hu <;> simp [isSlU] at hu; exact lenK_e0 ti h n
theorem lenK_str' (ti : TI) (hu : isStrU ti.und = true) (l : List UInt8) (n : Nat) {H : Heap} {K : AV → Heap → Prop} : lenK (some ti) (.str l) (some n) H K = K (.int .i64 n) H := by cases h : ti.und <;> rw [h] at hu <;> simp [isStrU] at hu; exact lenK_str ti h l n
theorem convI_d (ta tb : TI) (n : Int) (H : Heap) (K : AV → Heap → Prop) : convI (some ta) (some tb) n H K = match tb.und with | .it k => K (.int k (k.wrap n)) H | _ => False := rfl
theorem fa_fe' (o : Nat) (tf : TI) (y : AV) (off : Nat) (h : (tf.sz == 0) = false) {H : Heap} {K : AV → Heap → Prop} : faK (some (o, tf)) (.fe y off) H K = K (.fe y (off + o)) H := fa_fe o tf h y off
def faP (b : Option Blk) (k : Prop) : Prop := match b with | some _ => k | none => False
theorem fa_p' (o : Nat) (tf : TI) (id ver idx off : Nat) (h : (tf.sz == 0) = false) {H : Heap} {K : AV → Heap → Prop} : faK (some (o, tf)) (.ptr id ver idx off) H K = faP (H.blk id ver) (K (.ptr id ver idx (off + o)) H) := by
  rw [fa_p o tf h]; rfl
theorem faP_s (b : Blk) (k : Prop) : faP (some b) k = k := rfl
theorem o_nc {C : Ctx} {q th : Bool} {s : Frm} {H : Heap} {K : AV → Heap → Prop} (x : Operand) : wpO (ACall C) C q th (.nilCheck x) s H K = (match ev s x with | .ptr a b c d => faP (H.blk a b) (K (.ptr a b c d) H) | .fe x o => K (.fe x o) H | _ => False) := by
  rw [wpO_pure _ rfl]
  simp only [evalOp]
  generalize ev s x = r
  cases r <;> try rfl
  rename_i a b c d
  simp only
  cases H.blk a b <;> rfl
theorem rd_1 (z : List AV) (b : Nat) (w : UD) (e : Bool) (cs : List AV) (off : Nat) : rdAt ⟨1, false, z, b, w, e⟩ (.agg cs) off = cs[off]? := by
  by_cases h : off < cs.length
  · have e1 : subL cs off 1 = [cs[off]] := by
      simp only [subL, List.drop_eq_getElem_cons h, List.take_succ_cons, List.take_zero]
    have e2 : rdAt ⟨1, false, z, b, w, e⟩ (.agg cs) off = mkT false (subL cs off 1) := if_pos (show off + 1 ≤ cs.length from h)
    rw [e2, e1, List.getElem?_eq_getElem h]
    rfl
  · rw [List.getElem?_eq_none (by omega)]
    exact if_neg (show ¬ off + 1 ≤ cs.length from h)
theorem rd_i (z : List AV) (b : Nat) (w : UD) (e : Bool) (k : IntKind) (n : Int) : rdAt ⟨1, false, z, b, w, e⟩ (.int k n) 0 = some (.int k n) := rfl
theorem rd_b (z : List AV) (b : Nat) (w : UD) (e : Bool) (n : Bool) : rdAt ⟨1, false, z, b, w, e⟩ (.bool n) 0 = some (.bool n) := rfl
theorem rd_s (z : List AV) (b : Nat) (w : UD) (e : Bool) (n : List UInt8) : rdAt ⟨1, false, z, b, w, e⟩ (.str n) 0 = some (.str n) := rfl
theorem rd_f (z : List AV) (b : Nat) (w : UD) (e : Bool) (n : List AV) : rdAt ⟨1, false, z, b, w, e⟩ (.fz n) 0 = some (.fz n) := rfl
theorem rd_n (z : List AV) (b : Nat) (w : UD) (e : Bool) : rdAt ⟨1, false, z, b, w, e⟩ .nil 0 = some .nil := rfl
theorem rd_e (z : List AV) (b : Nat) (w : UD) (e : Bool) : rdAt ⟨1, false, z, b, w, e⟩ .e0 0 = some .e0 := rfl
theorem rd_v (z : List AV) (b : Nat) (w : UD) (e : Bool) (a c d f : Nat) : rdAt ⟨1, false, z, b, w, e⟩ (.ref a c d f) 0 = some (.ref a c d f) := rfl
theorem rd_a (n : Nat) (z : List AV) (b : Nat) (w : UD) (e : Bool) (cs : List AV) (off : Nat) : rdAt ⟨n, true, z, b, w, e⟩ (.agg cs) off = if off + n ≤ cs.length then some (.agg ((cs.drop off).take n)) else none := rfl
theorem aggEq_d (ti : TI) (r : Bool) (neg : Bool) : aggEq (some ti) (some r) neg = if ti.agg then some (.bool (if neg then !r else r)) else none := rfl
theorem nilEq_d (ti : TI) (x y : AV) (neg : Bool) : nilEq (some ti) x y neg = match isNil ti.und x y with | some b => some (.bool (if neg then !b else b)) | none => none := rfl
theorem eqT_s (E : TEnv) (d : Nat) (t : TypeId) (xs ys : List AV) : eqT E (d + 1) t xs ys = match E t with
    | none => none
    | some ti => match ti.und with
      | .it _ => match xs, ys with
        | [.int k a], [.int j b] => if k = j then some (a == b) else none
        | _, _ => none
      | .bl => match xs, ys with
        | [.bool a], [.bool b] => some (a == b)
        | _, _ => none
      | .str => match xs, ys with
        | [.str a], [.str b] => some (a == b)
        | _, _ => none
      | .st fs => if ti.eqok then eqFs E (eqT E d) fs xs ys else none
      | _ => none := rfl
theorem eqFs_n (E : TEnv) (f : TypeId → List AV → List AV → Option Bool) (xs ys : List AV) : eqFs E f [] xs ys = some true := rfl
theorem eqFs_c (E : TEnv) (f : TypeId → List AV → List AV → Option Bool) (o : Nat) (ft : TypeId) (fs : List (Nat × TypeId)) (xs ys : List AV) : eqFs E f ((o, ft) :: fs) xs ys = match E ft with
    | none => none
    | some tf =>
      if o + tf.sz ≤ xs.length ∧ o + tf.sz ≤ ys.length then
        match f ft (subL xs o tf.sz) (subL ys o tf.sz) with
        | some b => match eqFs E f fs xs ys with
          | some r => some (b && r)
          | none => none
        | none => none
      else none := rfl
theorem subL_d (cs : List AV) (off n : Nat) : subL cs off n = (cs.drop off).take n := rfl
/-- A struct is built. -/
def bldK (E : TEnv) (t : TypeId) (ps : List (Nat × AV)) (H : Heap) (K : AV → Heap → Prop) : Prop := match E t with
    | some ti => match ti.und with
      | .st fs => if !(fs.all fun f => (E f.2).isSome) || !(ti.zero.all stor1) then False else resV ((fillA (fun i => match fs[i]? with | some (o, ft) => (E ft).map fun tf => (o, tf.sz) | none => none) ti.zero ps).map .agg) H K
      | .ar n e => match E e with
        | some te => if !(ti.zero.all stor1) then False else resV ((fillA (fun i => if i < n then some (i * te.sz, te.sz) else none) ti.zero ps).map .agg) H K
        | none => False
      | _ => False
    | none => False
theorem o_bld {C : Ctx} {q th : Bool} {s : Frm} {H : Heap} {K : AV → Heap → Prop} (t : TypeId) (ps : Array (Nat × Operand)) : wpO (ACall C) C q th (.build t ps) s H K = bldK C.E t (ps.toList.map fun p => (p.1, ev s p.2)) H K := by
  rw [wpO_pure _ rfl]
  simp only [evalOp, bldK]
  cases C.E t with
  | none => rfl
  | some ti =>
    simp only
    cases ti.und <;> try rfl
    · rename_i fs
      simp only
      split
      · rfl
      · generalize Option.map AV.agg _ = r; cases r <;> rfl
    · rename_i n e
      simp only
      cases C.E e with
      | none => rfl
      | some te =>
        simp only
        split
        · rfl
        · generalize Option.map AV.agg _ = r; cases r <;> rfl
theorem w_bld {E : TEnv} {t : TypeId} {ps : List (Nat × AV)} {H : Heap} {K : AV → Heap → Prop} {ti : TI} {fs : List (Nat × TypeId)} {cs : List AV} (ht : E t = some ti) (hu : ti.und = .st fs) (h1 : (fs.all fun f => (E f.2).isSome) = true) (h2 : ti.zero.all stor1 = true)
    (hf : fillA (fun i => match fs[i]? with | some (o, ft) => (E ft).map fun tf => (o, tf.sz) | none => none) ti.zero ps = some cs) (h : K (.agg cs) H) : bldK E t ps H K := by
  simp only [bldK, ht, hu, h1, h2, Bool.not_true, Bool.or_self, Bool.false_eq_true, if_false, hf]
  exact h
theorem o_mf {C : Ctx} {q th : Bool} {s : Frm} {H : Heap} {K : AV → Heap → Prop} (f : FuncId) (cap : Array Operand) : wpO (ACall C) C q th (.makeFunc (.func f) #[] cap) s H K = K (.fn f (cap.toList.map (ev s))) H := by
  rw [wpO_pure _ rfl]
  simp only [evalOp]
  rfl

theorem W : type_of% (And.intro @lk_hit <| And.intro @frzV_agg <| And.intro @frzL_c <| And.intro @frzL_n <| And.intro @frzV_i <| And.intro @frzV_b <| And.intro @frzV_s <| And.intro @frzV_f <| And.intro @frzV_o <| And.intro @frzV_t <| And.intro @one_1 <| And.intro @one_2 <| And.intro @one_0 <| And.intro @Bool.or_false <| And.intro @lk_miss <| And.intro @lk_nil <| And.intro @wpG_nil <| And.intro @wpG_c <| And.intro @wpG_g <| And.intro @goK_0 <| And.intro @goK_l <| And.intro @grdT_tt <| And.intro @grdT_ff <| And.intro @grdT_tf <| And.intro @grdT_ft <| And.intro @grdT_u <| And.intro @wpF_c <| And.intro @fzK_n <| And.intro @fzK_g <| And.intro @goF_a <| And.intro @grdF_tt <| And.intro @grdF_ff <| And.intro @grdF_tf <| And.intro @grdF_ft <| And.intro @grdF_u <|          
  And.intro @late_nil <| And.intro @late_cons <| And.intro @setA_s <| And.intro @setA_n <| And.intro @ev_t <| And.intro @ev_c <| And.intro @ev_f <| And.intro @ofV_i <| And.intro @ofV_b <| And.intro @ofV_n <| And.intro @ofV_e <| And.intro @ofV_p <| And.intro @ofV_s <|
  And.intro @resV_s <| And.intro @o_move <| And.intro @o_assign <| And.intro @o_binc <| And.intro @o_bint <| And.intro @binK_i <| And.intro @binK_b <| And.intro @binK_s <| And.intro @binK_a <| And.intro @b_add <| And.intro @b_sub <| And.intro @b_mul <|
  And.intro @b_andL <| And.intro @b_orL <| And.intro @b_xorL <| And.intro @b_eql <| And.intro @b_neq <| And.intro @b_lss <| And.intro @b_leq <| And.intro @b_gtr <| And.intro @b_geq <| And.intro @b_quo <| And.intro @b_rem <| And.intro @b_shl <| And.intro @b_shr <|
  And.intro @b_seql <| And.intro @b_sneq <| And.intro @b_sadd <| And.intro @b_aeql <| And.intro @b_aneq <| And.intro @b_nn <| And.intro @b_nn' <| And.intro @b_en <| And.intro @b_en' <| And.intro @o_un <| And.intro @u_not <| And.intro @u_neg <| And.intro @o_pick <|
  And.intro @pick_t <| And.intro @pick_f <| And.intro @pick_b <| And.intro @o_ext <| And.intro @ext_t <| And.intro @o_load <| And.intro @load_fe <| And.intro @load_p <| And.intro @loadB_s <| And.intro @loadC_s <| And.intro @o_fa <| And.intro @o_field <| And.intro @field_a <|
  And.intro @o_len <| And.intro @e_len <| And.intro @o_min <| And.intro @o_max <| And.intro @min2 <| And.intro @max2 <| And.intro @o_index <| And.intro @o_ia <| And.intro @len_fz <| And.intro @len_str <| And.intro @len_nil <| And.intro @len_e0 <|
  And.intro @o_app <| And.intro @o_call <| And.intro @killB_n <| And.intro @o_conv <| And.intro @conv_i <| And.intro @o_slice <| And.intro @intOp_n <| And.intro @intOp_s <| And.intro @FZ_nil <| And.intro @setSame_n <| And.intro @setSame_c <| And.intro @sameRef_n <| And.intro @sameRef_e <|
  And.intro @wpF_nil <|  And.intro @cmpL_n <| And.intro @cmpL_c <| And.intro @lk_0 <| And.intro @lk_s <| And.intro @nrm_s <| And.intro @fldT_d <| And.intro @lenK_fz' <| And.intro @lenK_nil' <| And.intro @lenK_e0' <| And.intro @lenK_str' <| And.intro @convI_d <|
  And.intro @fa_fe' <| And.intro @fa_p' <| And.intro @faP_s <| And.intro @o_nc <| And.intro @rd_1 <| And.intro @rd_i <| And.intro @rd_b <| And.intro @rd_s <| And.intro @rd_f <| And.intro @rd_n <| And.intro @rd_e <| And.intro @rd_v <| And.intro @rd_a <| And.intro @aggEq_d <| And.intro @nilEq_d <|
  And.intro @eqT_s <| And.intro @eqFs_n <| And.intro @eqFs_c <| And.intro @subL_d <| And.intro @o_bld <| And.intro @o_mf <| And.intro @isStrU_s <| And.intro @isSlU_s <| And.intro @indK_s <|
  And.intro @List.set_cons_succ.{0} <| And.intro @List.set_cons_zero.{0} <| And.intro @List.getD_cons_succ.{0} <| And.intro @List.getD_cons_zero.{0} <| And.intro @Option.map_some.{0, 0} <| And.intro @Option.map_none.{0, 0} <| And.intro @List.map_nil.{0, 0} <| And.intro @List.map_cons.{0, 0} <| And.intro @List.contains_nil.{0} <|
  And.intro @List.getElem?_cons_succ.{0} <| And.intro @List.getElem?_cons_zero.{0} <| And.intro @List.length_map.{0, 0} <| And.intro @List.drop_succ_cons.{0} <| And.intro @List.drop_zero.{0} <| And.intro @List.take_succ_cons.{0} <| And.intro @List.take_zero.{0} <| And.intro @List.length_cons.{0} <| And.intro @List.length_nil.{0} <|
  And.intro @if_true.{0} <| And.intro @if_false.{0} <| And.intro @Bool.not_true <| And.intro @Bool.not_false <| And.intro @Option.getD_none.{0} <| And.intro @Option.getD_some.{0} <| And.intro @List.cons_append.{0} <| And.intro @List.nil_append.{0} <| And.intro @and_self <| And.intro @and_true @true_and) :=
  And.intro @lk_hit <| And.intro @frzV_agg <| And.intro @frzL_c <| And.intro @frzL_n <| And.intro @frzV_i <| And.intro @frzV_b <| And.intro @frzV_s <| And.intro @frzV_f <| And.intro @frzV_o <| And.intro @frzV_t <| And.intro @one_1 <| And.intro @one_2 <| And.intro @one_0 <| And.intro @Bool.or_false <| And.intro @lk_miss <| And.intro @lk_nil <| And.intro @wpG_nil <| And.intro @wpG_c <| And.intro @wpG_g <| And.intro @goK_0 <| And.intro @goK_l <| And.intro @grdT_tt <| And.intro @grdT_ff <| And.intro @grdT_tf <| And.intro @grdT_ft <| And.intro @grdT_u <| And.intro @wpF_c <| And.intro @fzK_n <| And.intro @fzK_g <| And.intro @goF_a <| And.intro @grdF_tt <| And.intro @grdF_ff <| And.intro @grdF_tf <| And.intro @grdF_ft <| And.intro @grdF_u <|          
  And.intro @late_nil <| And.intro @late_cons <| And.intro @setA_s <| And.intro @setA_n <| And.intro @ev_t <| And.intro @ev_c <| And.intro @ev_f <| And.intro @ofV_i <| And.intro @ofV_b <| And.intro @ofV_n <| And.intro @ofV_e <| And.intro @ofV_p <| And.intro @ofV_s <|
  And.intro @resV_s <| And.intro @o_move <| And.intro @o_assign <| And.intro @o_binc <| And.intro @o_bint <| And.intro @binK_i <| And.intro @binK_b <| And.intro @binK_s <| And.intro @binK_a <| And.intro @b_add <| And.intro @b_sub <| And.intro @b_mul <|
  And.intro @b_andL <| And.intro @b_orL <| And.intro @b_xorL <| And.intro @b_eql <| And.intro @b_neq <| And.intro @b_lss <| And.intro @b_leq <| And.intro @b_gtr <| And.intro @b_geq <| And.intro @b_quo <| And.intro @b_rem <| And.intro @b_shl <| And.intro @b_shr <|
  And.intro @b_seql <| And.intro @b_sneq <| And.intro @b_sadd <| And.intro @b_aeql <| And.intro @b_aneq <| And.intro @b_nn <| And.intro @b_nn' <| And.intro @b_en <| And.intro @b_en' <| And.intro @o_un <| And.intro @u_not <| And.intro @u_neg <| And.intro @o_pick <|
  And.intro @pick_t <| And.intro @pick_f <| And.intro @pick_b <| And.intro @o_ext <| And.intro @ext_t <| And.intro @o_load <| And.intro @load_fe <| And.intro @load_p <| And.intro @loadB_s <| And.intro @loadC_s <| And.intro @o_fa <| And.intro @o_field <| And.intro @field_a <|
  And.intro @o_len <| And.intro @e_len <| And.intro @o_min <| And.intro @o_max <| And.intro @min2 <| And.intro @max2 <| And.intro @o_index <| And.intro @o_ia <| And.intro @len_fz <| And.intro @len_str <| And.intro @len_nil <| And.intro @len_e0 <|
  And.intro @o_app <| And.intro @o_call <| And.intro @killB_n <| And.intro @o_conv <| And.intro @conv_i <| And.intro @o_slice <| And.intro @intOp_n <| And.intro @intOp_s <| And.intro @FZ_nil <| And.intro @setSame_n <| And.intro @setSame_c <| And.intro @sameRef_n <| And.intro @sameRef_e <|
  And.intro @wpF_nil <|  And.intro @cmpL_n <| And.intro @cmpL_c <| And.intro @lk_0 <| And.intro @lk_s <| And.intro @nrm_s <| And.intro @fldT_d <| And.intro @lenK_fz' <| And.intro @lenK_nil' <| And.intro @lenK_e0' <| And.intro @lenK_str' <| And.intro @convI_d <|
  And.intro @fa_fe' <| And.intro @fa_p' <| And.intro @faP_s <| And.intro @o_nc <| And.intro @rd_1 <| And.intro @rd_i <| And.intro @rd_b <| And.intro @rd_s <| And.intro @rd_f <| And.intro @rd_n <| And.intro @rd_e <| And.intro @rd_v <| And.intro @rd_a <| And.intro @aggEq_d <| And.intro @nilEq_d <|
  And.intro @eqT_s <| And.intro @eqFs_n <| And.intro @eqFs_c <| And.intro @subL_d <| And.intro @o_bld <| And.intro @o_mf <| And.intro @isStrU_s <| And.intro @isSlU_s <| And.intro @indK_s <|
  And.intro @List.set_cons_succ.{0} <| And.intro @List.set_cons_zero.{0} <| And.intro @List.getD_cons_succ.{0} <| And.intro @List.getD_cons_zero.{0} <| And.intro @Option.map_some.{0, 0} <| And.intro @Option.map_none.{0, 0} <| And.intro @List.map_nil.{0, 0} <| And.intro @List.map_cons.{0, 0} <| And.intro @List.contains_nil.{0} <|
  And.intro @List.getElem?_cons_succ.{0} <| And.intro @List.getElem?_cons_zero.{0} <| And.intro @List.length_map.{0, 0} <| And.intro @List.drop_succ_cons.{0} <| And.intro @List.drop_zero.{0} <| And.intro @List.take_succ_cons.{0} <| And.intro @List.take_zero.{0} <| And.intro @List.length_cons.{0} <| And.intro @List.length_nil.{0} <|
  And.intro @if_true.{0} <| And.intro @if_false.{0} <| And.intro @Bool.not_true <| And.intro @Bool.not_false <| And.intro @Option.getD_none.{0} <| And.intro @Option.getD_some.{0} <| And.intro @List.cons_append.{0} <| And.intro @List.nil_append.{0} <| And.intro @and_self <| And.intro @and_true @true_and
end Go.VS

/-
  VS, part 48: regions whose order is open and in which something is written.
-/
namespace Go.VS

/-! a region whose order is open, with operations that write -/
def tabAt : List (Nat × List Nat) → Nat → List Nat
  | [], _ => []
  | (a, l) :: t, i => if i = a then l else tabAt t i
def qAt : List Nat → Nat → Bool
  | [], _ => true
  | a :: t, i => if i = a then false else qAt t i
theorem qAt_eq : ∀ (ls : List Nat) (i : Nat), (!ls.contains i) = qAt ls i
  | [], _ => rfl
  | a :: t, i => by
    have := qAt_eq t i
    unfold qAt
    by_cases h : i = a
    · simp [h]
    · rw [if_neg h, ← this]; simp [h]
theorem tabAt_eq {f : Nat → List Nat} : ∀ (tab : List (Nat × List Nat)) (_ : tab.all (fun p => f p.1 == p.2) = true) (_ : ∀ i, i ∉ tab.map (·.1) → f i = []) (i : Nat), f i = tabAt tab i
  | [], _, h, i => h i (by simp)
  | (a, l) :: t, h1, h2, i => by
    simp only [List.all_cons, Bool.and_eq_true, beq_iff_eq] at h1
    unfold tabAt
    by_cases h : i = a
    · rw [if_pos h, h]; exact h1.1
    · rw [if_neg h]
      by_cases hm : i ∈ t.map (·.1)
      · clear h2
        have go : ∀ (t : List (Nat × List Nat)), t.all (fun p => f p.1 == p.2) = true → i ∈ t.map (·.1) → f i = tabAt t i := by
          intro t
          induction t with
          | nil => intro _ hm; simp at hm
          | cons p t ih =>
            intro h1 hm
            simp only [List.all_cons, Bool.and_eq_true, beq_iff_eq] at h1
            obtain ⟨a, l⟩ := p
            unfold tabAt
            by_cases h : i = a
            · rw [if_pos h, h]; exact h1.1
            · rw [if_neg h]
              exact ih h1.2 (by simpa [h] using hm)
        exact go t h1.2 hm
      · have e : f i = [] := h2 i (by simp only [List.map_cons, List.mem_cons, not_or]; exact ⟨h, hm⟩)
        rw [e]
        clear h1 h2
        induction t with
        | nil => rfl
        | cons p t ih =>
          obtain ⟨b, m⟩ := p
          simp only [List.map_cons, List.mem_cons, not_or] at hm
          unfold tabAt
          rw [if_neg hm.1]
          exact ih hm.2
section
variable {C : Ctx} {s : Frm} {H : Heap} {K : Ex → Frm → Heap → Prop}
theorem w_drawL (gC : Good C) {id : Nat} {ops : List Oper} {ls th : List Nat} {fz : List (Nat × List (List Nat × List Sh))} (tab : List (Nat × List Nat)) (hd : drawOK ops.toArray ls = true) (h1 : tab.map (·.1) = ls) (h2 : tab.all (fun p => lateOf ops.toArray ls p.1 == p.2) = true)
    (h : wpG C (nrm K) (cmpL ops (qAt ls) (tabAt tab) th ops 0) s H) : wpC (ACall C) C (.region id ops.toArray true ls th fz) s H K := by
  refine w_draw gC hd ?_
  have e1 : (fun i => !ls.contains i) = qAt ls := funext (qAt_eq ls)
  have e2 : lateOf ops.toArray ls = tabAt tab := funext (tabAt_eq tab h2 (fun i hi => by
    unfold lateOf
    rw [h1] at hi
    rw [if_neg (by simpa using hi)]))
  rw [e1, e2]
  exact h
end
theorem goK_late {C : Ctx} {K : Frm → Heap → Prop} {d : Option Tmp} {l : List (Op × Option Tmp)} {rest : List GO} {s : Frm} {v : AV} {H : Heap} (h : lateG C (setA s d v) H (goK C K d [] rest s v H) l) : goK C K d l rest s v H := h
theorem lateG_s {C : Ctx} {s : Frm} {H : Heap} {P : Prop} {op : Op} {t : Tmp} {js : List (Op × Option Tmp)} (h1 : evalOp C.E op s H = some (s.getD t .undef, H)) (h : lateG C s H P js) : lateG C s H P ((op, some t) :: js) := ⟨⟨t, rfl, h1⟩, h⟩
theorem lateG_n {C : Ctx} {s : Frm} {H : Heap} {P : Prop} (h : P) : lateG C s H P [] := h

theorem w64 {x : Int} (h : -9223372036854775808 ≤ x ∧ x ≤ 9223372036854775807) : IntKind.i64.wrap x = x := IntWalk.i64_in x (by omega)
end Go.VS

/-
  VS, part 49: calls shown on deep values, with what is owned lent, and memory made.
-/
namespace Go.VS

section
variable {C : Ctx} {H : Heap} {L : List It}

/-! an order of one's own -/
theorem permL_d (π : List Nat) (l : List Oper) : permL π l = π.map (fun i => permOper π (l.getD i default)) := rfl
theorem pO_d (π : List Nat) (o : Oper) : (permOper π o).dst = o.dst := rfl
theorem pO_o (π : List Nat) (o : Oper) : (permOper π o).op = o.op := rfl
theorem pO_g (π : List Nat) (o : Oper) : (permOper π o).guard = o.guard.map (fun p => (renum π p.1, p.2)) := rfl
theorem ren_c (a : Nat) (l : List Nat) (i : Nat) : renum (a :: l) i = if a = i then 0 else renum l i + 1 := by
  unfold renum
  rw [List.idxOf_cons]
  by_cases h : a = i
  · simp [h]
  · have : (a == i) = false := by simpa using h
    simp [h, this]
/-! What a value reads as. -/
theorem sm_n (f : AV → Option AV) : ([] : List AV).mapM f = some [] := rfl
theorem sm_c {f : AV → Option AV} {c y : AV} {cs ys : List AV} (h1 : f c = some y) (h2 : cs.mapM f = some ys) : (c :: cs).mapM f = some (y :: ys) := by
  simp [List.mapM_cons, h1, h2]
theorem sm_id {f : AV → Option AV} : ∀ (cs : List AV), (∀ c ∈ cs, f c = some c) → cs.mapM f = some cs
  | [], _ => rfl
  | c :: cs, h => sm_c (h c (by simp)) (sm_id cs fun d hd => h d (by simp [hd]))
theorem sn_agg {n : Nat} {cs ys : List AV} (h : cs.mapM (snapV n H) = some ys) : snapV (n + 1) H (.agg cs) = some (.agg ys) := by
  simp only [snapV, h, Option.map_some]
theorem sn_fn {n : Nat} {f : FuncId} {cs ys : List AV} (h : cs.mapM (snapV n H) = some ys) : snapV (n + 1) H (.fn f cs) = some (.fn f ys) := by
  simp only [snapV, h, Option.map_some]
theorem sn_ow {α : Type} {n : Nat} (hS : Own H L) (j : Nat) {v : AV} {sz : Nat} {l : List α} {c : α → AV} (hj : L[j]? = some ⟨v, sz, l.map c⟩) (hp : isSl v) (hc : ∀ x, snapV n H (c x) = some (c x)) : snapV (n + 1) H v = some (.fz (l.map c)) := by
  obtain ⟨k0, hok⟩ := hS.ok j _ hj
  simp only at hok
  rcases hp.ok with rfl | rfl | ⟨id, ver, off, len, rfl⟩
  · simp only at hok; simp only [snapV, hok]
  · simp only at hok; simp only [snapV, hok]
  · simp only at hok
    obtain ⟨k1, b, hb, k2, k3, k4, k5⟩ := hok
    simp only [snapV, hb]
    rw [if_pos k4, k5, sm_id (l.map c) (by
      intro d hd
      obtain ⟨x, _, rfl⟩ := List.mem_map.1 hd
      exact hc x), Option.map_some]
theorem sn_pt {n o : Nat} (hS : Own H L) (j : Nat) {id ver sz : Nat} {a y : AV} (hj : L[j]? = some ⟨.ptr id ver 0 0, sz, [a]⟩) (h : snapV n H a = some y) : snapV (n + 1) H (.ptr id ver 0 o) = some (.fe y o) := by
  simp only [snapV, hS.var j hj, List.getElem?_cons_zero, h, Option.map_some]
theorem pv_n : prepVal [] [] H = some ([], false) := rfl
theorem pv_c {v y : AV} {vs ys : List AV} {b : Bool} (h1 : snapV 8 H v = some y) (h2 : prepVal [] vs H = some (ys, b)) : prepVal [] (v :: vs) H = some (y :: ys, lends v || b) := by
  simp only [prepVal, h1, h2]

/-! What comes back. -/
def TV (rsh : List (List Sh)) (rs : List AV) (H : Heap) (K : List AV → Prop) : Prop := ∃ zs H', takeVals rsh rs H = some (zs, H') ∧ K zs
theorem TV_n {rsh : List (List Sh)} {K : List AV → Prop} (h : K []) : TV rsh [] H K := ⟨[], H, rfl, h⟩
theorem TV_one {e : List Sh} {rsh : List (List Sh)} {v y : AV} {rs : List AV} {H1 : Heap} {K : List AV → Prop} (ht : takeE e v H = some (y, H1)) (h : TV rsh rs H1 fun zs => K (y :: zs)) : TV (e :: rsh) (v :: rs) H K := by
  obtain ⟨zs, H', h1, h2⟩ := h
  exact ⟨y :: zs, H', by simp only [takeVals, List.headD_cons, List.tail_cons, ht, h1], h2⟩
theorem takeE_sc {v : AV} (hp : plainA v = true) (H : Heap) : takeE [.sc] v H = some (v, H) := by
  cases v <;> simp [plainA] at hp <;> simp [takeE, takeT, plainA]
theorem TV_p {rsh : List (List Sh)} {v : AV} {rs : List AV} {K : List AV → Prop} (hp : plainA v = true) (h : TV rsh rs H fun zs => K (v :: zs)) : TV ([.sc] :: rsh) (v :: rs) H K :=
  TV_one (takeE_sc hp H) h
theorem TV_o {α : Type} {rsh : List (List Sh)} {es : List Sh} {v : AV} {rs : List AV} {K : List AV → Prop} {m : List α} {c : α → AV} (j : Nat) (hS : Own H L) (hj : L[j]? = some ⟨v, es.length, m.map c⟩) (hp : isSl v) (hc : ∀ x H, takeE es (c x) H = some (c x, H))
    (h : ∀ H', Own H' (L.eraseIdx j) → TV rsh rs H' fun zs => K (.own es.length (m.map c) :: zs)) : TV ([.sl es] :: rsh) (v :: rs) H K := by
  obtain ⟨H', h1, h2⟩ := hS.take j hj hp hc
  exact TV_one h1 (h H' h2)
theorem TV_a {rsh : List (List Sh)} {es : List Sh} {cs : List AV} {rs : List AV} {K : List AV → Prop} (h : TC es cs H fun ys H' => TV rsh rs H' fun zs => K (.agg ys :: zs)) : TV (es :: rsh) (.agg cs :: rs) H K := by
  obtain ⟨ys, H', h1, h2⟩ := h
  exact TV_one (by simp only [takeE, h1]) h2
/-- What a call on deep values has to show. -/
theorem TV_ok {rsh : List (List Sh)} {rs : List AV} {y v : AV} (hv : v = oneOrTup rs) (h : TV rsh rs H fun zs => y = oneOrTup zs) : ∃ rs zs L2, v = oneOrTup rs ∧ takeVals rsh rs H = some (zs, L2) ∧ y = oneOrTup zs := by
  obtain ⟨zs, H', h1, h2⟩ := h
  exact ⟨rs, zs, H', hv, h1, h2⟩

/-! What is laid into the caller's heap. -/
def TH (ys : List AV) (H : Heap) (K : List AV → Heap → Prop) : Prop := K (thawL ys H).1 (thawL ys H).2
theorem TH_n {K : List AV → Heap → Prop} (h : K [] H) : TH [] H K := h
theorem TH_p {y : AV} {ys : List AV} {K : List AV → Heap → Prop} (hp : ∀ H, thawV y H = (y, H)) (h : TH ys H fun zs H' => K (y :: zs) H') : TH (y :: ys) H K := by
  unfold TH at h ⊢
  simp only [thawL, hp H]; exact h
theorem thawL_map {α : Type} {c : α → AV} (hc : ∀ x H, thawV (c x) H = (c x, H)) : ∀ (l : List α) (H : Heap), thawL (l.map c) H = (l.map c, H)
  | [], _ => rfl
  | x :: l, H => by simp only [List.map_cons, thawL, hc x H, thawL_map hc l H]
theorem TH_o {α : Type} {sz : Nat} {m : List α} {c : α → AV} {ys : List AV} {K : List AV → Heap → Prop} (hS : Own H L) (hc : ∀ x H, thawV (c x) H = (c x, H)) (hz : ∀ x, (c x).cells.length = sz)
    (h : ∀ v H', isSl v → Own H' (⟨v, sz, m.map c⟩ :: L) → TH ys H' fun zs H'' => K (v :: zs) H'') : TH (.own sz (m.map c) :: ys) H K := by
  have hs : szAll sz (m.map c) = true := by simp [szAll, hz]
  have := h _ _ (isSl_ref H.bs.length H.st 0 (m.map c).length) (hS.newSl (all := m.map c) (List.take_of_length_le (Nat.le_refl _)) rfl hs)
  unfold TH at this ⊢
  simp only [thawL, thawV, thawL_map hc m H]
  exact this
theorem TH_a {cs ys : List AV} {K : List AV → Heap → Prop} (h : TH cs H fun ds H' => TH ys H' fun zs H'' => K (.agg ds :: zs) H'') : TH (.agg cs :: ys) H K := by
  unfold TH at h ⊢
  simp only [thawL, thawV]
  exact h
theorem thaw_1 {y : AV} {K : AV → Heap → Prop} (h : TH [y] H fun zs H' => K (zs.headD .undef) H') : K (thawV y H).1 (thawV y H).2 := by
  unfold TH at h
  simp only [thawL] at h
  exact h
theorem thaw_tup {ys : List AV} {K : AV → Heap → Prop} (h : TH ys H fun zs H' => K (.tup zs) H') : K (thawV (.tup ys) H).1 (thawV (.tup ys) H).2 := by
  unfold TH at h
  simp only [thawV]
  exact h

variable {q th : Bool} {K : AV → Heap → Prop}
/-- A call that gives numbers, texts, bools alone. -/
theorem w_callS {α β : Type} {g : FuncId} {caps args ys : List AV} {lent : Bool} {o : Option α} {f : α → Option β} {r : β} {rsh : List (List Sh)} (h : o.bind f = some r) (hr : (C.pol g).rsh = rsh) (hp : prepVal [] (args ++ caps) H = some (ys, lent))
    (hk : ∀ x, o = some x → f x = some r → ∃ y, ACall C g ys ⟨0, []⟩ (fun v L => ∃ rs zs L2, v = oneOrTup rs ∧ takeVals rsh rs L = some (zs, L2) ∧ y = oneOrTup zs) ∧ (noFz y = true ∧ frzV y = y ∧ ∀ H, thawV y H = (y, H)) ∧ K y H) : callK C q th (.fn g caps) args H K := by
  refine w_callQ h hr hp fun x hx hf => ?_
  obtain ⟨y, h1, ⟨h2, h3, h4⟩, h5⟩ := hk x hx hf
  refine ⟨y, h1, .inr h2, ?_⟩
  rw [h3, h4 H]
  split <;> exact h5
/-- A call that makes memory. -/
theorem w_callO {α β : Type} {g : FuncId} {caps args ys : List AV} {lent : Bool} {o : Option α} {f : α → Option β} {r : β} {rsh : List (List Sh)} (h : o.bind f = some r) (hr : (C.pol g).rsh = rsh) (hp : prepVal [] (args ++ caps) H = some (ys, lent))
    (hk : ∀ x, o = some x → f x = some r → ∃ y, ACall C g ys ⟨0, []⟩ (fun v L => ∃ rs zs L2, v = oneOrTup rs ∧ takeVals rsh rs L = some (zs, L2) ∧ y = oneOrTup zs) ∧ noFz y = true ∧ K (thawV y H).1 (thawV y H).2) : callK C q true (.fn g caps) args H K := by
  refine w_callQ h hr hp fun x hx hf => ?_
  obtain ⟨y, h1, h2, h5⟩ := hk x hx hf
  refine ⟨y, h1, .inr h2, ?_⟩
  simpa using h5
theorem noFzL_map {α : Type} {c : α → AV} (hc : ∀ x, noFz (c x) = true) : ∀ (l : List α), noFzL (l.map c) = true
  | [] => rfl
  | x :: l => by simp only [List.map_cons, noFzL, hc x, noFzL_map hc l, Bool.and_self]
theorem noFz_o {α : Type} {c : α → AV} (sz : Nat) (hc : ∀ x, noFz (c x) = true) (l : List α) : noFz (.own sz (l.map c)) = true := by
  simp only [noFz]; exact noFzL_map hc l
theorem nf_n : noFzL [] = true := rfl
theorem nf_c {y : AV} {ys : List AV} (h1 : noFz y = true) (h2 : noFzL ys = true) : noFzL (y :: ys) = true := by simp only [noFzL, h1, h2, Bool.and_self]
theorem nf_a {ys : List AV} (h : noFzL ys = true) : noFz (.agg ys) = true := by simp only [noFz]; exact h
theorem nf_t {ys : List AV} (h : noFzL ys = true) : noFz (.tup ys) = true := by simp only [noFz]; exact h
end
end Go.VS

/-
  VS, part 50: slices.Clone, of what nobody writes: nil or not, what comes is owned.
-/
namespace Go.VS

/-- The code of slices.Clone at a slice type. -/
def cloneC (t b : TypeId) : Code :=
  (Go.Code.seq
    (Go.Code.region 0 #[{ dst := some 2, op := Go.Op.assign (Go.Operand.const (Go.Value.slice none 0 0)), type := t, pos := "slices.go:355", after := #[], guard := none }] false)
    (Go.Code.seq
      (Go.Code.seq
        (Go.Code.region 1
          #[{ dst := some 3, op := Go.Op.move (Go.Operand.tmp 0), type := t, pos := "slices.go:357", after := #[], guard := none },
            { dst := some 4, op := Go.Op.binOp Go.BinOp.eql t (Go.Operand.tmp 3) (Go.Operand.const (Go.Value.slice none 0 0)) t, type := b, pos := "slices.go:357", after := #[{ on := 0, ground := Go.Ground.data }], guard := none }]
          false)
        (Go.Code.cond (Go.Operand.tmp 4)
          (Go.Code.seq
            (Go.Code.region 2 #[{ dst := some 2, op := Go.Op.assign (Go.Operand.const (Go.Value.slice none 0 0)), type := t, pos := "slices.go:358", after := #[], guard := none }] false)
            Go.Code.ret)
          Go.Code.skip))
      (Go.Code.seq
        (Go.Code.region 3
          #[{ dst := some 5, op := Go.Op.buildSlice t 0 #[], type := t, pos := "slices.go:362", after := #[], guard := none },
            { dst := some 6, op := Go.Op.move (Go.Operand.tmp 0), type := t, pos := "slices.go:362", after := #[], guard := none },
            { dst := some 7, op := Go.Op.call { callee := Go.Callee.builtin Go.Builtin.append, args := #[Go.Operand.tmp 5, Go.Operand.tmp 6], argTypes := #[t, t] }, type := t, pos := "slices.go:362", after := #[{ on := 0, ground := Go.Ground.data }, { on := 1, ground := Go.Ground.data }], guard := none },
            { dst := some 2, op := Go.Op.assign (Go.Operand.tmp 7), type := t, pos := "slices.go:362",
              after := #[{ on := 2, ground := Go.Ground.data }, { on := 2, ground := Go.Ground.chain }, { on := 0, ground := Go.Ground.phase }, { on := 1, ground := Go.Ground.phase }, { on := 2, ground := Go.Ground.phase }], guard := none }]
          false)
        Go.Code.ret)))

def noX : CallRel := fun _ _ _ _ => False
def noC (E : TEnv) : Ctx := ⟨E, fun _ => {}, fun _ => none, noX⟩

theorem fz_nil {w : World} {H : Heap} {φ : Phi} {A : Avoid} {xs : List AV} {v : Value} (h : R w H φ A (.fz xs) v) : ∃ a cap, v = .slice a xs.length cap := by
  cases h.fz_inv with
  | fz0 a cap => exact ⟨a, cap, rfl⟩
  | fz _ c off cap n arr T fr => exact ⟨_, _, rfl⟩

/-- Is a slice nil? It is or not. -/
theorem nil_or {P : Program} {w : World} {t e : TypeId} {a : Option Addr} {n cap : Nat} (h : (underlying t).run P w = .ok (.slice e) w) (d : Nat) : ∃ b, (Op.equalIn (d + 1) t (.slice a n cap) (.slice none 0 0)).run P w = .ok b w ∧ (b = true → a = none) := by
  cases a with
  | none => exact ⟨true, by simp [Op.equalIn, h], fun _ => rfl⟩
  | some a => exact ⟨false, equalIn_nil2 h d, by simp⟩

theorem noOrd : ∀ c : Code, ordsOK {} c = true := by
  intro c
  induction c with
  | seq a b iha ihb => simp [ordsOK, iha, ihb]
  | cond c a b iha ihb => simp [ordsOK, iha, ihb]
  | block id a ih => simp [ordsOK, ih]
  | loop a ih => simp [ordsOK, ih]
  | region id ops draw => simp [ordsOK]
  | _ => simp [ordsOK]
section
variable {P : Program} {E : TEnv}
theorem cloneSim (hm : P.follows .mixedOrders = true) (hE : ∀ t ti, E t = some ti → TyOK P t ti) {f : FuncId} {fn : Func} {t b e : TypeId} {ti te : TI} (hf : P.funcs[f]? = some fn) (hname : (fn.name == "runtime.NumGoroutine") = false)
    (hb : fn.body = some (cloneC t b)) (hr : fn.results = #[.tmp 2]) (hn : fn.ntmps = 8) (ht : E t = some ti) (hu : ti.und = .sl e) (he : E e = some te) (xs : List AV) (H : Heap) (hz : szAll te.sz xs = true) (h0 : te.sz ≠ 0) (hro : roomy xs.length te.bytes = true) :
    Sim P f [.fz xs] H (fun v H' => v = (if xs = [] then .e0 else .ref H.bs.length H.st 0 xs.length) ∧ H' = (if xs = [] then H else H.new te.sz false xs)) := by
  have hXe : Exact noX := fun _ _ _ _ h => h.elim
  have hX : ∀ f ys H K, noX f ys H K → Sim P f ys H K := fun _ _ _ _ h => h.elim
  have hD : DrawSim P (noC E) noX := drawSim (C := noC E) hXe hm hE hX
  have sim := fun (c : Code) s H K Q w φ A a h => codeSim (P := P) (C := noC E) (X := noX) hm hE hX hD {} c 0 s H K Q w φ A a (noOrd c) h
  refine ⟨⟨fn, hf, hname, by simp [hb]⟩, fun w A φ us hst hl hrel => ?_⟩
  refine calls_of_wp hf hb ?_
  rw [hn]
  obtain ⟨v, rfl⟩ : ∃ v, us = #[v] := by
    match us, hl with
    | ⟨[v]⟩, _ => exact ⟨v, rfl⟩
  have hv : R w H φ A (.fz xs) v := hrel 0 _ _ rfl rfl
  -- the frame
  have hs0 : SF w H φ A [.fz xs, .undef, .undef, .undef, .undef, .undef, .undef, .undef] { tmps := #[v] ++ Array.replicate (8 - 1) undef, defers := [] } := by
    refine ⟨rfl, fun i x u hx hu => ?_, rfl⟩
    match i with
    | 0 => simp at hx hu; subst hx; subst hu; exact hv
    | i + 1 =>
      have : x = .undef := by
        match i with
        | 0 | 1 | 2 | 3 | 4 | 5 | 6 => simpa using hx.symm
        | i + 7 => simp at hx
      subst this
      exact .fr _ _ (.undef _)
  -- the end, from a frame whose slot 2 is the result
  have fin : ∀ (s' : Frm) (H' : Heap) (φ' : Phi) (A' : Avoid) (a' : Act) (w' : World) (x : AV), Out w H φ A w' H' φ' A' → SF w' H' φ' A' s' a' → s'.getD 2 .undef = x → (∀ u, R w' H' φ' A' x u → ∃ y, R w' H' φ' A' y u ∧ (y = (if xs = [] then .e0 else .ref H.bs.length H.st 0 xs.length) ∧ H' = (if xs = [] then H else H.new te.sz false xs))) →
      a'.defers = [] ∧ ∃ v, (results fn a'.tmps).run P w' = .ok v w' ∧ CRes w H φ A (fun v H' => v = (if xs = [] then .e0 else .ref H.bs.length H.st 0 xs.length) ∧ H' = (if xs = [] then H else H.new te.sz false xs)) (.returned v) w' := by
    intro s' H' φ' A' a' w' x h1 h2 hx hy
    refine ⟨h2.dfr, ?_⟩
    obtain ⟨rus, k1, k2, k3⟩ := results_ok (P := P) (C := noC E) hE h1.st h2 (fn := fn) (rs := [x]) (by rw [hr]; simp only [resVals, hx, Option.map_some])
    obtain ⟨u, rfl⟩ : ∃ u, rus = [u] := by
      match rus, k2 with
      | [u], _ => exact ⟨u, rfl⟩
    obtain ⟨y, hy1, hy2⟩ := hy u (k3 0 x u rfl rfl)
    exact ⟨_, k1, y, H', φ', A', h1, by simpa [oneVal] using hy1, hy2⟩
  -- the first region
  refine wp_seq (sim _ _ H (fun e s1 H1 => e = .normal ∧ s1 = [.fz xs, .undef, .nil, .undef, .undef, .undef, .undef, .undef] ∧ H1 = H) _ w φ A _ ?_ hst hs0 ?_)
  · simp [annot, withFrz, regOf, ordOf, wpC, wpOpsN, frzSlots, wpOp, quietOp, evalOp, ev, ofValue, setA, noC]
  rintro e1 s1 H1 φ1 A1 a1 w1 o1 hs1 ⟨rfl, rfl, rfl⟩
  show (Code.seq _ _).wp P _ a1 w1
  have hst1 := o1.st
  refine wp_seq (wp_seq (wp_region_list ?_))
  -- is it nil?
  simp only [wpList]
  rw [if_pos (by simp [Region.wanted])]
  refine .inl (opSim (C := noC E) (X := noX) hE hX hst1 (s := [.fz xs, .undef, .nil, .undef, .undef, .undef, .undef, .undef]) (fun x _ => hs1.ev x) (th := false) (K := fun x H' => x = .fz xs ∧ H' = H1) (by simp [wpOp, quietOp, evalOp, ev]) ?_)
  rintro x3 v3 w3 H3 φ3 A3 o3 hx3 ⟨rfl, rfl⟩
  have hs3 := (hs1.mono o3.evo).set (some 3) hx3
  have hst3 := o3.st
  rw [if_pos (by simp [Region.wanted])]
  have hv3 : (a1.put (some 3) v3).eval (.tmp 3) = v3 := by
    have : a1.tmps.size = 8 := by have := hs1.len; simpa using this.symm
    simp [Act.eval, Act.put, this]
  obtain ⟨a0, cap, rfl⟩ := fz_nil hx3
  obtain ⟨bb, hbb, hbn⟩ := nil_or (a := a0) (n := xs.length) (cap := cap) ((hE t ti ht).sl w3 hu) 9999
  have hm4 : MRes w3 H3 φ3 A3 H3 ((execOp (a1.put (some 3) (.slice a0 xs.length cap)).eval { dst := some 4, op := Go.Op.binOp Go.BinOp.eql t (Go.Operand.tmp 3) (Go.Operand.const (Go.Value.slice none 0 0)) t, type := b, pos := "slices.go:357", after := #[{ on := 0, ground := Go.Ground.data }], guard := none }).run P w3) (.bool bb) := by
    have hg := eqGuard_plain P w3 .eql t (.tmp 3) (.const (.slice none 0 0)) (.slice a0 xs.length cap) (.slice none 0 0) (by simp) rfl
    have hbin : binOp .eql t (.slice a0 xs.length cap) (.slice none 0 0) = (do pure (.bool (← Op.equal t (.slice a0 xs.length cap) (.slice none 0 0)))) := rfl
    rw [← equal_def] at hbb
    refine MRes.of_q hst3 (.inl rfl) (QRes.ofVal hst3 ⟨.bool bb, ?_, .fr _ _ (.bool _)⟩)
    rw [hv3]
    show (do eqGuard .eql t (.tmp 3) (.const (.slice none 0 0)) (.slice a0 xs.length cap) (.slice none 0 0); binOp .eql t (.slice a0 xs.length cap) (.slice none 0 0) : Sem Value).run P w3 = _
    simp [hg, hbin, hbb]
  refine .inl (hm4.upon fun v4 w4 φ4 A4 o4 hx4 => ?_)
  have hs4 := (hs3.mono o4.evo).set (some 4) hx4
  have hst4 := o4.st
  have o34 : Out w H3 φ A w4 H3 φ4 A4 := o1.trans hst (o3.trans hst1 (o4.trans hst3 (.refl hst4)))
  simp only [setA, List.set_cons_succ, List.set_cons_zero] at hs4
  simp only [Exit.then]
  -- the condition
  refine sim _ [.fz xs, .undef, .nil, .fz xs, .bool bb, .undef, .undef, .undef] H3 (fun e s' H' => H' = H3 ∧ if bb = true then e = .ret ∧ s' = [.fz xs, .undef, .nil, .fz xs, .bool bb, .undef, .undef, .undef] else e = .normal ∧ s' = [.fz xs, .undef, .nil, .fz xs, .bool bb, .undef, .undef, .undef]) _ w4 φ4 A4 _ ?_ hst4 hs4 ?_
  · cases bb
    · simp [annot, withKill, wpC, ev, noC]
    · simp [annot, withKill, withFrz, regOf, ordOf, wpC, wpOpsN, frzSlots, wpOp, quietOp, evalOp, ev, ofValue, setA, noC]
      exact ⟨_, _, ⟨rfl, rfl⟩, rfl, rfl⟩
  rintro e5 s5 H5 φ5 A5 a5 w5 o5 hs5 ⟨rfl, hk5⟩
  cases bb with
  | true =>
    simp only [if_true] at hk5
    obtain ⟨rfl, rfl⟩ := hk5
    obtain rfl := hbn rfl
    have hxs : xs = [] := by
      cases hv3' : hx3.fz_inv with
      | fz0 => rfl
    subst hxs
    show (bodyPost P fn _) .ret a5 w5
    refine fin _ _ _ _ _ _ .nil (o34.trans hst o5) hs5 rfl fun u hu => ⟨.e0, ?_, by simp⟩
    have := hu.nil_inv
    subst this
    exact .fr _ _ (.e0 none)
  | false =>
    simp only [Bool.false_eq_true, if_false] at hk5
    obtain ⟨rfl, rfl⟩ := hk5
    show (Code.seq _ _).wp P _ a5 w5
    refine sim _ [.fz xs, .undef, .nil, .fz xs, .bool false, .undef, .undef, .undef] H5 (fun e s' H' => e = .ret ∧ s'.getD 2 .undef = (if xs = [] then .e0 else .ref H5.bs.length H5.st 0 xs.length) ∧ H' = (if xs = [] then H5 else H5.new te.sz false xs)) _ w5 φ5 A5 a5 ?_ o5.st hs5 ?_
    · by_cases hxs : xs = []
      · subst hxs
        simp [annot, withFrz, regOf, ordOf, wpC, wpOpsN, frzSlots, wpOp, quietOp, evalOp, ev, setA, noC, elTI, ht, hu, he, evalBuiltin, appendA, elemsOf, szAll, h0]
        refine ⟨_, _, ⟨rfl, rfl⟩, _, _, ⟨rfl, rfl⟩, _, _, ⟨rfl, rfl⟩, ?_⟩
        simp
      · have hlen : ¬ xs.length = 0 := by simpa using hxs
        simp [annot, withFrz, regOf, ordOf, wpC, wpOpsN, frzSlots, wpOp, quietOp, evalOp, ev, setA, noC, elTI, ht, hu, he, evalBuiltin, appendA, elemsOf, h0, hxs]
        refine ⟨_, _, ⟨rfl, rfl⟩, _, _, ⟨rfl, rfl⟩, _, _, ⟨rfl, rfl⟩, ?_⟩
        simp [hz, hro, hxs]
    · rintro e6 s6 H6 φ6 A6 a6 w6 o6 hs6 ⟨rfl, hx6, rfl⟩
      show (bodyPost P fn _) .ret a6 w6
      exact fin _ _ _ _ _ _ _ (o34.trans hst (o5.trans hst4 o6)) hs6 hx6 fun u hu => ⟨_, hu, rfl, rfl⟩

/-- What is said of slices.Clone: of function f, at elements of a size, of so many bytes. -/
def cloneExt (ids : List (FuncId × Nat × Nat)) : CallRel := fun f ys H K => ∃ sz b xs, (f, sz, b) ∈ ids ∧ ys = [.fz xs] ∧ szAll sz xs = true ∧ sz ≠ 0 ∧ roomy xs.length b = true ∧ K (if xs = [] then .e0 else .ref H.bs.length H.st 0 xs.length) (if xs = [] then H else H.new sz false xs)
structure CloneOK (P : Program) (E : TEnv) (f : FuncId) (sz b : Nat) : Prop where
  out : ∃ fn t bt e ti te, P.funcs[f]? = some fn ∧ (fn.name == "runtime.NumGoroutine") = false ∧ fn.body = some (cloneC t bt) ∧ fn.results = #[.tmp 2] ∧ fn.ntmps = 8 ∧ E t = some ti ∧ ti.und = .sl e ∧ E e = some te ∧ te.sz = sz ∧ te.bytes = b
theorem clone_hext (hm : P.follows .mixedOrders = true) (hE : ∀ t ti, E t = some ti → TyOK P t ti) {ids : List (FuncId × Nat × Nat)} (hids : ∀ x ∈ ids, CloneOK P E x.1 x.2.1 x.2.2) :
    ∀ f ys H K, cloneExt ids f ys H K → ∃ v H', Sim P f ys H (fun v1 H1 => v1 = v ∧ H1 = H') ∧ K v H' := by
  rintro f ys H K ⟨sz, b, xs, h1, rfl, h2, h3, h4, h5⟩
  obtain ⟨fn, t, bt, e, ti, te, k1, k2, k3, k4, k5, k6, k7, k8, rfl, rfl⟩ := (hids _ h1).out
  exact ⟨_, _, cloneSim hm hE k1 k2 k3 k4 k5 k6 k7 k8 xs H h2 h3 h4, h5⟩
theorem clone_good {C : Ctx} {ids : List (FuncId × Nat × Nat)} (h : C.ext = cloneExt ids) : Good C := by
  constructor
  · rintro f ys H K K' hK hx
    rw [h] at hx ⊢
    obtain ⟨sz, b, xs, h1, h2, h3, h4, h5, h6⟩ := hx
    exact ⟨sz, b, xs, h1, h2, h3, h4, h5, hK _ _ h6⟩
  · rintro f ys H K hx
    rw [h] at hx ⊢
    obtain ⟨sz, b, xs, h1, h2, h3, h4, h5, h6⟩ := hx
    exact ⟨_, _, ⟨sz, b, xs, h1, h2, h3, h4, h5, rfl, rfl⟩, h6⟩
/-- slices.Clone, as it is walked. -/
theorem clone_w {C : Ctx} {ids : List (FuncId × Nat × Nat)} (hx : C.ext = cloneExt ids) {α : Type} {f : FuncId} {sz b : Nat} (hid : (f, sz, b) ∈ ids) {c : α → AV} (hc : ∀ x, (c x).cells.length = sz) (h0 : sz ≠ 0) {l r : List α} (h : app b [] l = some r) {F : List It} {H : Heap} (hS : Own H F)
    {P : AV → Heap → Prop} (hP : ∀ v, isSl v → ∀ H', Own H' (⟨v, sz, r.map c⟩ :: F) → P v H') : ACall C f [.fz (l.map c)] H P := by
  unfold app at h
  split at h
  · rename_i hr
    simp only [List.nil_append, Option.some.injEq] at h
    subst h
    simp only [List.length_nil, Nat.zero_add] at hr
    refine ACall.ext ?_
    rw [hx]
    refine ⟨sz, b, l.map c, hid, rfl, szAll_map hc l, h0, by simpa using hr, ?_⟩
    cases l with
    | nil => exact hP _ isSl_e0 _ (by simpa using hS.e0_ sz)
    | cons x l =>
      rw [if_neg (by simp), if_neg (by simp)]
      exact hP _ (isSl_ref ..) _ (hS.newSl (all := (x :: l).map c) (List.take_of_length_le (Nat.le_refl _)) rfl (szAll_map hc _))
  · simp at h
end
theorem ev_ow {E : TEnv} {s : Frm} {H : Heap} {L : List It} {α β : Type} {t : TypeId} {x i : Operand} {ti te : TI} {e : TypeId} (j : Nat) (hS : Own H L) {v w : AV} {l : List α} {c : α → AV} {sz : Nat} (hj : L[j]? = some ⟨v, sz, l.map c⟩)
    (ht : E t = some ti) (hu : ti.und = .sl e) (he : E e = some te) (hsz : sz = te.sz) {k : IntKind} {n : Int} {l0 : List β} {y : β} {id ver off : Nat} (hv : v = .ref id ver off l0.length) (hb : idx l0 n = some y)
    (hx : ev s x = v) (hi : ev s i = .int k n) (hw : w = .ptr id ver (off + n.toNat) 0) {op : Op} (hop : op = .indexAddr t x i) : evalOp E op s H = some (w, H) := by
  subst hop
  obtain ⟨h0, h2, h1⟩ := idx_some hb
  subst hv
  obtain ⟨_, h3, b, hb, h4, _, h5, h6⟩ := hS.ok j _ hj
  simp only at h3 h4 h5
  simp only [evalOp, ht, hi, hu, he, hx, hb]
  rw [if_pos ⟨by rw [h4, hsz], h0, h2, h5⟩, hw]
theorem ev_le {E : TEnv} {s : Frm} {H : Heap} {L : List It} {α : Type} {t : TypeId} {x : Operand} {ti : TI} (j : Nat) (hS : Own H L) {v w : AV} {l : List α} {c : α → AV} {sz : Nat} (hj : L[j]? = some ⟨v, sz, l.map c⟩)
    (ht : E t = some ti) {n : Int} {y : α} {id ver off k o : Nat} (hv : v = .ref id ver off k) (hb : idx l n = some y)
    (hx : ev s x = .ptr id ver (off + n.toNat) o) (hw : rdAt ti (c y) o = some w) {op : Op} (hop : op = .load t x) : evalOp E op s H = some (w, H) := by
  subst hop
  obtain ⟨b, h1, h2⟩ := hS.elem j hj hv hb
  simp only [evalOp, ht, hx, h1, h2, hw]
end Go.VS

/-
  VS, part 52: slices whose elements bear slices that are owned, too.
-/
namespace Go.VS

/-- Slices' values, so many. -/
structure isSls (w : List AV) (n : Nat) : Prop where
  len : w.length = n
  sl : ∀ a ∈ w, isSl a
/-- What lies inside: of each element a slice. -/
def inn {α β : Type} (p : α → List β) (c : β → AV) (z : Nat) (w : List AV) (l : List α) : List It := List.zipWith (fun a x => ⟨a, z, (p x).map c⟩) w l
/-- What lies outside. -/
def ouw {α : Type} (m : AV → α → AV) (w : List AV) (l : List α) : List AV := List.zipWith m w l
/-- Inside, but for one. -/
def inx {α β : Type} (p : α → List β) (c : β → AV) (z : Nat) (w : List AV) (l : List α) (i : Nat) : List It := (inn p c z w l).eraseIdx i

theorem fzl_d {α : Type} (c : α → AV) (l : List α) : fzl c l = .fz (l.map c) := rfl

/-! Blocks of what is owned. -/
def catI : List (List It) → List It → List It
  | [], F => F
  | a :: as, F => a ++ catI as F
section
variable {H : Heap} {L F R : List It}
variable {α β : Type} {p : α → List β} {c : β → AV} {z : Nat} {w : List AV} {l : List α} {m : AV → α → AV} {v : AV} {sz : Nat}

theorem isSls.nil : isSls [] 0 := ⟨rfl, by simp⟩
theorem isSls.get (h : isSls w l.length) {i : Int} {b : α} (hi : idx l i = some b) : ∃ a, w[i.toNat]? = some a ∧ isSl a := by
  obtain ⟨_, _, h1⟩ := idx_some hi
  have := (List.getElem?_eq_some_iff.1 h1).1
  have hw : i.toNat < w.length := by rw [h.len]; exact this
  exact ⟨_, List.getElem?_eq_getElem hw, h.sl _ (List.getElem_mem hw)⟩
theorem isSls.set (h : isSls w l.length) {a : AV} (ha : isSl a) (i : Nat) (y : α) : isSls (w.set i a) (l.set i y).length := by
  refine ⟨by simpa using h.len, fun x hx => ?_⟩
  rcases List.mem_or_eq_of_mem_set hx with h1 | rfl
  · exact h.sl _ h1
  · exact ha
theorem isSls.app {w' : List AV} {l' : List α} (h : isSls w l.length) (h' : isSls w' l'.length) : isSls (w ++ w') (l ++ l').length := by
  refine ⟨by simp [h.len, h'.len], fun x hx => ?_⟩
  rcases List.mem_append.1 hx with h1 | h1
  · exact h.sl _ h1
  · exact h'.sl _ h1
/-- The room of nil; a part of nil. -/
theorem w_capN {C : Ctx} {q th : Bool} {s : Frm} {K : AV → Heap → Prop} {t e : TypeId} {x : Operand} {ti : TI} (ht : C.E t = some ti) (hu : ti.und = .sl e) (hx : ev s x = .nil) (h : K (.int .i64 0) H) : wpO (ACall C) C q th (.call { callee := .builtin .cap, args := #[x], argTypes := #[t] }) s H K := by
  unfold wpO wpOp
  have e1 : ((#[t] : Array TypeId)[0]?).bind C.E = C.E t := rfl
  simp only [quietBuiltin, implies_true, true_and, List.map_cons, List.map_nil, hx, evalBuiltin, e1, ht, hu]
  exact h
theorem w_slN {E : TEnv} {K : AV → Heap → Prop} {t e : TypeId} {ti te : TI} {lo hi : Option Int} (ht : E t = some ti) (hu : ti.und = .sl e) (he : E e = some te) (h1 : lo.getD 0 = 0) (h2 : hi.getD 0 = 0) (h : K .nil H) : sl3 E t .nil (some lo) (some hi) (some none) H K := by
  simp only [sl3, sliceA, ht, hu, he]
  rw [if_pos ⟨h1, h2, rfl, by simp⟩]
  exact h
/-! A part of what is owned, looked at alone. -/
structure isVw (v : AV) (lo n : Nat) (v' : AV) : Prop where
  out : (v = .nil ∧ v' = .nil) ∨ (v = .e0 ∧ v' = .e0) ∨ ∃ id ver off len, v = .ref id ver off len ∧ v' = .ref id ver (off + lo) n
theorem slc_some {γ : Type} {l m : List γ} {lo hi : Int} (h : slc l lo hi = some m) : 0 ≤ lo ∧ lo ≤ hi ∧ hi ≤ l.length ∧ m = (l.drop lo.toNat).take (hi.toNat - lo.toNat) ∧ m.length = hi.toNat - lo.toNat := by
  unfold slc at h
  split at h
  · rename_i hc
    simp only [Option.some.injEq] at h
    refine ⟨hc.1, hc.2.1, hc.2.2, h.symm, ?_⟩
    rw [← h, List.length_take, List.length_drop]; omega
  · simp at h
theorem w_slW {γ δ : Type} {E : TEnv} {K : AV → Heap → Prop} {t e : TypeId} {ti te : TI} {l : List γ} {c : γ → AV} {lo hi : Option Int} {f : List γ → Option δ} {r : δ} (j : Nat) (hS : Own H L) (hj : L[j]? = some ⟨v, te.sz, l.map c⟩) (hp : isSl v) (ht : E t = some ti) (hu : ti.und = .sl e) (he : E e = some te) (hh : (slc l (lo.getD 0) (hi.getD l.length)).bind f = some r)
    (h : ∀ v' m, isSl v' → isVw v (lo.getD 0).toNat m.length v' → slc l (lo.getD 0) (hi.getD l.length) = some m → f m = some r → K v' H) : sl3 E t v (some lo) (some hi) (some none) H K := by
  cases hm : slc l (lo.getD 0) (hi.getD l.length) with
  | none => rw [hm] at hh; simp at hh
  | some m =>
    rw [hm] at hh
    have hk := fun v' hv' hw => h v' m hv' hw hm hh
    obtain ⟨hc1, hc2, hc3, _, hml⟩ := slc_some hm
    have hok := hS.ok j _ hj
    obtain ⟨k0, hok⟩ := hok
    simp only at hok k0
    have empty : l.map c = [] → lo.getD 0 = 0 ∧ hi.getD 0 = 0 := by
      intro e
      rw [List.map_eq_nil_iff] at e
      subst e
      have e0 : (([] : List γ).length : Int) = 0 := rfl
      rw [e0] at hc3 hc2
      refine ⟨by omega, ?_⟩
      cases hi with
      | none => rfl
      | some x => simp at hc2 hc3 ⊢; omega
    split at hok
    · obtain ⟨e1, e2⟩ := empty hok
      simp only [sl3, sliceA, ht, hu, he]
      rw [if_pos ⟨e1, e2, rfl, by simp⟩]
      exact hk .nil isSl_nil ⟨.inl ⟨rfl, rfl⟩⟩
    · obtain ⟨e1, e2⟩ := empty hok
      simp only [sl3, sliceA, ht, hu, he]
      rw [if_pos ⟨e1, e2, rfl, by simp⟩]
      exact hk .e0 isSl_e0 ⟨.inr (.inl ⟨rfl, rfl⟩)⟩
    · rename_i id ver off len
      obtain ⟨k1, b, hb, k2, k3, k4, k5⟩ := hok
      simp only [List.length_map] at k1
      subst k1
      simp only [sl3, sliceA, ht, hu, hb, he, k2, ne_eq, not_true_eq_false, if_false]
      rw [if_pos ⟨hc1, hc2, by omega⟩]
      refine hk _ (isSl_ref ..) ⟨.inr (.inr ⟨id, ver, off, _, rfl, ?_⟩)⟩
      rw [hml]
    · rename_i id ver ix off
      obtain ⟨rfl, rfl, _⟩ := hok
      exact absurd rfl (hp.ne id ver)
    · exact hok.elim
theorem Own.elemsW {γ : Type} (hS : Own H L) (j : Nat) {sz : Nat} {l m : List γ} {c : γ → AV} {v' : AV} {lo hi : Int} (hj : L[j]? = some ⟨v, sz, l.map c⟩) (hv : isVw v lo.toNat m.length v') (hm : slc l lo hi = some m) : elemsOf H v' = some (m.map c) := by
  obtain ⟨hc1, hc2, hc3, hme, hml⟩ := slc_some hm
  have hok := (hS.ok j _ hj).2
  simp only at hok
  have empty : l.map c = [] → m = [] := fun e => by
    rw [List.map_eq_nil_iff] at e
    subst e
    rw [hme]; simp
  rcases hv.out with ⟨rfl, rfl⟩ | ⟨rfl, rfl⟩ | ⟨id, ver, off, len, rfl, rfl⟩
  · simp only at hok; rw [empty hok]; rfl
  · simp only at hok; rw [empty hok]; rfl
  · simp only at hok
    obtain ⟨k1, b, hb, k2, k3, k4, k5⟩ := hok
    simp only [List.length_map] at k1
    subst k1
    simp only [elemsOf, hb]
    rw [if_pos (by omega)]
    simp only [subL] at k5 ⊢
    rw [hml, hme, List.map_take, List.map_drop, ← k5, List.drop_take, List.drop_drop, List.take_take]
    congr 2
    omega
theorem w_lenW {γ : Type} {K : AV → Heap → Prop} (hS : Own H L) (j : Nat) {sz : Nat} {l m : List γ} {c : γ → AV} {v' : AV} {lo hi : Int} (hj : L[j]? = some ⟨v, sz, l.map c⟩) (hv : isVw v lo.toNat m.length v') (hm : slc l lo hi = some m) {ti : TI} {e : TypeId} (hu : ti.und = .sl e) (h : K (.int .i64 m.length) H) : lenK (some ti) v' (lenOf H v') H K := by
  have he := hS.elemsW j hj hv hm
  obtain ⟨hc1, hc2, hc3, hme, hml⟩ := slc_some hm
  rcases hv.out with ⟨rfl, rfl⟩ | ⟨rfl, rfl⟩ | ⟨id, ver, off, len, rfl, rfl⟩
  · simp only [elemsOf, Option.some.injEq] at he
    have : m = [] := by rw [← List.map_eq_nil_iff (f := c)]; exact he.symm
    subst this
    simp only [lenOf, lenK, hu]; exact h
  · simp only [elemsOf, Option.some.injEq] at he
    have : m = [] := by rw [← List.map_eq_nil_iff (f := c)]; exact he.symm
    subst this
    simp only [lenOf, lenK, hu]; exact h
  · simp only [elemsOf] at he
    cases hb : H.blk id ver with
    | none => rw [hb] at he; simp at he
    | some b => simp only [lenOf, lenK, hu]; exact h
theorem sn_vw {γ : Type} {n : Nat} (hS : Own H L) (j : Nat) {sz : Nat} {l m : List γ} {c : γ → AV} {v' : AV} {lo hi : Int} (hj : L[j]? = some ⟨v, sz, l.map c⟩) (hv : isVw v lo.toNat m.length v') (hm : slc l lo hi = some m) (hc : ∀ x, snapV n H (c x) = some (c x)) : snapV (n + 1) H v' = some (.fz (m.map c)) := by
  have he := hS.elemsW j hj hv hm
  rcases hv.out with ⟨rfl, rfl⟩ | ⟨rfl, rfl⟩ | ⟨id, ver, off, len, rfl, rfl⟩
  · simp only [elemsOf, Option.some.injEq] at he; simp only [snapV, ← he]
  · simp only [elemsOf, Option.some.injEq] at he; simp only [snapV, ← he]
  · simp only [elemsOf] at he
    cases hb : H.blk id ver with
    | none => rw [hb] at he; simp at he
    | some b =>
      rw [hb] at he
      simp only at he
      split at he
      · rename_i hlt
        simp only [Option.some.injEq] at he
        simp only [snapV, hb]
        rw [if_pos hlt, he, sm_id (m.map c) (by
          intro d hd
          obtain ⟨x, _, rfl⟩ := List.mem_map.1 hd
          exact hc x), Option.map_some]
      · simp at he
/-! Delete, and what clears. -/
theorem w_slX {γ δ : Type} {E : TEnv} {K : AV → Heap → Prop} {t e : TypeId} {ti te : TI} {l : List γ} {c : γ → AV} {lo hi mx : Int} {f : List γ → Option δ} {r : δ} (j : Nat) (hS : Own H L) (hj : L[j]? = some ⟨v, te.sz, l.map c⟩) (hp : isSl v) (ht : E t = some ti) (hu : ti.und = .sl e) (he : E e = some te) (hmx : mx = l.length) (hh : (slc l lo hi).bind f = some r)
    (h : ∀ x m, slc l lo hi = some m → f m = some r → K x H) : sl3 E t v (some (some lo)) (some (some hi)) (some (some mx)) H K := by
  cases hm : slc l lo hi with
  | none => rw [hm] at hh; simp at hh
  | some m =>
    rw [hm] at hh
    have hk := fun x => h x m hm hh
    obtain ⟨hc1, hc2, hc3, _, hml⟩ := slc_some hm
    have hok := hS.ok j _ hj
    obtain ⟨k0, hok⟩ := hok
    simp only at hok k0
    subst hmx
    have empty : l.map c = [] → lo = 0 ∧ hi = 0 ∧ (l.length : Int) = 0 := by
      intro e
      rw [List.map_eq_nil_iff] at e
      subst e
      have e0 : (([] : List γ).length : Int) = 0 := rfl
      rw [e0] at hc3
      exact ⟨by omega, by omega, rfl⟩
    split at hok
    · obtain ⟨e1, e2, e3⟩ := empty hok
      simp only [sl3, sliceA, ht, hu, he]
      rw [if_pos ⟨e1, e2, e3, by simp⟩]
      exact hk _
    · obtain ⟨e1, e2, e3⟩ := empty hok
      simp only [sl3, sliceA, ht, hu, he]
      rw [if_pos ⟨e1, e2, e3, by simp⟩]
      exact hk _
    · rename_i id ver off len
      obtain ⟨k1, b, hb, k2, k3, k4, k5⟩ := hok
      simp only [List.length_map] at k1
      subst k1
      simp only [sl3, sliceA, ht, hu, hb, he, k2, ne_eq, not_true_eq_false, if_false]
      by_cases hq : (some hi).isSome = true ∧ 0 ≤ (some lo).getD 0 ∧ (some lo).getD 0 = (some hi).getD ↑l.length ∧ (some hi).getD ↑l.length = ↑l.length ∧ off + ((some hi).getD ↑l.length).toNat ≤ b.el.length
      · rw [if_pos hq]; exact hk _
      · rw [if_neg hq, if_pos ⟨rfl, hc1, hc2, hc3, by simpa using k4⟩]; exact hk _
    · rename_i id ver ix off
      obtain ⟨rfl, rfl, _⟩ := hok
      exact absurd rfl (hp.ne id ver)
    · exact hok.elim
/-- There is room for so many. -/
structure isRm (H : Heap) (v : AV) (n : Nat) : Prop where
  out : ((v = .nil ∨ v = .e0) ∧ n = 0) ∨ ∃ id ver off len b, v = .ref id ver off len ∧ H.blk id ver = some b ∧ off + n ≤ b.el.length
theorem w_appW {γ δ : Type} {E : TEnv} {K : AV → Heap → Prop} {t u : TypeId} {te tu : TI} {e : TypeId} {v1 x : AV} {l m1 m : List γ} {c : γ → AV} {lo hi : Int} {f : List γ → Option δ} {r : δ} (j : Nat) (hS : Own H L) (hj : L[j]? = some ⟨v, te.sz, l.map c⟩) (hp1 : isSl v1) (hw : isVw v lo.toNat m1.length v1) (hm1 : slc l lo hi = some m1)
    (ht : elTI E t = some te) (hu : E u = some tu) (hi' : tu.und = .sl e) (hx : elemsOf H x = some (m.map c)) (hsz : ∀ x, (c x).cells.length = te.sz) (h0 : (te.sz == 0) = false) (hh : (app te.bytes m1 m).bind f = some r)
    (h : ∀ v' H' lm, isSl v' → app te.bytes m1 m = some lm → f lm = some r → Own H' (L.set j ⟨v', te.sz, lm.map c⟩) → (lo = 0 → m1.length + m.length ≤ l.length → isRm H' v' l.length) → K v' H') :
    resO (evalBuiltin E .append #[t, u] [v1, x] H) K := by
  obtain ⟨hc1, hc2, hc3, hme, hml⟩ := slc_some hm1
  have hlt := (List.getElem?_eq_some_iff.1 hj).1
  have hok := hS.ok j _ hj
  obtain ⟨k0, hok⟩ := hok
  simp only at hok k0
  have hset : ∀ it : It, L[j]? = some it → L.set j it = L := fun it h => List.ext_getElem? fun k => by
    rw [List.getElem?_set]
    split
    · rename_i e; subst e
      have := (List.getElem?_eq_some_iff.1 h).1
      first | exact h.symm | (simp only [this, if_true]; exact h.symm)
    · rfl
  have hm1e : l.map c = [] → m1 = [] := fun e => by
    rw [List.map_eq_nil_iff] at e; subst e; rw [hme]; simp
  have hS1 : Own H (L.set j ⟨v1, te.sz, m1.map c⟩) := by
    rcases hw.out with ⟨rfl, rfl⟩ | ⟨rfl, rfl⟩ | ⟨id, ver, off, len, rfl, rfl⟩
    · try simp only at hok
      rw [hm1e hok, List.map_nil, ← hok, hset _ hj]; exact hS
    · try simp only at hok
      rw [hm1e hok, List.map_nil, ← hok, hset _ hj]; exact hS
    · try simp only at hok
      obtain ⟨k1, b, hb, k2, k3, k4, k5⟩ := hok
      simp only [List.length_map] at k1
      subst k1
      refine hS.upd hj rfl (fun _ _ _ _ => rfl) ⟨?_, by simp, b, hb, k2, k3, by first | omega | (simp only; omega), ?_⟩ (fun k hk => by simpa [idOf] using hk.symm)
      · simp only [szAll, List.all_eq_true, List.mem_map]
        rintro z ⟨y, _, rfl⟩
        simpa using hsz y
      · simp only [subL] at k5 ⊢
        rw [hml, hme, List.map_take, List.map_drop, ← k5, List.drop_take, List.drop_drop, List.take_take]
        congr 1
        omega
  cases hr : app te.bytes m1 m with
  | none => rw [hr] at hh; simp at hh
  | some lm =>
    have hr' := hr
    unfold app at hr
    split at hr
    · rename_i hroom
      simp only [Option.some.injEq] at hr; subst hr
      rw [hr'] at hh
      have hne : te.sz ≠ 0 := by simpa using h0
      obtain ⟨v', H', a1, a2, a3⟩ := app_own hS1 j (show (L.set j ⟨v1, te.sz, m1.map c⟩)[j]? = some ⟨v1, te.sz, m1.map c⟩ by simp [hlt]) hp1 hx (szAll_map hsz m) hne (by simpa using hroom)
      have e1 : (#[t, u] : Array TypeId)[0]? = some t := rfl
      have e2 : ((#[t, u] : Array TypeId)[1]?).bind E = E u := rfl
      simp only [evalBuiltin, e1, e2, ht, hu, hi', a1, resO]
      refine h v' H' _ a2 hr' hh (by rw [List.set_set] at a3; rw [List.map_append]; exact a3) fun hlo hle => ?_
      rcases hw.out with ⟨rfl, rfl⟩ | ⟨rfl, rfl⟩ | ⟨id, ver, off, len, rfl, rfl⟩
      · try simp only at hok
        have hl : l = [] := List.map_eq_nil_iff.1 hok
        subst hl
        simp at hle
        have hm : m = [] := by simpa using hle.2
        subst hm
        simp only [List.map_nil] at hx
        simp only [appendA, hx, szAll, List.all_nil, Bool.not_true, Bool.false_eq_true, if_false, if_neg hne, List.length_nil, if_true, Option.some.injEq, Prod.mk.injEq] at a1
        exact ⟨.inl ⟨.inl a1.1.symm, rfl⟩⟩
      · try simp only at hok
        have hl : l = [] := List.map_eq_nil_iff.1 hok
        subst hl
        simp at hle
        have hm : m = [] := by simpa using hle.2
        subst hm
        simp only [List.map_nil] at hx
        simp only [appendA, hx, szAll, List.all_nil, Bool.not_true, Bool.false_eq_true, if_false, if_neg hne, List.length_nil, if_true, Option.some.injEq, Prod.mk.injEq] at a1
        exact ⟨.inl ⟨.inr a1.1.symm, rfl⟩⟩
      · try simp only at hok
        obtain ⟨k1, b, hb, k2, k3, k4, k5⟩ := hok
        simp only [List.length_map] at k1
        subst k1
        subst hlo
        have hver := (Heap.blk_get hb).2
        have hs : szAll te.sz (m.map c) = true := szAll_map hsz m
        simp only [appendA, hx, hs, Bool.not_true, Bool.false_eq_true, if_false, if_neg hne, hb, k2, ne_eq, not_true_eq_false] at a1
        rw [if_pos (by simp; omega)] at a1
        simp only [Option.some.injEq, Prod.mk.injEq] at a1
        obtain ⟨rfl, rfl⟩ := a1
        refine ⟨.inr ⟨id, ver, _, _, { ver := b.ver, sz := te.sz, fix := b.fix, el := splice b.el (off + (0 : Int).toNat + m1.length) (m.map c) }, rfl, ?_, ?_⟩⟩
        · have := blk_upd (H := H) (b := { ver := b.ver, sz := te.sz, fix := b.fix, el := splice b.el (off + (0 : Int).toNat + m1.length) (m.map c) }) ((hS.ok j _ hj).lt rfl)
          simpa only [hver] using this
        · simp only
          rw [splice_len _ _ _ (by simp; omega)]
          simpa using k4
    · simp at hr
/-- What lies behind a slice's end. -/
structure isBh (v : AV) (n k : Nat) (v' : AV) : Prop where
  out : ((v = .nil ∨ v = .e0) ∧ v' = v) ∨ ∃ id ver off len, v = .ref id ver off len ∧ v' = .ref id ver (off + n) k
theorem w_slR {γ : Type} {E : TEnv} {K : AV → Heap → Prop} {t e : TypeId} {ti te : TI} {l : List γ} {c : γ → AV} {hi : Int} (j : Nat) (hS : Own H L) (hj : L[j]? = some ⟨v, te.sz, l.map c⟩) (ht : E t = some ti) (hu : ti.und = .sl e) (he : E e = some te) {n : Nat} (hr : isRm H v n) (hhi : hi = n) (hle : l.length ≤ n)
    (h : ∀ v', isBh v l.length (n - l.length) v' → K v' H) : sl3 E t v (some (some (l.length : Int))) (some (some hi)) (some none) H K := by
  subst hhi
  rcases hr.out with ⟨h1 | h1, rfl⟩ | ⟨id, ver, off, len, b, rfl, hb, hl⟩
  · subst h1
    have hl : l.length = 0 := by omega
    simp only [sl3, sliceA, ht, hu, he]
    rw [if_pos ⟨by simp [hl], by simp, rfl, by simp⟩]
    exact h .nil ⟨.inl ⟨.inl rfl, rfl⟩⟩
  · subst h1
    have hl : l.length = 0 := by omega
    simp only [sl3, sliceA, ht, hu, he]
    rw [if_pos ⟨by simp [hl], by simp, rfl, by simp⟩]
    exact h .e0 ⟨.inl ⟨.inr rfl, rfl⟩⟩
  · obtain ⟨k0, k1, b', hb', k2, k3, k4, k5⟩ := hS.ok j _ hj
    rw [hb] at hb'
    simp only [Option.some.injEq] at hb'; subst hb'
    simp only [sl3, sliceA, ht, hu, hb, he, k2, ne_eq, not_true_eq_false, if_false, Option.getD_some]
    rw [if_pos ⟨by omega, by omega, by omega⟩]
    exact h _ ⟨.inr ⟨id, ver, off, len, rfl, by simp⟩⟩
theorem o_clr {C : Ctx} {th : Bool} {s : Frm} {K : AV → Heap → Prop} (x : Operand) (t : TypeId) : wpO (ACall C) C false th (.call { callee := .builtin .clear, args := #[x], argTypes := #[t] }) s H K = resO (evalBuiltin C.E .clear #[t] [ev s x] H) K := by
  unfold wpO wpOp
  simp only [Bool.false_eq_true, false_implies, true_and]; rfl
/-- What lies behind is cleared. -/
theorem w_clrR {γ : Type} {E : TEnv} {K : AV → Heap → Prop} {t : TypeId} {te : TI} {l : List γ} {c : γ → AV} {v' z : AV} {n : Nat} (j : Nat) (hS : Own H L) (hj : L[j]? = some ⟨v, te.sz, l.map c⟩) (ht : elTI E t = some te) (h0 : (te.sz == 0) = false) (hz : zeroA te = some z) (hr : isRm H v n) (hle : l.length ≤ n) (hb : isBh v l.length (n - l.length) v')
    (h : ∀ H', Own H' L → K (.tup []) H') : resO (evalBuiltin E .clear #[t] [v'] H) K := by
  have e1 : ((#[t] : Array TypeId)[0]?).bind (elTI E) = some te := ht
  have hne : te.sz ≠ 0 := by simpa using h0
  simp only [evalBuiltin, e1]
  rcases hb.out with ⟨h1 | h1, rfl⟩ | ⟨id, ver, off, len, rfl, rfl⟩
  · subst h1; simp only [clearA, resO]; exact h H hS
  · subst h1; simp only [clearA, resO]; exact h H hS
  · rcases hr.out with ⟨h1 | h1, _⟩ | ⟨id', ver', off', len', b, he, hb', hl⟩
    · simp at h1
    · simp at h1
    · simp only [AV.ref.injEq] at he
      obtain ⟨rfl, rfl, rfl, rfl⟩ := he
      obtain ⟨k0, k1, b', hb2, k2, k3, k4, k5⟩ := hS.ok j _ hj
      rw [hb'] at hb2
      simp only [Option.some.injEq] at hb2; subst hb2
      simp only [List.length_map] at k1
      subst k1
      have hver := (Heap.blk_get hb').2
      simp only [clearA, hb', hz]
      rw [if_pos ⟨k2, by omega, hne⟩]
      simp only [resO]
      have hset : L.set j ⟨.ref id ver off l.length, te.sz, l.map c⟩ = L := List.ext_getElem? fun k => by
        rw [List.getElem?_set]
        split
        · rename_i e; subst e
          have := (List.getElem?_eq_some_iff.1 hj).1
          simp only [this, if_true]; exact hj.symm
        · rfl
      refine h _ ?_
      rw [← hset]
      have hsl : (splice b.el (off + l.length) (List.replicate (n - l.length) z)).length = b.el.length := splice_len _ _ _ (by simp; omega)
      refine hS.upd hj rfl (fun id' ver' hne _ => blk_upd_ne hne) ⟨k0, by simp, { b with el := splice b.el (off + l.length) (List.replicate (n - l.length) z) }, ?_, k2, k3, by simp only [hsl]; exact k4, ?_⟩ (fun k hk => by simpa [idOf] using hk.symm)
      · have := blk_upd (H := H) (b := { b with el := splice b.el (off + l.length) (List.replicate (n - l.length) z) }) ((hS.ok j _ hj).lt rfl)
        simpa only [hver] using this
      · simp only [subL] at k5 ⊢
        unfold splice
        rw [List.append_assoc, List.drop_append_of_le_length (by simp; omega), List.drop_take, List.take_append_of_le_length (by simp; omega), List.take_take]
        rw [show min l.length (off + l.length - off) = l.length by omega]
        exact k5
theorem w_clr {γ : Type} {C : Ctx} {th : Bool} {s : Frm} {K : AV → Heap → Prop} {xo : Operand} {t : TypeId} {te : TI} {l : List γ} {c : γ → AV} {v' z : AV} {n : Nat} (j : Nat) (hS : Own H L) (hj : L[j]? = some ⟨v, te.sz, l.map c⟩) (hx : ev s xo = v') (ht : elTI C.E t = some te) (h0 : (te.sz == 0) = false) (hz : zeroA te = some z) (hr : isRm H v n) (hle : l.length ≤ n) (hb : isBh v l.length (n - l.length) v')
    (h : ∀ H', Own H' L → K (.tup []) H') : wpO (ACall C) C false th (.call { callee := .builtin .clear, args := #[xo], argTypes := #[t] }) s H K := by
  rw [o_clr, hx]
  exact w_clrR j hS hj ht h0 hz hr hle hb h
theorem app_len {γ : Type} {b : Nat} {l m r : List γ} (h : app b l m = some r) : r.length = l.length + m.length := by
  unfold app at h
  split at h
  · simp only [Option.some.injEq] at h; rw [← h]; simp
  · simp at h
theorem slc_len {γ : Type} {l m : List γ} {lo hi : Int} (h : slc l lo hi = some m) : 0 ≤ lo ∧ lo ≤ hi ∧ hi ≤ l.length ∧ (m.length : Int) = hi - lo := by
  obtain ⟨h1, h2, h3, _, h5⟩ := slc_some h
  exact ⟨h1, h2, h3, by omega⟩
/-- nil grows by so many zeros. -/
theorem w_appZ {γ δ : Type} {E : TEnv} {K : AV → Heap → Prop} {t u : TypeId} {te tu : TI} {k : IntKind} {n : Int} {z0 : AV} {d : γ} {c : γ → AV} {f : List γ → Option δ} {r : δ} (hS : Own H L) (ht : elTI E t = some te) (hu : E u = some tu) (hi : tu.und = .it k) (hz : zeroE te = some z0) (hd : c d = z0) (h0 : (te.sz == 0) = false) (hh : (mkL te.bytes n d).bind f = some r)
    (h : ∀ v H' l, isSl v → mkL te.bytes n d = some l → f l = some r → Own H' (⟨v, te.sz, l.map c⟩ :: L) → K v H') : resO (evalBuiltin E .append #[t, u] [.nil, .int .i64 n] H) K := by
  cases hm : mkL te.bytes n d with
  | none => rw [hm] at hh; simp at hh
  | some l =>
    rw [hm] at hh
    have hm' := hm
    unfold mkL at hm'
    split at hm'
    · rename_i hc
      simp only [Option.some.injEq] at hm'; subst hm'
      have hne : te.sz ≠ 0 := by simpa using h0
      have e1 : (#[t, u] : Array TypeId)[0]? = some t := rfl
      have e2 : ((#[t, u] : Array TypeId)[1]?).bind E = E u := rfl
      simp only [evalBuiltin, e1, e2, ht, hu, hi, appendZ, hz]
      rw [if_pos ⟨hc.1, hc.2, hne⟩]
      by_cases hn : n = 0
      · rw [if_pos hn]
        subst hn
        exact h .nil H _ isSl_nil hm hh (hS.nil_ te.sz)
      · rw [if_neg hn]
        refine h _ _ _ (isSl_ref ..) hm hh (hS.newSl (by simp [hd]) (by simp) ?_)
        simp only [szAll, List.map_replicate, List.all_replicate, hd, zeroE_len hz]
        simp
    · simp at hm'
/-- An element of a part that is looked at. -/
theorem w_vwE {γ δ : Type} {E : TEnv} {K : AV → Heap → Prop} {t e : TypeId} {ti te : TI} {v1 : AV} {sz : Nat} {l m : List γ} {c : γ → AV} {lo hi : Int} {k : IntKind} {n : Int} {f : γ → Option δ} {r : δ} (j : Nat) (hS : Own H L) (hj : L[j]? = some ⟨v, sz, l.map c⟩) (hw : isVw v lo.toNat m.length v1) (hm : slc l lo hi = some m)
    (ht : E t = some ti) (hu : ti.und = .sl e) (he : E e = some te) (hsz : sz = te.sz) (hh : (idx m n).bind f = some r) (h : ∀ x p q o, idx m n = some x → f x = some r → (∃ b, H.blk p q = some b ∧ b.el[o]? = some (c x)) → K (.ptr p q o 0) H) : iaK E t v1 (.int k n) H K := by
  cases hi' : idx m n with
  | none => rw [hi'] at hh; simp at hh
  | some x =>
    rw [hi'] at hh
    obtain ⟨h0, h2, h1⟩ := idx_some hi'
    obtain ⟨hc1, hc2, hc3, hme, hml⟩ := slc_some hm
    have hok := (hS.ok j _ hj).2
    simp only at hok
    have hne : l.map c ≠ [] := by
      intro e; rw [List.map_eq_nil_iff] at e; subst e
      rw [hme] at h1; simp at h1
    rcases hw.out with ⟨rfl, rfl⟩ | ⟨rfl, rfl⟩ | ⟨id, ver, off, len, rfl, rfl⟩
    · exact absurd hok hne
    · exact absurd hok hne
    · simp only at hok
      obtain ⟨k1, b, hb, k2, k3, k4, k5⟩ := hok
      simp only [List.length_map] at k1
      subst k1
      simp only [iaK, ht, hu, he, hb]
      rw [if_pos ⟨by rw [k2, hsz], h0, by omega, by omega⟩]
      refine h x id ver (off + lo.toNat + n.toNat) hi' hh ⟨b, hb, ?_⟩
      have hx : l[lo.toNat + n.toNat]? = some x := by
        rw [hme, List.getElem?_take, List.getElem?_drop] at h1
        split at h1
        · exact h1
        · simp at h1
      have := congrArg (·[lo.toNat + n.toNat]?) k5
      simp only [List.getElem?_map, hx, Option.map_some, subL] at this
      rw [← this, List.getElem?_take, List.getElem?_drop, if_pos (by omega)]
      congr 1
      omega
end
theorem w_killE {C : Ctx} {kp : List Nat} {s s' : Frm} {H : Heap} {K : Ex → Frm → Heap → Prop} (hk : killF kp s = s') (h : K .normal s' H) : wpC (ACall C) C (.frz [] (some kp)) s H K := by
  subst hk; exact h
end Go.VS
