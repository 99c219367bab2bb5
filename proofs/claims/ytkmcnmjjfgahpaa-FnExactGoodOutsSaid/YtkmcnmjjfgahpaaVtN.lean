/-
  VS, part 40: walking through code, step by step.
-/
import Derived.Test.YtkmcnmjjfgahpaaVtM
namespace Go.VS

/-- What is asked of the rules of one's own. -/
structure Good (C : Ctx) : Prop where
  up : ExtUp C
  exact : Exact C.ext

def seqK (C : Ctx) (b : AC) (K : Ex → Frm → Heap → Prop) : Ex → Frm → Heap → Prop
  | .normal, s, H => wpC (ACall C) C b s H K
  | .exit i, s, H => K (.exit i) s H
  | .ret, s, H => K .ret s H
def blkK (id : Nat) (keep : Option (List Nat)) (K : Ex → Frm → Heap → Prop) : Ex → Frm → Heap → Prop
  | .normal, s, H => K .normal (killB keep s) H
  | .exit j, s, H => if j = id then K .normal (killB keep s) H else K (.exit j) s H
  | .ret, s, H => K .ret s H
def cndK (C : Ctx) (v : AV) (a b : AC) (s : Frm) (H : Heap) (K : Ex → Frm → Heap → Prop) : Prop :=
  match v with
  | .bool t => if t then wpC (ACall C) C a s H K else wpC (ACall C) C b s H K
  | _ => False

section
variable {C : Ctx} {K K1 : Ex → Frm → Heap → Prop} {s : Frm} {H : Heap}

theorem w_seq {a b : AC} (h : ∀ K1, K1 = seqK C b K → wpC (ACall C) C a s H K1) : wpC (ACall C) C (.seq a b) s H K := by
  have := h _ rfl
  have e : seqK C b K = (fun e s' H' => match e with | .normal => wpC (ACall C) C b s' H' K | e => K e s' H') := by
    funext e s H; cases e <;> rfl
  rw [e] at this; exact this
theorem w_blk {id : Nat} {kp : Option (List Nat)} {a : AC} (h : ∀ K1, K1 = blkK id kp K → wpC (ACall C) C a s H K1) : wpC (ACall C) C (.block id kp a) s H K := by
  have := h _ rfl
  have e : blkK id kp K = (fun e s' H' => match e with
    | .exit j => if j = id then K .normal (killB kp s') H' else K (.exit j) s' H'
    | .normal => K .normal (killB kp s') H'
    | .ret => K .ret s' H') := by funext e s H; cases e <;> rfl
  rw [e] at this; exact this
theorem w_skip (h : K .normal s H) : wpC (ACall C) C .skip s H K := h
theorem w_ret (h : K .ret s H) : wpC (ACall C) C .ret s H K := h
theorem w_exit {id : Nat} (h : K (.exit id) s H) : wpC (ACall C) C (.exit id) s H K := h
theorem w_if {c : Operand} {a b : AC} (h : cndK C (ev s c) a b s H K) : wpC (ACall C) C (.cond c a b) s H K := h
theorem w_frz {l : List (List Nat × List Sh)} {kp : Option (List Nat)} {s' : Frm} {H' : Heap} (he : frzSlots l s H = some (s', H')) (h : K .normal (killB kp s') H') : wpC (ACall C) C (.frz l kp) s H K := by
  simp only [wpC, he]; exact h
theorem w_kill {kp : List Nat} (h : K .normal (killF kp s) H) : wpC (ACall C) C (.frz [] (some kp)) s H K := h
theorem seq_n {b : AC} (hK : K1 = seqK C b K) (h : wpC (ACall C) C b s H K) : K1 .normal s H := by rw [hK]; exact h
theorem seq_r {b : AC} (hK : K1 = seqK C b K) (h : K .ret s H) : K1 .ret s H := by rw [hK]; exact h
theorem seq_x {b : AC} {i : Nat} (hK : K1 = seqK C b K) (h : K (.exit i) s H) : K1 (.exit i) s H := by rw [hK]; exact h
theorem blk_n {id : Nat} {kp : Option (List Nat)} (hK : K1 = blkK id kp K) (h : K .normal (killB kp s) H) : K1 .normal s H := by rw [hK]; exact h
theorem blk_n0 {id : Nat} (hK : K1 = blkK id none K) (h : K .normal s H) : K1 .normal s H := by rw [hK]; exact h
theorem blk_e0 {id : Nat} (hK : K1 = blkK id none K) (h : K .normal s H) : K1 (.exit id) s H := by rw [hK]; simp only [blkK, if_true]; exact h
theorem blk_e {id : Nat} {kp : Option (List Nat)} (hK : K1 = blkK id kp K) (h : K .normal (killB kp s) H) : K1 (.exit id) s H := by rw [hK]; simp only [blkK, if_true]; exact h
theorem blk_x {id j : Nat} {kp : Option (List Nat)} (hK : K1 = blkK id kp K) (hj : j ≠ id) (h : K (.exit j) s H) : K1 (.exit j) s H := by rw [hK]; simp only [blkK, if_neg hj]; exact h
theorem blk_r {id : Nat} {kp : Option (List Nat)} (hK : K1 = blkK id kp K) (h : K .ret s H) : K1 .ret s H := by rw [hK]; exact h
theorem fin_r {E : TEnv} {res : List ResultVar} {P : AV → Heap → Prop} {rs : List AV} (hK : K1 = finK E res P) (hr : resVals E s H res = some rs) (h : P (oneOrTup rs) H) : K1 .ret s H := by rw [hK]; exact ⟨rs, hr, h⟩
theorem fin_n {E : TEnv} {res : List ResultVar} {P : AV → Heap → Prop} {rs : List AV} (hK : K1 = finK E res P) (hr : resVals E s H res = some rs) (h : P (oneOrTup rs) H) : K1 .normal s H := by rw [hK]; exact ⟨rs, hr, h⟩
theorem fin_r1 {E : TEnv} {a : Tmp} {P : AV → Heap → Prop} (hK : K1 = finK E [.tmp a] P) {x : AV} (hx : s.getD a .undef = x) (h : P x H) : K1 .ret s H := by
  rw [hK]; exact ⟨[s.getD a .undef], rfl, by rw [hx]; exact h⟩
theorem fin_r2 {E : TEnv} {a b : Tmp} {P : AV → Heap → Prop} (hK : K1 = finK E [.tmp a, .tmp b] P) {x y : AV} (hx : s.getD a .undef = x) (hy : s.getD b .undef = y) (h : P (.tup [x, y]) H) : K1 .ret s H := by
  rw [hK]; exact ⟨[s.getD a .undef, s.getD b .undef], rfl, by rw [hx, hy]; exact h⟩
theorem fin_r3 {E : TEnv} {a b c : Tmp} {P : AV → Heap → Prop} (hK : K1 = finK E [.tmp a, .tmp b, .tmp c] P) {x y z : AV} (hx : s.getD a .undef = x) (hy : s.getD b .undef = y) (hz : s.getD c .undef = z) (h : P (.tup [x, y, z]) H) : K1 .ret s H := by
  rw [hK]; exact ⟨[s.getD a .undef, s.getD b .undef, s.getD c .undef], rfl, by rw [hx, hy, hz]; exact h⟩
theorem fin_r4 {E : TEnv} {a b c d : Tmp} {P : AV → Heap → Prop} (hK : K1 = finK E [.tmp a, .tmp b, .tmp c, .tmp d] P) {x y z u : AV} (hx : s.getD a .undef = x) (hy : s.getD b .undef = y) (hz : s.getD c .undef = z) (hu : s.getD d .undef = u) (h : P (.tup [x, y, z, u]) H) : K1 .ret s H := by
  rw [hK]; exact ⟨[s.getD a .undef, s.getD b .undef, s.getD c .undef, s.getD d .undef], rfl, by rw [hx, hy, hz, hu]; exact h⟩
theorem fin_r0 {E : TEnv} {P : AV → Heap → Prop} (hK : K1 = finK E [] P) (h : P (.tup []) H) : K1 .ret s H := by
  rw [hK]; exact ⟨[], rfl, h⟩
theorem fin_n0 {E : TEnv} {P : AV → Heap → Prop} (hK : K1 = finK E [] P) (h : P (.tup []) H) : K1 .normal s H := by
  rw [hK]; exact ⟨[], rfl, h⟩
/-- A condition, with what the function's own text says of it. -/
theorem w_cnd {α : Type} {c : Bool} {x y : Option α} {r : α} {a b : AC} (h : (bif c then x else y) = some r) (ht : c = true → x = some r → wpC (ACall C) C a s H K) (hf : c = false → y = some r → wpC (ACall C) C b s H K) : cndK C (.bool c) a b s H K := by
  cases c with
  | true => exact ht rfl h
  | false => exact hf rfl h
/-- A piece of code of which more is known. -/
theorem w_cut {a : AC} (h : wpC (ACall C) C a s H K1) (hK : ∀ e s H, K1 e s H → K e s H) (gC : Good C) : wpC (ACall C) C a s H K := wpC_mono (ACall.up gC.up) a s H _ _ hK h
end

/-! Regions. -/
/-- An operation as it is walked: where its value goes, what guards it, what has to be the same when it comes late. -/
structure GO where
  d : Option Tmp
  op : Op
  g : Option (Option Tmp × Bool)
  late : List (Op × Option Tmp)
  th : Bool
  q : Bool

def lk : List Oper → Nat → Option Tmp
  | [], _ => none
  | o :: _, 0 => o.dst
  | _ :: os, n + 1 => lk os n

def wpO (X : CallRel) (C : Ctx) (q thaw : Bool) (op : Op) (s : Frm) (H : Heap) (K : AV → Heap → Prop) : Prop := wpOp X C q thaw ⟨none, op, 0, "", #[], none⟩ s H K

theorem wpO_eq (X : CallRel) (C : Ctx) (q thaw : Bool) (o : Oper) (s : Frm) (H : Heap) (K : AV → Heap → Prop) : wpOp X C q thaw o s H K = wpO X C q thaw o.op s H K := by
  cases o; rfl

def lateG (C : Ctx) (s : Frm) (H : Heap) (K : Prop) : List (Op × Option Tmp) → Prop
  | [] => K
  | (op, d) :: js => (∃ t, d = some t ∧ evalOp C.E op s H = some (s.getD t .undef, H)) ∧ lateG C s H K js

def grd (g : Option (Option Tmp × Bool)) (s : Frm) (a b : Prop) : Prop :=
  match g with
  | none => a
  | some (none, _) => False
  | some (some t, want) => match s.getD t .undef with
    | .bool c => if c = want then a else b
    | .tup _ => b
    | _ => False

def wpG (C : Ctx) (K : Frm → Heap → Prop) : List GO → Frm → Heap → Prop
  | [], s, H => K s H
  | o :: rest, s, H => grd o.g s (wpO (ACall C) C o.q o.th o.op s H fun v H' => lateG C (setA s o.d v) H' (wpG C K rest (setA s o.d v) H') o.late)
      (lateG C (setA s o.d (.tup [])) H (wpG C K rest (setA s o.d (.tup [])) H) o.late)

def lkO (ops : List Oper) (j : Nat) : Op × Option Tmp := match ops[j]? with | some o => (o.op, o.dst) | none => (.move (.tmp 0), none)

def cmpL (all : List Oper) (q : Nat → Bool) (late : Nat → List Nat) (th : List Nat) : List Oper → Nat → List GO
  | [], _ => []
  | o :: rest, i => ⟨o.dst, o.op, o.guard.map fun p => (lk all p.1, p.2), (late i).map (lkO all), th.contains i, q i⟩ :: cmpL all q late th rest (i + 1)

theorem lk_eq : ∀ (l : List Oper) (j : Nat), lk l j = (l[j]?).bind (·.dst)
  | [], j => by simp [lk]
  | o :: os, 0 => by simp [lk]
  | o :: os, j + 1 => by simp [lk, lk_eq os j]

theorem lateG_eq {C : Ctx} {ops : Array Oper} {s : Frm} {H : Heap} {K : Prop} : ∀ (l : List Nat), lateG C s H K (l.map (lkO ops.toList)) → lateAll C ops s H K l
  | [], h => h
  | j :: js, h => by
    simp only [List.map_cons, lateG] at h
    refine ⟨?_, lateG_eq js h.2⟩
    unfold lateChk
    have h1 := h.1
    unfold lkO at h1
    rw [Array.getElem?_toList] at h1
    cases ho : ops[j]? with
    | none => rw [ho] at h1; simp at h1
    | some o =>
      rw [ho] at h1
      obtain ⟨t, ht, he⟩ := h1
      simp only at ht he ⊢
      rw [ht]
      exact he

theorem wpG_ok {C : Ctx} (gC : Good C) {ops : Array Oper} {q : Nat → Bool} {late : Nat → List Nat} {th : List Nat} {K : Frm → Heap → Prop} : ∀ (l : List Oper) (i : Nat) (s : Frm) (H : Heap), wpG C K (cmpL ops.toList q late th l i) s H → wpOpsA (ACall C) C ops q late th K l i s H
  | [], i, s, H, h => h
  | o :: rest, i, s, H, h => by
    simp only [cmpL, wpG] at h
    have yes : (wpO (ACall C) C (q i) (th.contains i) o.op s H fun v H' => lateG C (setA s o.dst v) H' (wpG C K (cmpL ops.toList q late th rest (i + 1)) (setA s o.dst v) H') ((late i).map (lkO ops.toList))) →
        wpOp (ACall C) C (q i) (th.contains i) o s H fun v H' => lateAll C ops (setA s o.dst v) H' (wpOpsA (ACall C) C ops q late th K rest (i + 1) (setA s o.dst v) H') (late i) := by
      intro h
      rw [← wpO_eq] at h
      refine wpOp_mono' (ACall.up gC.up) (fun v H' h => ?_) h
      exact lateAll_mono (wpG_ok gC rest (i + 1) _ _) _ (lateG_eq _ h)
    simp only [wpOpsA]
    cases hg : o.guard with
    | none =>
      rw [hg] at h
      simp only [Option.map_none, grd] at h ⊢
      exact yes h
    | some p =>
      obtain ⟨j, want⟩ := p
      rw [hg] at h
      simp only [Option.map_some, lk_eq, Array.getElem?_toList] at h ⊢
      cases hd : (ops[j]?).bind (·.dst) with
      | none => rw [hd] at h; exact h.elim
      | some t =>
        rw [hd] at h
        simp only [grd] at h
        have no : (lateG C (setA s o.dst (.tup [])) H (wpG C K (cmpL ops.toList q late th rest (i + 1)) (setA s o.dst (.tup [])) H) ((late i).map (lkO ops.toList))) → guardA ops o s = some false → ∃ v H', (match guardA ops o s with
            | some b => if b then wpOp (ACall C) C (q i) (th.contains i) o s H (fun v1 H1 => v1 = v ∧ H1 = H') else v = .tup [] ∧ H' = H
            | none => False) ∧ lateAll C ops (setA s o.dst v) H' (wpOpsA (ACall C) C ops q late th K rest (i + 1) (setA s o.dst v) H') (late i) := by
          intro h hb
          refine ⟨.tup [], H, ?_, lateAll_mono (wpG_ok gC rest (i + 1) _ _) _ (lateG_eq _ h)⟩
          rw [hb]
          simp
        split at h
        · rename_i c hc
          have hga : guardA ops o s = some (c == want) := by
            unfold guardA
            rw [hg]
            simp only [hd, hc]
          split at h
          · rename_i hcw
            obtain ⟨v, H', h1, h2⟩ := wpOp_exact (ACall.exact gC.up gC.exact) (yes h)
            refine ⟨v, H', ?_, h2⟩
            rw [hga, hcw]
            simp only [beq_self_eq_true, if_true]
            exact h1
          · rename_i hcw
            exact no h (by rw [hga]; simpa using hcw)
        · rename_i hc
          exact no h (by unfold guardA; rw [hg]; simp only [hd, hc])
        · exact h.elim

section
variable {C : Ctx} {K K1 : Ex → Frm → Heap → Prop} {s : Frm} {H : Heap}
def nrm (K : Ex → Frm → Heap → Prop) : Frm → Heap → Prop := fun s H => K .normal s H

theorem w_reg (gC : Good C) {id : Nat} {ops : List Oper} {ls th : List Nat} (h : wpG C (nrm K) (cmpL ops (fun _ => false) (fun _ => []) th ops 0) s H) : wpC (ACall C) C (.region id ops.toArray false ls th []) s H K := by
  have h2 := wpG_ok gC (ops := ops.toArray) (q := fun _ => false) (late := fun _ => []) (th := th) ops 0 s H h
  have key : ∀ (l : List Oper) (i : Nat) (s : Frm) (H : Heap), wpOpsA (ACall C) C ops.toArray (fun _ => false) (fun _ => []) th (nrm K) l i s H → wpOpsN (ACall C) C ops.toArray th [] (nrm K) l i s H := by
    intro l
    induction l with
    | nil => intro i s H h; exact h
    | cons o rest ih =>
      intro i s H h
      simp only [wpOpsA, lateAll] at h
      simp only [wpOpsN]
      refine ⟨s, H, rfl, ?_⟩
      cases hg : o.guard with
      | none =>
        rw [hg] at h
        exact wpOp_mono' (ACall.up gC.up) (fun v H' hv => ih (i + 1) _ _ hv) h
      | some p =>
        rw [hg] at h
        obtain ⟨v, H', h1, h2⟩ := h
        exact ⟨v, H', h1, ih (i + 1) _ _ h2⟩
  exact key _ _ _ _ h2
/-- A region's list, with what is kept for good before an operation. -/
def wpF (C : Ctx) (fz : List (Nat × List (List Nat × List Sh))) (K : Frm → Heap → Prop) : List GO → Nat → Frm → Heap → Prop
  | [], _, s, H => K s H
  | o :: rest, i, s0, H0 => ∃ s H, frzSlots ((fz.lookup i).getD []) s0 H0 = some (s, H) ∧
    grd o.g s (wpO (ACall C) C o.q o.th o.op s H fun v H' => wpF C fz K rest (i + 1) (setA s o.d v) H') (wpF C fz K rest (i + 1) (setA s o.d (.tup [])) H)
theorem wpF_ok (gC : Good C) {ops : Array Oper} {th : List Nat} {fz : List (Nat × List (List Nat × List Sh))} {K : Frm → Heap → Prop} : ∀ (l : List Oper) (i : Nat) (s : Frm) (H : Heap), wpF C fz K (cmpL ops.toList (fun _ => false) (fun _ => []) th l i) i s H → wpOpsN (ACall C) C ops th fz K l i s H
  | [], i, s, H, h => h
  | o :: rest, i, s0, H0, h => by
    simp only [cmpL, wpF] at h
    obtain ⟨s, H, hf, h⟩ := h
    simp only [wpOpsN]
    refine ⟨s, H, hf, ?_⟩
    have yes : (wpO (ACall C) C false (th.contains i) o.op s H fun v H' => wpF C fz K (cmpL ops.toList (fun _ => false) (fun _ => []) th rest (i + 1)) (i + 1) (setA s o.dst v) H') →
        wpOp (ACall C) C false (th.contains i) o s H fun v H' => wpOpsN (ACall C) C ops th fz K rest (i + 1) (setA s o.dst v) H' := by
      intro h
      rw [← wpO_eq] at h
      exact wpOp_mono' (ACall.up gC.up) (fun v H' h => wpF_ok gC rest (i + 1) _ _ h) h
    cases hg : o.guard with
    | none =>
      rw [hg] at h
      simp only [Option.map_none, grd] at h ⊢
      exact yes h
    | some p =>
      obtain ⟨j, want⟩ := p
      rw [hg] at h
      simp only [Option.map_some, lk_eq, Array.getElem?_toList] at h ⊢
      cases hd : (ops[j]?).bind (·.dst) with
      | none => rw [hd] at h; exact h.elim
      | some t =>
        rw [hd] at h
        simp only [grd] at h
        have no : wpF C fz K (cmpL ops.toList (fun _ => false) (fun _ => []) th rest (i + 1)) (i + 1) (setA s o.dst (.tup [])) H → guardA ops o s = some false → ∃ v H', (match guardA ops o s with
            | some b => if b then wpOp (ACall C) C false (th.contains i) o s H (fun v1 H1 => v1 = v ∧ H1 = H') else v = .tup [] ∧ H' = H
            | none => False) ∧ wpOpsN (ACall C) C ops th fz K rest (i + 1) (setA s o.dst v) H' := by
          intro h hb
          refine ⟨.tup [], H, ?_, wpF_ok gC rest (i + 1) _ _ h⟩
          rw [hb]
          simp
        split at h
        · rename_i c hc
          have hga : guardA ops o s = some (c == want) := by
            unfold guardA
            rw [hg]
            simp only [hd, hc]
          split at h
          · rename_i hcw
            obtain ⟨v, H', h1, h2⟩ := wpOp_exact (ACall.exact gC.up gC.exact) (yes h)
            refine ⟨v, H', ?_, h2⟩
            rw [hga, hcw]
            simp only [beq_self_eq_true, if_true]
            exact h1
          · rename_i hcw
            exact no h (by rw [hga]; simpa using hcw)
        · rename_i hc
          exact no h (by unfold guardA; rw [hg]; simp only [hd, hc])
        · exact h.elim
theorem w_regF (gC : Good C) {id : Nat} {ops : List Oper} {ls th : List Nat} {fz : List (Nat × List (List Nat × List Sh))} (h : wpF C fz (nrm K) (cmpL ops (fun _ => false) (fun _ => []) th ops 0) 0 s H) : wpC (ACall C) C (.region id ops.toArray false ls th fz) s H K :=
  wpF_ok gC (ops := ops.toArray) ops 0 s H h
theorem w_draw (gC : Good C) {id : Nat} {ops : List Oper} {ls th : List Nat} {fz : List (Nat × List (List Nat × List Sh))} (hd : drawOK ops.toArray ls = true) (h : wpG C (nrm K) (cmpL ops (fun i => !ls.contains i) (lateOf ops.toArray ls) th ops 0) s H) : wpC (ACall C) C (.region id ops.toArray true ls th fz) s H K := by
  have := wpG_ok gC (ops := ops.toArray) (q := fun i => !ls.contains i) (late := lateOf ops.toArray ls) (th := th) ops 0 s H h
  exact ⟨hd, this⟩
theorem lateOf_nil (ops : Array Oper) : lateOf ops [] = fun _ => [] := by funext i; rfl
theorem w_draw0 (gC : Good C) {id : Nat} {ops : List Oper} {th : List Nat} {fz : List (Nat × List (List Nat × List Sh))} (hd : drawOK ops.toArray [] = true) (h : wpG C (nrm K) (cmpL ops (fun _ => true) (fun _ => []) th ops 0) s H) : wpC (ACall C) C (.region id ops.toArray true [] th fz) s H K :=
  w_draw gC hd (by rw [lateOf_nil]; exact h)
end

/-- A call is shown on its body. -/
theorem acall_of {C : Ctx} (gC : Good C) {f : FuncId} {fn : Func} {c : Code} {res : List ResultVar} {n : Nat} (hc : C.code f = some fn) (hb : fn.body = some c) (hr : fn.results = res.toArray) (hn : fn.ntmps = n) {ys : List AV} {H : Heap} {P : AV → Heap → Prop}
    (h : ∀ K0, K0 = finK C.E res P → wpC (ACall C) C (annot (C.pol f) 0 c) (ys ++ List.replicate (n - ys.length) .undef) H K0) : ACall C f ys H P := by
  refine ACall.intro gC.up ?_
  unfold Body
  rw [hc]
  simp only [hb, hr, hn]
  exact h _ rfl
end Go.VS
