/-
  VS, part 41: the operations that only compute, as equations.
-/
import Derived.Test.YtkmcnmjjfgahpaaVtN
namespace Go.VS

def resV (v : Option AV) (H : Heap) (K : AV → Heap → Prop) : Prop := match v with | some v => K v H | none => False
def resO (r : Option (AV × Heap)) (K : AV → Heap → Prop) : Prop := match r with | some (v, H) => K v H | none => False

section
variable {C : Ctx} {q th : Bool} {s : Frm} {H : Heap} {K : AV → Heap → Prop}

theorem wpO_pure (op : Op) (h : quietOp op = true) : wpO (ACall C) C q th op s H K = resO (evalOp C.E op s H) K := by
  have : ∀ c, op ≠ .call c := by rintro c rfl; simp [quietOp] at h
  unfold wpO wpOp
  split
  · rename_i hop; exact absurd hop (this _)
  · rename_i hop; exact absurd hop (this _)
  · simp only [h, implies_true, true_and]; rfl
theorem wpO_wr (op : Op) (h : ∀ c, op ≠ .call c) : wpO (ACall C) C false th op s H K = resO (evalOp C.E op s H) K := by
  unfold wpO wpOp
  split
  · rename_i hop; exact absurd hop (h _)
  · rename_i hop; exact absurd hop (h _)
  · simp only [Bool.false_eq_true, false_implies, true_and]; rfl

theorem wpG_nil (K : Frm → Heap → Prop) : wpG C K [] s H = K s H := rfl
theorem wpG_cons (K : Frm → Heap → Prop) (d : Option Tmp) (op : Op) (q th : Bool) (rest : List GO) : wpG C K (⟨d, op, none, [], th, q⟩ :: rest) s H = wpO (ACall C) C q th op s H fun v H' => wpG C K rest (setA s d v) H' := rfl
theorem wpG_grd (K : Frm → Heap → Prop) (d : Option Tmp) (op : Op) (g' : Option Tmp × Bool) (q th : Bool) (rest : List GO) : wpG C K (⟨d, op, some g', [], th, q⟩ :: rest) s H = grd (some g') s (wpO (ACall C) C q th op s H fun v H' => wpG C K rest (setA s d v) H') (wpG C K rest (setA s d (.tup [])) H) := rfl
theorem wpG_late (K : Frm → Heap → Prop) (d : Option Tmp) (op : Op) (g : Option (Option Tmp × Bool)) (q th : Bool) (rest : List GO) (l : Op × Option Tmp) (ls : List (Op × Option Tmp)) : wpG C K (⟨d, op, g, l :: ls, th, q⟩ :: rest) s H = grd g s (wpO (ACall C) C q th op s H fun v H' => lateG C (setA s d v) H' (wpG C K rest (setA s d v) H') (l :: ls)) (lateG C (setA s d (.tup [])) H (wpG C K rest (setA s d (.tup [])) H) (l :: ls)) := rfl

def grdV (v : AV) (w : Bool) (a b : Prop) : Prop := match v with | .bool c => if c = w then a else b | .tup _ => b | _ => False
theorem grd_n (a b : Prop) : grd none s a b = a := rfl
theorem grd_s (t : Tmp) (w : Bool) (a b : Prop) : grd (some (some t, w)) s a b = grdV (s.getD t .undef) w a b := rfl
theorem grdV_tt (a b : Prop) : grdV (.bool true) true a b = a := by simp [grdV]
theorem grdV_ff (a b : Prop) : grdV (.bool false) false a b = a := by simp [grdV]
theorem grdV_tf (a b : Prop) : grdV (.bool true) false a b = b := by simp [grdV]
theorem grdV_ft (a b : Prop) : grdV (.bool false) true a b = b := by simp [grdV]
theorem grdV_tup (l : List AV) (w : Bool) (a b : Prop) : grdV (.tup l) w a b = b := rfl
/-- A guard, with what the function's own text says of it. -/
theorem w_grd {α : Type} {c w : Bool} {x y : Option α} {r : α} {a b : Prop} (h : (bif c then x else y) = some r) (ht : c = true → x = some r → grdV (.bool true) w a b) (hf : c = false → y = some r → grdV (.bool false) w a b) : grdV (.bool c) w a b := by
  cases c with
  | true => exact ht rfl h
  | false => exact hf rfl h

theorem late_nil (K : Prop) : lateG C s H K [] = K := rfl
theorem late_cons (K : Prop) (op : Op) (t : Tmp) (js : List (Op × Option Tmp)) : lateG C s H K ((op, some t) :: js) = (evalOp C.E op s H = some (s.getD t .undef, H) ∧ lateG C s H K js) := by
  simp [lateG]

theorem setA_s (t : Tmp) (v : AV) : setA s (some t) v = s.set t v := rfl
theorem setA_n (v : AV) : setA s none v = s := rfl
theorem ev_t (t : Tmp) : ev s (.tmp t) = s.getD t .undef := rfl
theorem ev_c (v : Value) : ev s (.const v) = ofValue v := rfl
theorem ev_f (f : FuncId) : ev s (.func f) = .fn f [] := rfl
theorem ofV_i (k : IntKind) (n : Int) : ofValue (.int k n) = .int k n := rfl
theorem ofV_b (b : Bool) : ofValue (.bool b) = .bool b := rfl
theorem ofV_n : ofValue (.slice none 0 0) = .nil := rfl
theorem ofV_e : ofValue .nilIface = .errv false := rfl
theorem ofV_p : ofValue (.pointer none) = .nilp := rfl
theorem ofV_s (b : ByteArray) : ofValue (.string b) = .str b.data.toList := rfl

theorem resV_s (v : AV) : resV (some v) H K = K v H := rfl
theorem o_move (x : Operand) : wpO (ACall C) C q th (.move x) s H K = K (ev s x) H := by rw [wpO_pure _ rfl]; rfl
theorem o_assign (x : Operand) : wpO (ACall C) C q th (.assign x) s H K = K (ev s x) H := by rw [wpO_pure _ rfl]; rfl

/-! Arithmetic. -/
theorem o_binc (b : BinOp) (t : TypeId) (x : Operand) (c : Value) (w : TypeId) : wpO (ACall C) C q th (.binOp b t x (.const c) w) s H K = resV (binA C.E b t (ev s x) (ofValue c)) H K := by
  rw [wpO_pure _ rfl]
  simp only [evalOp, show ev s (.const c) = ofValue c from rfl]
  generalize binA C.E b t (ev s x) (ofValue c) = r
  cases r <;> rfl
def binK (E : TEnv) (b : BinOp) (t : TypeId) (x y : AV) (H : Heap) (K : AV → Heap → Prop) : Prop := match y with | .errv _ => False | y => resV (binA E b t x y) H K
theorem o_bint (b : BinOp) (t : TypeId) (x : Operand) (n : Tmp) (w : TypeId) : wpO (ACall C) C q th (.binOp b t x (.tmp n) w) s H K = binK C.E b t (ev s x) (ev s (.tmp n)) H K := by
  rw [wpO_pure _ rfl]
  simp only [evalOp]
  generalize ev s (.tmp n) = y
  unfold binK
  cases y
  all_goals (first | rfl | (simp only; generalize binA C.E b t (ev s x) _ = r; cases r <;> rfl))
theorem binK_i (E : TEnv) (b : BinOp) (t : TypeId) (x : AV) (k : IntKind) (n : Int) : binK E b t x (.int k n) H K = resV (binA E b t x (.int k n)) H K := rfl
theorem binK_b (E : TEnv) (b : BinOp) (t : TypeId) (x : AV) (n : Bool) : binK E b t x (.bool n) H K = resV (binA E b t x (.bool n)) H K := rfl
theorem binK_s (E : TEnv) (b : BinOp) (t : TypeId) (x : AV) (n : List UInt8) : binK E b t x (.str n) H K = resV (binA E b t x (.str n)) H K := rfl
theorem binK_a (E : TEnv) (b : BinOp) (t : TypeId) (x : AV) (n : List AV) : binK E b t x (.agg n) H K = resV (binA E b t x (.agg n)) H K := rfl
variable (E : TEnv) (t : TypeId) (k : IntKind) (a b : Int) (c d : Bool) (u v : List UInt8)
theorem b_add : binA E .add t (.int k a) (.int k b) = some (.int k (k.wrap (a + b))) := by simp [binA, intBin]
theorem b_sub : binA E .sub t (.int k a) (.int k b) = some (.int k (k.wrap (a - b))) := by simp [binA, intBin]
theorem b_mul : binA E .mul t (.int k a) (.int k b) = some (.int k (k.wrap (a * b))) := by simp [binA, intBin]
theorem b_and : binA E .and t (.int k a) (.int k b) = some (.int k (k.wrap (BitVec.ofInt k.bits a &&& BitVec.ofInt k.bits b).toNat)) := by simp [binA, intBin]
theorem b_or : binA E .or t (.int k a) (.int k b) = some (.int k (k.wrap (BitVec.ofInt k.bits a ||| BitVec.ofInt k.bits b).toNat)) := by simp [binA, intBin]
theorem b_xor : binA E .xor t (.int k a) (.int k b) = some (.int k (k.wrap (BitVec.ofInt k.bits a ^^^ BitVec.ofInt k.bits b).toNat)) := by simp [binA, intBin]
theorem b_eql : binA E .eql t (.int k a) (.int k b) = some (.bool (a == b)) := by simp [binA, intBin]
theorem b_neq : binA E .neq t (.int k a) (.int k b) = some (.bool (a != b)) := by simp [binA, intBin]
theorem b_lss : binA E .lss t (.int k a) (.int k b) = some (.bool (decide (a < b))) := by simp [binA, intBin]
theorem b_leq : binA E .leq t (.int k a) (.int k b) = some (.bool (decide (a ≤ b))) := by simp [binA, intBin]
theorem b_gtr : binA E .gtr t (.int k a) (.int k b) = some (.bool (decide (b < a))) := by simp [binA, intBin]
theorem b_geq : binA E .geq t (.int k a) (.int k b) = some (.bool (decide (b ≤ a))) := by simp [binA, intBin]
/-- Division, where it is one. -/
def dv (k : IntKind) (a b : Int) : Option Int := if b = 0 then none else some (k.wrap (a.tdiv b))
def md (a b : Int) : Option Int := if b = 0 then none else some (a.tmod b)
theorem b_quo : binA E .quo t (.int k a) (.int k b) = (dv k a b).map (.int k) := by simp [binA, intBin, dv]; split <;> rfl
theorem b_rem : binA E .rem t (.int k a) (.int k b) = (md a b).map (.int k) := by simp [binA, intBin, md]; split <;> rfl
theorem dv_lit (h : (b == 0) = false) : dv k a b = some (k.wrap (a.tdiv b)) := by simp at h; simp [dv, h]
theorem md_lit (h : (b == 0) = false) : md a b = some (a.tmod b) := by simp at h; simp [md, h]
/-- Shifts, where they are ones. -/
def sl (k : IntKind) (a b : Int) : Option Int := if b < 0 then none else some (k.wrap (a * 2 ^ (min b.toNat k.bits)))
def sr (k : IntKind) (a b : Int) : Option Int := if b < 0 then none else some (a.fdiv (2 ^ (min b.toNat k.bits)))
theorem b_shl (j : IntKind) : binA E .shl t (.int k a) (.int j b) = (sl k a b).map (.int k) := by simp [binA, sl]; split <;> rfl
theorem b_shr (j : IntKind) : binA E .shr t (.int k a) (.int j b) = (sr k a b).map (.int k) := by simp [binA, sr]; split <;> rfl
theorem b_seql : binA E .eql t (.str u) (.str v) = some (.bool (u == v)) := by simp [binA, strBin]
theorem b_sneq : binA E .neq t (.str u) (.str v) = some (.bool (!(u == v))) := by simp [binA, strBin]
def cat (u v : List UInt8) : Option (List UInt8) := if u.length + v.length ≤ 2 ^ 45 then some (u ++ v) else none
theorem b_sadd : binA E .add t (.str u) (.str v) = (cat u v).map .str := by simp only [binA, strBin, cat]; split <;> rfl
theorem b_beql {ti : TI} (h : E t = some ti) (hu : ti.und = .bl) : binA E .eql t (.bool c) (.bool d) = some (.bool (c == d)) := by simp [binA, h, hu]
theorem b_bneq {ti : TI} (h : E t = some ti) (hu : ti.und = .bl) : binA E .neq t (.bool c) (.bool d) = some (.bool (!(c == d))) := by simp [binA, h, hu]
def aggEq (ti : Option TI) (r : Option Bool) (neg : Bool) : Option AV := match ti with | some ti => if ti.agg then (match r with | some b => some (.bool (if neg then !b else b)) | none => none) else none | none => none
theorem b_aeql (xs ys : List AV) : binA E .eql t (.agg xs) (.agg ys) = aggEq (E t) (eqT E 8 t xs ys) false := by
  simp only [binA, aggEq]; cases E t <;> rfl
theorem b_aneq (xs ys : List AV) : binA E .neq t (.agg xs) (.agg ys) = aggEq (E t) (eqT E 8 t xs ys) true := by
  simp only [binA, aggEq]; cases E t <;> rfl
def nilEq (ti : Option TI) (x y : AV) (neg : Bool) : Option AV := match ti with | some ti => (match isNil ti.und x y with | some b => some (.bool (if neg then !b else b)) | none => none) | none => none
theorem b_nn : binA E .eql t .nil .nil = nilEq (E t) .nil .nil false := by simp only [binA, nilEq]; cases E t <;> rfl
theorem b_nn' : binA E .neq t .nil .nil = nilEq (E t) .nil .nil true := by simp only [binA, nilEq]; cases E t <;> rfl
theorem b_en (x : Bool) : binA E .eql t (.errv x) (.errv false) = nilEq (E t) (.errv x) (.errv false) false := by simp only [binA, nilEq]; cases E t <;> rfl
theorem b_en' (x : Bool) : binA E .neq t (.errv x) (.errv false) = nilEq (E t) (.errv x) (.errv false) true := by simp only [binA, nilEq]; cases E t <;> rfl
/-- A number that may not be there. -/
theorem w_num {α : Type} {o : Option Int} {f : Int → Option α} {r : α} (h : o.bind f = some r) (hk : ∀ n, o = some n → f n = some r → K (.int k n) H) : resV (o.map (.int k)) H K := by
  cases o with
  | none => simp at h
  | some n => exact hk n rfl h
theorem w_cat {α : Type} {o : Option (List UInt8)} {f : List UInt8 → Option α} {r : α} (h : o.bind f = some r) (hk : ∀ n, o = some n → f n = some r → K (.str n) H) : resV (o.map .str) H K := by
  cases o with
  | none => simp at h
  | some n => exact hk n rfl h

theorem o_un (op : UnOp) (x : Operand) : wpO (ACall C) C q th (.unOp op t x) s H K = resV (unA op (ev s x)) H K := by
  rw [wpO_pure _ rfl]; simp only [evalOp]; generalize unA op (ev s x) = r; cases r <;> rfl
theorem u_not : unA .not (.bool c) = some (.bool !c) := rfl
theorem u_neg : unA .neg (.int k a) = some (.int k (k.wrap (0 - a))) := rfl
def pickK (c : AV) (x y : AV) (H : Heap) (K : AV → Heap → Prop) : Prop := match c with | .bool t => K (if t then x else y) H | _ => False
theorem o_pick (x y z : Operand) : wpO (ACall C) C q th (.pick x y z) s H K = pickK (ev s x) (ev s y) (ev s z) H K := by
  rw [wpO_pure _ rfl]; simp only [evalOp]; generalize ev s x = r; cases r <;> rfl
theorem pick_t (x y : AV) : pickK (.bool true) x y H K = K x H := rfl
theorem pick_f (x y : AV) : pickK (.bool false) x y H K = K y H := rfl
theorem pick_b (p : Bool) : pickK (.bool p) (.bool c) (.bool d) H K = K (.bool (if p then c else d)) H := by cases p <;> rfl
def extK (x : AV) (i : Nat) (H : Heap) (K : AV → Heap → Prop) : Prop := match x with | .tup vs => resV vs[i]? H K | _ => False
theorem o_ext (x : Operand) (i : Nat) : wpO (ACall C) C q th (.extract x i) s H K = extK (ev s x) i H K := by
  rw [wpO_pure _ rfl]; simp only [evalOp, extK]; generalize ev s x = r; cases r <;> first | rfl | (simp only; rename_i vs; cases vs[i]? <;> rfl)
theorem ext_t (vs : List AV) (i : Nat) : extK (.tup vs) i H K = resV vs[i]? H K := rfl

/-! Memory that is read. -/
def loadC (ti : TI) (x : Option AV) (off : Nat) (H : Heap) (K : AV → Heap → Prop) : Prop := match x with | some y => resV (rdAt ti y off) H K | none => False
def loadB (ti : TI) (b : Option Blk) (idx off : Nat) (H : Heap) (K : AV → Heap → Prop) : Prop := match b with | some b => loadC ti b.el[idx]? off H K | none => False
def loadK (ti : Option TI) (x : AV) (H : Heap) (K : AV → Heap → Prop) : Prop :=
  match ti with
  | some ti => match x with
    | .fe y off => resV (rdAt ti y off) H K
    | .ptr id ver idx off => loadB ti (H.blk id ver) idx off H K
    | _ => False
  | none => False
theorem o_load (x : Operand) : wpO (ACall C) C q th (.load t x) s H K = loadK (C.E t) (ev s x) H K := by
  rw [wpO_pure _ rfl]
  simp only [evalOp, loadK]
  cases C.E t with
  | none => rfl
  | some ti =>
    simp only
    generalize ev s x = r
    cases r <;> first | rfl | skip
    · rename_i id ver idx off
      simp only [loadB]
      cases H.blk id ver with
      | none => rfl
      | some b =>
        simp only [loadC]
        cases b.el[idx]? with
        | none => rfl
        | some y => simp only; generalize rdAt ti y off = z; cases z <;> rfl
    · rename_i y off
      simp only; generalize rdAt ti y off = z; cases z <;> rfl
theorem load_fe (ti : TI) (y : AV) (off : Nat) : loadK (some ti) (.fe y off) H K = resV (rdAt ti y off) H K := rfl
theorem load_p (ti : TI) (id ver idx off : Nat) : loadK (some ti) (.ptr id ver idx off) H K = loadB ti (H.blk id ver) idx off H K := rfl
theorem loadB_s (ti : TI) (b : Blk) (idx off : Nat) : loadB ti (some b) idx off H K = loadC ti b.el[idx]? off H K := rfl
theorem loadC_s (ti : TI) (y : AV) (off : Nat) : loadC ti (some y) off H K = resV (rdAt ti y off) H K := rfl

/-- A field's place and type. -/
def fldT (E : TEnv) (t : TypeId) (f : Nat) : Option (Nat × TI) := match E t with
  | some ti => match ti.und with
    | .st fs => match fs[f]? with
      | some (o, ft) => match E ft with
        | some tf => some (o, tf)
        | none => none
      | none => none
    | _ => none
  | none => none
def faK (p : Option (Nat × TI)) (x : AV) (H : Heap) (K : AV → Heap → Prop) : Prop := match p with
  | some (o, tf) => if tf.sz = 0 then False else match x with
    | .ptr id ver idx off => match H.blk id ver with
      | some _ => K (.ptr id ver idx (off + o)) H
      | none => False
    | .fe y off => K (.fe y (off + o)) H
    | _ => False
  | none => False
theorem o_fa (x : Operand) (f : Nat) : wpO (ACall C) C q th (.fieldAddr t x f) s H K = faK (fldT C.E t f) (ev s x) H K := by
  rw [wpO_pure _ rfl]
  simp only [evalOp, faK, fldT]
  cases C.E t with
  | none => rfl
  | some ti =>
    simp only
    cases ti.und <;> try rfl
    rename_i fs
    simp only
    cases fs[f]? with
    | none => rfl
    | some p =>
      obtain ⟨o, ft⟩ := p
      simp only
      cases C.E ft with
      | none => rfl
      | some tf =>
        simp only
        split
        · rfl
        · generalize ev s x = r
          cases r <;> try rfl
          rename_i id ver idx off
          simp only
          cases H.blk id ver <;> rfl
theorem fa_fe (o : Nat) (tf : TI) (h : (tf.sz == 0) = false) (y : AV) (off : Nat) : faK (some (o, tf)) (.fe y off) H K = K (.fe y (off + o)) H := by
  simp at h; simp [faK, h]
theorem fa_p (o : Nat) (tf : TI) (h : (tf.sz == 0) = false) (id ver idx off : Nat) : faK (some (o, tf)) (.ptr id ver idx off) H K = (match H.blk id ver with | some _ => K (.ptr id ver idx (off + o)) H | none => False) := by
  simp at h; simp [faK, h]
def fieldK (p : Option (Nat × TI)) (x : AV) (H : Heap) (K : AV → Heap → Prop) : Prop := match x with
  | .agg cs => (match p with | some (o, tf) => resV (rdAt tf (.agg cs) o) H K | none => False)
  | _ => False
theorem o_field (x : Operand) (f : Nat) : wpO (ACall C) C q th (.field t x f) s H K = fieldK (fldT C.E t f) (ev s x) H K := by
  rw [wpO_pure _ rfl]
  simp only [evalOp, fieldK, fldT]
  cases C.E t with
  | none => simp only; generalize ev s x = r; cases r <;> rfl
  | some ti =>
    simp only
    generalize ev s x = r
    cases r
    case agg cs =>
      simp only
      cases ti.und <;> try rfl
      rename_i fs
      simp only
      cases fs[f]? with
      | none => rfl
      | some p =>
        obtain ⟨o, ft⟩ := p
        simp only
        cases C.E ft with
        | none => rfl
        | some tf => simp only; generalize rdAt tf (.agg cs) o = z; cases z <;> rfl
    all_goals rfl
theorem field_a (o : Nat) (tf : TI) (cs : List AV) : fieldK (some (o, tf)) (.agg cs) H K = resV (rdAt tf (.agg cs) o) H K := rfl

/-! Lengths, the least and the greatest. -/
theorem o_len (x : Operand) : wpO (ACall C) C q th (.call { callee := .builtin .len, args := #[x], argTypes := #[t] }) s H K = resO (evalBuiltin C.E .len #[t] [ev s x] H) K := by
  unfold wpO wpOp
  simp only [quietBuiltin, implies_true, true_and]; rfl
def lenK (ti : Option TI) (x : AV) (n : Option Nat) (H : Heap) (K : AV → Heap → Prop) : Prop := match ti, n with
  | some ti, some n => match ti.und, x with
    | .str, .str _ => K (.int .i64 n) H
    | .sl _, .str _ => False
    | .sl _, _ => K (.int .i64 n) H
    | _, _ => False
  | _, _ => False
theorem e_len (E : TEnv) (t : TypeId) (x : AV) : resO (evalBuiltin E .len #[t] [x] H) K = lenK (E t) x (lenOf H x) H K := by
  simp only [evalBuiltin, lenK]
  have : (#[t] : Array TypeId)[0]?.bind E = E t := rfl
  rw [this]
  cases E t with
  | none => rfl
  | some ti =>
    obtain ⟨sz, agg, z, by_, und, eq⟩ := ti
    cases lenOf H x with
    | none => rfl
    | some n => cases und <;> cases x <;> rfl
theorem o_min (xs : Array Operand) (tys : Array TypeId) : wpO (ACall C) C q th (.call { callee := .builtin .min, args := xs, argTypes := tys }) s H K = resV (minA (xs.toList.map (ev s))) H K := by
  unfold wpO wpOp
  simp only [quietBuiltin, implies_true, true_and, evalBuiltin]
  generalize minA _ = r; cases r <;> rfl
theorem o_max (xs : Array Operand) (tys : Array TypeId) : wpO (ACall C) C q th (.call { callee := .builtin .max, args := xs, argTypes := tys }) s H K = resV (maxA (xs.toList.map (ev s))) H K := by
  unfold wpO wpOp
  simp only [quietBuiltin, implies_true, true_and, evalBuiltin]
  generalize maxA _ = r; cases r <;> rfl
theorem min2 : minA [.int k a, .int k b] = some (.int k (if b < a then b else a)) := rfl
theorem max2 : maxA [.int k a, .int k b] = some (.int k (if b > a then b else a)) := rfl
end
end Go.VS
