/-
  VS, part 2: deep values at a call's boundary, the code's semantics, calls.
-/
import Derived.Test.YtkmcnmjjfgahpaaVsA
namespace Go.VS

/-- The shape of a cell: plain, a slice, a pointer to a variable. -/
inductive Sh where
  | sc
  | sl (es : List Sh)
  | pt (es : List Sh)
  deriving Inhabited

def mapH (f : AV → Heap → Option (AV × Heap)) : List AV → Heap → Option (List AV × Heap)
  | [], H => some ([], H)
  | x :: xs, H => match f x H with
    | some (y, H1) => match mapH f xs H1 with
      | some (ys, H2) => some (y :: ys, H2)
      | none => none
    | none => none

def plainA : AV → Bool
  | .undef | .int .. | .bool _ | .str _ | .errv _ | .nilp => true
  | _ => false

mutual
/-- A value taken out of the heap, its slices and variables with it. -/
def takeT : Sh → AV → Heap → Option (AV × Heap)
  | .sc, v, H => if plainA v then some (v, H) else none
  | .sl es, v, H => match v with
    | .nil | .e0 => some (.own es.length [], H)
    | .fz xs => some (.fz xs, H)
    | .ref id ver off len => match H.blk id ver with
      | some b =>
        if b.sz = es.length ∧ off + len ≤ b.el.length ∧ (b.fix = false ∨ 0 < len) then
          match mapH (takeE es) (subL b.el off len) (H.del id) with
          | some (ys, H') => some (.own es.length ys, H')
          | none => none
        else none
      | none => none
    | _ => none
  | .pt es, v, H => match v with
    | .fe x o => some (.fe x o, H)
    | .ptr id ver 0 0 => match H.blk id ver with
      | some ⟨_, sz, _, [x]⟩ =>
        match takeE es x (H.del id) with
        | some (y, H') => some (.optr sz y, H')
        | none => none
      | _ => none
    | _ => none
/-- An element (or a whole value of some cells). -/
def takeE : List Sh → AV → Heap → Option (AV × Heap)
  | es, .agg cs, H => match takeC es cs H with
    | some (cs', H') => some (.agg cs', H')
    | none => none
  | [e], v, H => takeT e v H
  | _, _, _ => none
def takeC : List Sh → List AV → Heap → Option (List AV × Heap)
  | [], [], H => some ([], H)
  | e :: es, v :: vs, H => match takeT e v H with
    | some (y, H1) => match takeC es vs H1 with
      | some (ys, H2) => some (y :: ys, H2)
      | none => none
    | none => none
  | _, _, _ => none
end

/-- What a value reads as, the slices with it; nothing is taken. -/
def snapV : Nat → Heap → AV → Option AV
  | 0, _, _ => none
  | n + 1, H, v => match v with
    | .nil | .e0 => some (.fz [])
    | .ref id ver off len => match H.blk id ver with
      | some b => if off + len ≤ b.el.length then ((subL b.el off len).mapM (snapV n H)).map .fz else none
      | none => none
    | .ptr id ver idx off => match H.blk id ver with
      | some b => match b.el[idx]? with
        | some x => (snapV n H x).map fun y => .fe y off
        | none => none
      | none => none
    | .agg xs => (xs.mapM (snapV n H)).map .agg
    | .fn f caps => (caps.mapM (snapV n H)).map (.fn f)
    | .own .. | .optr .. | .tup _ => none
    | v => some v

mutual
/-- A deep value laid into a heap. -/
def thawV : AV → Heap → AV × Heap
  | .own sz xs, H => let (ys, H1) := thawL xs H; (.ref H1.bs.length H1.st 0 ys.length, H1.new sz false ys)
  | .optr sz x, H => let (y, H1) := thawV x H; (.ptr H1.bs.length H1.st 0 0, H1.new sz false [y])
  | .agg xs, H => let (ys, H1) := thawL xs H; (.agg ys, H1)
  | .tup xs, H => let (ys, H1) := thawL xs H; (.tup ys, H1)
  | v, H => (v, H)
def thawL : List AV → Heap → List AV × Heap
  | [], H => ([], H)
  | x :: xs, H => let (y, H1) := thawV x H; let (ys, H2) := thawL xs H1; (y :: ys, H2)
end

mutual
/-- A deep value that nobody will write. -/
def frzV : AV → AV
  | .own _ xs => .fz (frzL xs)
  | .optr _ x => .fe (frzV x) 0
  | .agg xs => .agg (frzL xs)
  | .tup xs => .tup (frzL xs)
  | v => v
def frzL : List AV → List AV
  | [] => []
  | x :: xs => frzV x :: frzL xs
end

mutual
/-- Is there nothing in it that may be another's? -/
def noFz : AV → Bool
  | .fz _ | .fe .. | .fn .. => false
  | .own _ xs => noFzL xs
  | .optr _ x => noFz x
  | .agg xs => noFzL xs
  | .tup xs => noFzL xs
  | _ => true
def noFzL : List AV → Bool
  | [] => true
  | x :: xs => noFz x && noFzL xs
end

inductive Mode where
  | val      -- read only
  | mov      -- handed over
  | io       -- handed over, and back
  deriving DecidableEq, Inhabited

structure LSpec where
  keep : List Nat := []
  trim : Bool := false
  deriving Inhabited

/-- What is chosen for a function: how its arguments are handed over, which slots stay at a loop's head. None of it is trusted. -/
structure FPol where
  modes : List Mode := []
  psh : List (List Sh) := []
  rsh : List (List Sh) := []
  loops : List (Nat × LSpec) := []
  blocks : List (Nat × List Nat) := []
  regs : List (Nat × List Nat × List Nat) := []
  frz : List (Nat × List (List Nat × List Sh) × Option (List Nat)) := []
  fz : List (Nat × List (Nat × List (List Nat × List Sh))) := []
  cnds : List (Nat × List Nat) := []
  deriving Inhabited

inductive AC where
  | skip
  | ret
  | exit (id : Nat)
  | seq (a b : AC)
  | cond (c : Operand) (a b : AC)
  | block (id : Nat) (keep : Option (List Nat)) (a : AC)
  | loop (sp : LSpec) (a : AC)
  | region (id : Nat) (ops : Array Oper) (draw : Bool) (louds : List Nat) (thaw : List Nat) (fz : List (Nat × List (List Nat × List Sh)))
  | frz (l : List (List Nat × List Sh)) (kp : Option (List Nat))
  | bad
  deriving Inhabited

def regOf (r : Option (List Nat × List Nat)) (fz : List (Nat × List (List Nat × List Sh))) (id : Nat) (ops : Array Oper) (draw : Bool) : AC :=
  match r with
  | some (n, th) => .region id ops draw n th fz
  | none => .region id ops draw [] [] fz

/-- What is kept for good from here on. -/
def withFrz (l : Option (List (List Nat × List Sh) × Option (List Nat))) (c : AC) : AC :=
  match l with
  | some (l, kp) => .seq c (.frz l kp)
  | none => c
/-- Which slots stay behind a condition. -/
def withKill (l : Option (List Nat)) (c : AC) : AC :=
  match l with
  | some kp => .seq c (.frz [] (some kp))
  | none => c
def cndTmp : Operand → Nat
  | .tmp t => t
  | _ => 0

def annot (p : FPol) (cur : Nat) : Code → AC
  | .skip => .skip
  | .ret => .ret
  | .exit id => .exit id
  | .seq a b => .seq (annot p cur a) (annot p cur b)
  | .cond c a b => withKill (p.cnds.lookup (cndTmp c)) (.cond c (annot p cur a) (annot p cur b))
  | .block id a => .block id (p.blocks.lookup id) (annot p id a)
  | .loop a => .loop ((p.loops.lookup cur).getD {}) (annot p cur a)
  | .region id ops draw => withFrz (p.frz.lookup id) (regOf (p.regs.lookup id) ((p.fz.lookup id).getD []) id ops draw)
  | _ => .bad

/-- A call, from a heap on, may be asked for what holds behind it. -/
abbrev CallRel := FuncId → List AV → Heap → (AV → Heap → Prop) → Prop

structure Ctx where
  E : TEnv
  pol : FuncId → FPol
  code : FuncId → Option Func
  ext : CallRel

/-- An element's cells, of what is handed over and back. -/
def elSh : List Sh → List Sh
  | [.sl es] => es
  | [.pt es] => es
  | _ => []

/-- What is handed over and back, in the caller's heap. -/
def rootId : AV → Option (Nat × Nat)
  | .ref id ver _ len => if len = 0 then none else some (id, ver)
  | .ptr id ver _ _ => some (id, ver)
  | _ => none

/-- The same in the callee's. -/
def rootK : AV → Option (Nat × Nat)
  | .ref id ver _ _ => some (id, ver)
  | .ptr id ver _ _ => some (id, ver)
  | _ => none

def prepM (m : Mode) (sh : List Sh) (v : AV) (H : Heap) : Option (AV × Heap) :=
  match m with
  | .val => some (v, H)
  | .mov => takeE sh v H
  | .io => match v with
    | .nil => some (.own (elSh sh).length [], H)
    | .e0 => some (.own (elSh sh).length [], H)
    | .ref id ver off len => match H.blk id ver with
      | some b => if len = 0 then some (.own (elSh sh).length [], H) else if off = 0 ∧ len = b.el.length then takeE sh v H else none
      | none => none
    | .ptr .. => takeE sh v H
    | _ => none

/-- Arguments in the callee's eyes: deep values, the heap that is left, is anything lent. Handed over first, lent then. -/
def prepMove : List Mode → List (List Sh) → List AV → Heap → Option (List AV × Heap)
  | m :: ms, psh, v :: vs, H =>
    match prepM m (psh.headD []) v H with
    | some (y, H1) => match prepMove ms psh.tail vs H1 with
      | some (ys, H2) => some (y :: ys, H2)
      | none => none
    | none => none
  | [], _, vs, H => some (vs, H)
  | _, _, [], H => some ([], H)

mutual
/-- Does it lead to memory that the caller may write? -/
def lends : AV → Bool
  | .ref .. | .ptr .. | .own .. | .optr .. => true
  | .agg xs | .tup xs | .fn _ xs => lendsL xs
  | _ => false
def lendsL : List AV → Bool
  | [] => false
  | x :: xs => lends x || lendsL xs
end

def prepVal : List Mode → List AV → Heap → Option (List AV × Bool)
  | _, [], _ => some ([], false)
  | m :: ms, v :: vs, H => match m with
    | .val => match snapV 8 H v with
      | some y => match prepVal ms vs H with
        | some (ys, b) => some (y :: ys, lends v || b)
        | none => none
      | none => none
    | _ => match prepVal ms vs H with
      | some (ys, b) => some (v :: ys, b)
      | none => none
  | [], v :: vs, H => match snapV 8 H v with
    | some y => match prepVal [] vs H with
      | some (ys, b) => some (y :: ys, lends v || b)
      | none => none
    | none => none

/-- What was handed over, and back, is in its place again, its content open. -/
def putJunk (H0 : Heap) : List Mode → List AV → Heap → Heap
  | .io :: ms, v :: vs, H => putJunk H0 ms vs (match rootId v with
    | some (id, ver) => match H0.blk id ver with
      | some b => H.upd id { b with el := b.el.map fun _ => .agg (List.replicate b.sz .undef) }
      | none => H
    | none => H)
  | _ :: ms, _ :: vs, H => putJunk H0 ms vs H
  | _, _, H => H

/-- Its content comes. -/
def putEls : List Mode → List AV → List AV → Heap → Option Heap
  | .io :: ms, v :: vs, o :: outs, H => match rootId v with
    | some (id, ver) => match o, H.blk id ver with
      | .own _ xs, some b =>
        if xs.length = b.el.length then
          putEls ms vs outs ((thawL xs H).2.upd id { b with el := (thawL xs H).1 })
        else none
      | _, _ => none
    | none => putEls ms vs outs H
  | .io :: _, _ :: _, [], _ => none
  | _ :: ms, _ :: vs, outs, H => putEls ms vs outs H
  | _, _, _, H => some H

def takeVals : List (List Sh) → List AV → Heap → Option (List AV × Heap)
  | _, [], H => some ([], H)
  | sh, v :: vs, H => match takeE (sh.headD []) v H with
    | some (y, H1) => match takeVals sh.tail vs H1 with
      | some (ys, H2) => some (y :: ys, H2)
      | none => none
    | none => none

def oneOrTup : List AV → AV
  | [v] => v
  | vs => .tup vs

/-- A call that only reads, shown on deep values: what it gives hangs on nothing else. (For a region whose order is open.) -/
def wpCallQ (X : CallRel) (C : Ctx) (f : FuncId) (args : List AV) (thaw : Bool) (H : Heap) (K : AV → Heap → Prop) : Prop :=
  match prepVal [] args H with
  | none => False
  | some (ys, lent) => ∃ y, X f ys ⟨0, []⟩ (fun v L => ∃ rs zs L2, v = oneOrTup rs ∧ takeVals (C.pol f).rsh rs L = some (zs, L2) ∧ y = oneOrTup zs) ∧ (lent = false ∨ noFz y = true) ∧
      if thaw || lent then K (thawV y H).1 (thawV y H).2 else K (frzV y) H

/-- Does an operation only read, or make memory? (For a region whose order is open.) -/
def quietOp : Op → Bool
  | .load .. | .alloc _ | .box .. | .buildSlice .. | .makeSlice .. | .move _ | .assign _ | .pick .. | .binOp .. | .unOp .. | .extract .. | .nilCheck _ | .field ..
  | .fieldAddr .. | .index .. | .indexAddr .. | .build .. | .makeFunc .. | .slice .. | .convert .. => true
  | _ => false
def quietBuiltin (b : Builtin) (args : List AV) : Bool :=
  match b, args with
  | .len, _ | .min, _ | .max, _ => true
  | .append, .nil :: _ | .append, .e0 :: _ => true
  | _, _ => false

/-- One operation. 'q': it has to be quiet. -/
def wpOp (X : CallRel) (C : Ctx) (q thaw : Bool) (o : Oper) (s : Frm) (H : Heap) (K : AV → Heap → Prop) : Prop :=
  match o.op with
  | .call { callee := .builtin b, args, argTypes } =>
    (q = true → quietBuiltin b (args.toList.map (ev s)) = true) ∧
    match evalBuiltin C.E b argTypes (args.toList.map (ev s)) H with
    | some (v, H') => K v H'
    | none => False
  | .call { callee := .value f, args, .. } => match ev s f with
    | .fn g caps => if q then wpCallQ X C g (args.toList.map (ev s) ++ caps) thaw H K else X g (args.toList.map (ev s) ++ caps) H K ∨ wpCallQ X C g (args.toList.map (ev s) ++ caps) thaw H K
    | _ => False
  | op => (q = true → quietOp op = true) ∧ match evalOp C.E op s H with
    | some (v, H') => K v H'
    | none => False

def setA (s : Frm) (d : Option Tmp) (v : AV) : Frm :=
  match d with
  | some t => s.set t v
  | none => s

/-- Is the operation's guard met? (None: it can't be told.) -/
def guardA (ops : Array Oper) (o : Oper) (s : Frm) : Option Bool :=
  match o.guard with
  | none => some true
  | some (j, want) => match (ops[j]?).bind (·.dst) with
    | some t => match s.getD t .undef with
      | .bool b => some (b == want)
      | .tup _ => some false
      | _ => none
    | none => none

/-- What is done late does the same. -/
def lateChk (C : Ctx) (ops : Array Oper) (s : Frm) (H : Heap) (j : Nat) : Prop :=
  match ops[j]? with
  | some o => match o.dst with
    | some d => evalOp C.E o.op s H = some (s.getD d .undef, H)
    | none => False
  | none => False

def lateAll (C : Ctx) (ops : Array Oper) (s : Frm) (H : Heap) (K : Prop) : List Nat → Prop
  | [] => K
  | j :: js => lateChk C ops s H j ∧ lateAll C ops s H K js

/-- A region's operations, in the text's order. 'q': which have to be quiet; 'late': what may come later than an operation that writes. -/
def wpOpsA (X : CallRel) (C : Ctx) (ops : Array Oper) (q : Nat → Bool) (late : Nat → List Nat) (th : List Nat) (K : Frm → Heap → Prop) : List Oper → Nat → Frm → Heap → Prop
  | [], _, s, H => K s H
  | o :: rest, i, s, H =>
    match o.guard with
    | none => wpOp X C (q i) (th.contains i) o s H fun v H' => lateAll C ops (setA s o.dst v) H' (wpOpsA X C ops q late th K rest (i + 1) (setA s o.dst v) H') (late i)
    | some _ => ∃ v H', (match guardA ops o s with
        | some b => if b then wpOp X C (q i) (th.contains i) o s H (fun v1 H1 => v1 = v ∧ H1 = H') else v = .tup [] ∧ H' = H
        | none => False) ∧ lateAll C ops (setA s o.dst v) H' (wpOpsA X C ops q late th K rest (i + 1) (setA s o.dst v) H') (late i)

inductive Ex where
  | normal
  | exit (id : Nat)
  | ret

def killF (keep : List Nat) (s : Frm) : Frm := go 0 s
  where
  go (i : Nat) : Frm → Frm
    | [] => []
    | x :: xs => (if keep.contains i then x else .undef) :: go (i + 1) xs

def killB (keep : Option (List Nat)) (s : Frm) : Frm := match keep with | some l => killF l s | none => s

/-- The least predicate that a loop's round keeps. -/
def LoopP (B : Frm → Heap → (Ex → Frm → Heap → Prop) → Prop) (next : Frm → Heap → Frm × Heap) (K : Ex → Frm → Heap → Prop) (s : Frm) (H : Heap) : Prop :=
  ∀ X : Frm → Heap → Prop, (∀ s H, B s H (fun e s' H' => match e with
    | .normal => X (next s' H').1 (next s' H').2
    | e => K e s' H') → X s H) → X s H

/-- Operations that only read. -/
def lateOp : Op → Bool
  | .move _ | .assign _ | .pick .. | .binOp .. | .unOp .. | .extract .. | .nilCheck _ | .field .. | .fieldAddr .. | .index .. | .indexAddr .. | .load .. | .slice .. => true
  | _ => false

/-- What lies ahead of each operation by the edges, as sets of bits. -/
def befGo : List Oper → List Nat → List Nat
  | [], acc => acc
  | o :: os, acc => befGo os (acc ++ [o.after.toList.foldl (fun m e => if Region.binds .any e then m ||| 2 ^ e.on ||| acc.getD e.on 0 else m) 0])
def bef (ops : List Oper) : List Nat := befGo ops []

def tmpsOf (ops : Array Oper) (o : Oper) : List Tmp := o.dst.toList ++ Oper.looksAt ops o

/-- May the region's order be left open? 'louds': the operations that write. -/
def drawOK (ops : Array Oper) (louds : List Nat) : Bool :=
  let l := ops.toList
  let bs := bef l
  let n := l.length
  (List.range n).all fun i =>
    match l[i]? with
    | none => true
    | some o =>
      o.after.all (fun e => !Region.binds .any e || decide (e.on < i)) &&
      (List.range n).all fun j => match l[j]? with
        | none => true
        | some p => i == j ||
          ((match p.dst with
            | some d => o.dst != some d && (!(Oper.looksAt ops o).contains d || (bs.getD (max i j) 0).testBit (min i j))
            | none => true) &&
           (!(louds.contains i && decide (i < j)) || (bs.getD j 0).testBit i) &&
           (!(louds.contains i && decide (j < i)) || (bs.getD i 0).testBit j ||
             (!louds.contains j && p.guard.isNone && lateOp p.op && p.dst.isSome &&
               (List.range n).all fun k => match l[k]? with
                 | none => true
                 | some r => match r.dst with
                   | some d => !(decide (j ≤ k) && (Oper.looksAt ops p).contains d)
                   | none => true)))

/-- What may come after an operation that writes, though the text has it before. -/
def lateOf (ops : Array Oper) (louds : List Nat) (i : Nat) : List Nat :=
  if louds.contains i then (List.range i).filter fun j => !((bef ops.toList).getD i 0).testBit j else []

def nextL (sp : LSpec) (n : Nat) (s : Frm) (H : Heap) : Frm × Heap :=
  (killF sp.keep s, if sp.trim then H.trim n else H)

def sameRef : AV → AV → Bool
  | .ref a b c d, .ref a' b' c' d' => a == a' && b == b' && c == c' && d == d'
  | .nil, .nil => true
  | .e0, .e0 => true
  | _, _ => false

def setSame (x y : AV) : List Nat → Frm → Frm
  | [], s => s
  | t :: ts, s => setSame x y ts (if sameRef (s.getD t .undef) x then s.set t y else s)

def wkSlot (t : Nat) (s : Frm) (H : Heap) : Frm × Heap :=
  match s.getD t .undef with
  | .ref id ver _ _ => match H.blk id ver with
    | some b => (s, H.upd id { b with el := b.el.map wkA })
    | none => (s, H)
  | v => (s.set t (wkA v), H)

/-- Slots whose memory nobody writes any more: the first of each list is taken, the others are the same. (Without a shape: less is said of it.) -/
def frzSlots : List (List Nat × List Sh) → Frm → Heap → Option (Frm × Heap)
  | [], s, H => some (s, H)
  | ([], _) :: _, _, _ => none
  | (t :: _, []) :: l, s, H => frzSlots l (wkSlot t s H).1 (wkSlot t s H).2
  | (t :: ts, sh) :: l, s, H => match takeE sh (s.getD t .undef) H with
    | some (y, H1) => frzSlots l (setSame (s.getD t .undef) (frzV y) ts (s.set t (frzV y))) H1
    | none => none

/-- A region's operations in the text's order; before some, slots are kept for good. -/
def wpOpsN (X : CallRel) (C : Ctx) (ops : Array Oper) (th : List Nat) (fz : List (Nat × List (List Nat × List Sh))) (K : Frm → Heap → Prop) : List Oper → Nat → Frm → Heap → Prop
  | [], _, s, H => K s H
  | o :: rest, i, s0, H0 => ∃ s H, frzSlots ((fz.lookup i).getD []) s0 H0 = some (s, H) ∧
    match o.guard with
    | none => wpOp X C false (th.contains i) o s H fun v H' => wpOpsN X C ops th fz K rest (i + 1) (setA s o.dst v) H'
    | some _ => ∃ v H', (match guardA ops o s with
        | some b => if b then wpOp X C false (th.contains i) o s H (fun v1 H1 => v1 = v ∧ H1 = H') else v = .tup [] ∧ H' = H
        | none => False) ∧ wpOpsN X C ops th fz K rest (i + 1) (setA s o.dst v) H'

def wpC (X : CallRel) (C : Ctx) : AC → Frm → Heap → (Ex → Frm → Heap → Prop) → Prop
  | .skip, s, H, K => K .normal s H
  | .ret, s, H, K => K .ret s H
  | .exit id, s, H, K => K (.exit id) s H
  | .seq a b, s, H, K => wpC X C a s H fun e s' H' => match e with
    | .normal => wpC X C b s' H' K
    | e => K e s' H'
  | .cond c a b, s, H, K => match ev s c with
    | .bool t => if t then wpC X C a s H K else wpC X C b s H K
    | _ => False
  | .block id keep a, s, H, K => wpC X C a s H fun e s' H' => match e with
    | .exit j => if j = id then K .normal (killB keep s') H' else K (.exit j) s' H'
    | .normal => K .normal (killB keep s') H'
    | .ret => K .ret s' H'
  | .loop sp a, s, H, K => LoopP (wpC X C a) (nextL sp H.bs.length) K (nextL sp H.bs.length s H).1 (nextL sp H.bs.length s H).2
  | .region _ ops true louds th _, s, H, K => drawOK ops louds = true ∧ wpOpsA X C ops (fun i => !louds.contains i) (lateOf ops louds) th (fun s H => K .normal s H) ops.toList 0 s H
  | .region _ ops false _ th fz, s, H, K => wpOpsN X C ops th fz (fun s H => K .normal s H) ops.toList 0 s H
  | .frz l kp, s, H, K => match frzSlots l s H with
    | some (s', H') => K .normal (killB kp s') H'
    | none => False
  | .bad, _, _, _ => False

/-- Arguments laid into the callee's heap. -/
def thawArgs : List Mode → List AV → Heap → List AV × Heap
  | .io :: ms, .own sz xs :: vs, H =>
    let (ys, H1) := thawL xs H
    let (rs, H2) := thawArgs ms vs (H1.new sz true ys)
    (.ref H1.bs.length H1.st 0 ys.length :: rs, H2)
  | m, v :: vs, H =>
    let (y, H1) := thawV v H
    let (rs, H2) := thawArgs m.tail vs H1
    (y :: rs, H2)
  | _, [], H => ([], H)

/-- What was handed over, and goes back: first all of it leaves the heap, then its elements are taken. -/
def takeRoots : List Mode → List AV → Heap → Option (List (List AV) × Heap)
  | .io :: ms, v :: vs, H => match rootK v with
    | some (id, ver) => match H.blk id ver with
      | some b => match takeRoots ms vs (H.del id) with
        | some (r, H') => some (b.el :: r, H')
        | none => none
      | none => none
    | none => none
  | _ :: ms, _ :: vs, H => takeRoots ms vs H
  | _, _, H => some ([], H)
def takeLs : List Mode → List (List Sh) → List (List AV) → Heap → Option (List AV × Heap)
  | .io :: ms, sh, l :: ls, H => match mapH (takeE (elSh (sh.headD []))) l H with
    | some (ys, H1) => match takeLs ms sh.tail ls H1 with
      | some (r, H2) => some (.own (elSh (sh.headD [])).length ys :: r, H2)
      | none => none
    | none => none
  | .io :: _, _, [], H => some ([], H)
  | _ :: ms, sh, ls, H => takeLs ms sh.tail ls H
  | [], _, _, H => some ([], H)
def takeOuts (ms : List Mode) (sh : List (List Sh)) (vs : List AV) (H : Heap) : Option (List AV × Heap) :=
  match takeRoots ms vs H with
  | some (ls, H1) => takeLs ms sh ls H1
  | none => none

/-- The values of the results. -/
def resVals (E : TEnv) (s : Frm) (H : Heap) : List ResultVar → Option (List AV)
  | [] => some []
  | .tmp t :: rs => (resVals E s H rs).map (s.getD t .undef :: ·)
  | .cell a t :: rs => match evalOp E (.load t (.tmp a)) s H with
    | some (v, _) => (resVals E s H rs).map (v :: ·)
    | none => none

/-- What is asked at a body's end. -/
def finK (E : TEnv) (res : List ResultVar) (K : AV → Heap → Prop) : Ex → Frm → Heap → Prop
  | .exit _, _, _ => False
  | .normal, s, H => ∃ rs, resVals E s H res = some rs ∧ K (oneOrTup rs) H
  | .ret, s, H => ∃ rs, resVals E s H res = some rs ∧ K (oneOrTup rs) H

/-- A function's body does this. -/
def Body (X : CallRel) (C : Ctx) : CallRel := fun f ys H K =>
  match C.code f with
  | none => False
  | some fn => match fn.body with
    | none => False
    | some c =>
      wpC X C (annot (C.pol f) 0 c) (ys ++ List.replicate (fn.ntmps - ys.length) .undef) H (finK C.E fn.results.toList K)

def Closed (C : Ctx) (X : CallRel) : Prop := (∀ f ys H K, C.ext f ys H K → X f ys H K) ∧ ∀ f ys H K, Body X C f ys H K → X f ys H K

/-- The call ends, and then this holds. -/
def ACall (C : Ctx) : CallRel := fun f ys H K => ∀ X : CallRel, Closed C X → X f ys H K

end Go.VS
