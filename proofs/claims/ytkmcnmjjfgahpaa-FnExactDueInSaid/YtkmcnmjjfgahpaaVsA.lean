/-
  VS: an abstract, deterministic semantics of Go functions over plain values, part 1: values, heap, operations.
  (Own work. Part 2 holds the code's semantics, parts 3 to 6 the proof that it is sound against 'Calls'.)
-/
import Derived.Orders
namespace Go.VS

/-- Abstract values. 'fz': a slice that nobody writes; 'ref': a slice in the abstract heap; 'own': such a slice as a deep value; 'ptr', 'optr': a pointer to a variable; 'fe': a pointer into what nobody writes. -/
inductive AV where
  | undef
  | int (k : IntKind) (n : Int)
  | bool (b : Bool)
  | str (s : List UInt8)
  | agg (xs : List AV)
  | tup (xs : List AV)
  | nil
  | e0
  | fz (xs : List AV)
  | ref (id ver off len : Nat)
  | own (sz : Nat) (xs : List AV)
  | ptr (id ver idx off : Nat)
  | fe (x : AV) (off : Nat)
  | optr (sz : Nat) (x : AV)
  | fn (f : FuncId) (cap : List AV)
  | errv (b : Bool)
  | nilp
  deriving Inhabited

def AV.cells : AV → List AV
  | .agg xs => xs
  | .undef => []
  | v => [v]

structure Blk where
  ver : Nat
  sz : Nat
  fix : Bool
  el : List AV
  deriving Inhabited

structure Heap where
  st : Nat
  bs : List (Option Blk)
  deriving Inhabited

namespace Heap
def get (H : Heap) (id : Nat) : Option Blk := (H.bs[id]?).join
def blk (H : Heap) (id ver : Nat) : Option Blk :=
  match H.bs[id]? with
  | some (some b) => if b.ver = ver then some b else none
  | _ => none
def new (H : Heap) (sz : Nat) (fix : Bool) (el : List AV) : Heap := ⟨H.st + 1, H.bs ++ [some ⟨H.st, sz, fix, el⟩]⟩
def upd (H : Heap) (id : Nat) (b : Blk) : Heap := ⟨H.st, H.bs.set id (some b)⟩
def del (H : Heap) (id : Nat) : Heap := ⟨H.st, H.bs.set id none⟩
def trim (H : Heap) (n : Nat) : Heap := ⟨H.st, H.bs.take n⟩
end Heap

/-- What is known of a type. -/
inductive UD where
  | sl (e : TypeId)
  | st (fs : List (Nat × TypeId))
  | ar (n : Nat) (e : TypeId)
  | str
  | it (k : IntKind)
  | bl
  | ifc
  | pt
  | ot
  deriving Inhabited

structure TI where
  sz : Nat
  agg : Bool
  zero : List AV
  bytes : Nat
  und : UD
  eqok : Bool := false
  deriving Inhabited

abbrev TEnv := TypeId → Option TI
abbrev Frm := List AV

def ofValue : Value → AV
  | .int k n => .int k n
  | .bool b => .bool b
  | .string s => .str s.data.toList
  | .slice none 0 0 => .nil
  | .nilIface => .errv false
  | .pointer none => .nilp
  | _ => .undef

def ev (s : Frm) : Operand → AV
  | .tmp t => s.getD t .undef
  | .const v => ofValue v
  | .global _ => .undef
  | .func f => .fn f []

def mkT (agg : Bool) (cs : List AV) : Option AV :=
  if agg then some (.agg cs) else match cs with | [x] => some x | _ => none

def subL (cs : List AV) (off n : Nat) : List AV := (cs.drop off).take n

/-- Read n cells at off out of an element. -/
def rdAt (ti : TI) (x : AV) (off : Nat) : Option AV :=
  if off + ti.sz ≤ x.cells.length then mkT ti.agg (subL x.cells off ti.sz) else none

def splice (cs : List AV) (off : Nat) (vs : List AV) : List AV := cs.take off ++ vs ++ cs.drop (off + vs.length)

/-- An element with cells written. -/
def wrAt (x : AV) (off : Nat) (v : AV) : Option AV :=
  match x with
  | .agg cs => if off + v.cells.length ≤ cs.length then some (.agg (splice cs off v.cells)) else none
  | .undef => none
  | _ => match v with
    | .agg _ => none
    | v => if off = 0 then some v else none

/-- May it lie in a cell? -/
def stor1 : AV → Bool
  | .undef | .agg _ | .tup _ | .own .. | .optr .. => false
  | _ => true
def storA : AV → Bool
  | .agg cs => cs.all stor1
  | v => stor1 v

def szAll (sz : Nat) (xs : List AV) : Bool := xs.all fun x => x.cells.length == sz

/-- The elements of what is appended, copied, turned into a text. -/
def elemsOf (H : Heap) : AV → Option (List AV)
  | .nil | .e0 => some []
  | .fz xs => some xs
  | .ref id ver off len => match H.blk id ver with
    | some b => if off + len ≤ b.el.length then some (subL b.el off len) else none
    | none => none
  | .str s => some (s.map fun b => .int .u8 b.toNat)
  | _ => none

def lenOf (H : Heap) : AV → Option Nat
  | .nil | .e0 => some 0
  | .fz xs => some xs.length
  | .ref id ver _ len => match H.blk id ver with
    | some _ => some len
    | none => none
  | .str s => some s.length
  | _ => none

def roomy (n bytes : Nat) : Bool := (n + 512) * bytes ≤ 2 ^ 45 && n ≤ 2 ^ 45

def intBin (op : BinOp) (k : IntKind) (a b : Int) : Option AV :=
  match op with
  | .add => some (.int k (k.wrap (a + b)))
  | .sub => some (.int k (k.wrap (a - b)))
  | .mul => some (.int k (k.wrap (a * b)))
  | .quo => if b = 0 then none else some (.int k (k.wrap (a.tdiv b)))
  | .rem => if b = 0 then none else some (.int k (a.tmod b))
  | .and => some (.int k (k.wrap (BitVec.ofInt k.bits a &&& BitVec.ofInt k.bits b).toNat))
  | .or => some (.int k (k.wrap (BitVec.ofInt k.bits a ||| BitVec.ofInt k.bits b).toNat))
  | .xor => some (.int k (k.wrap (BitVec.ofInt k.bits a ^^^ BitVec.ofInt k.bits b).toNat))
  | .andNot => some (.int k (k.wrap (BitVec.ofInt k.bits a &&& ~~~ BitVec.ofInt k.bits b).toNat))
  | .eql => some (.bool (a == b))
  | .neq => some (.bool (a != b))
  | .lss => some (.bool (a < b))
  | .leq => some (.bool (a ≤ b))
  | .gtr => some (.bool (a > b))
  | .geq => some (.bool (a ≥ b))
  | _ => none

def strBin (op : BinOp) (a b : List UInt8) : Option AV :=
  match op with
  | .add => if a.length + b.length ≤ 2 ^ 45 then some (.str (a ++ b)) else none
  | .eql => some (.bool (a == b))
  | .neq => some (.bool (!(a == b)))
  | .lss => some (.bool (Op.bytesLess a b))
  | .leq => some (.bool (Op.bytesLess a b || a == b))
  | .gtr => some (.bool (!(Op.bytesLess a b || a == b)))
  | .geq => some (.bool (!(Op.bytesLess a b)))
  | _ => none

/-- Is a slice or an error nil? Told only where it is known. -/
def isNil (u : UD) (x y : AV) : Option Bool :=
  match u, x, y with
  | .sl _, .nil, .nil => some true
  | .sl _, .fz (_ :: _), .nil => some false
  | .ifc, .errv b, .errv false => some (!b)
  | _, _, _ => none

def eqFs (E : TEnv) (f : TypeId → List AV → List AV → Option Bool) : List (Nat × TypeId) → List AV → List AV → Option Bool
  | [], _, _ => some true
  | (o, ft) :: fs, xs, ys => match E ft with
    | none => none
    | some tf =>
      if o + tf.sz ≤ xs.length ∧ o + tf.sz ≤ ys.length then
        match f ft (subL xs o tf.sz) (subL ys o tf.sz) with
        | some b => match eqFs E f fs xs ys with
          | some r => some (b && r)
          | none => none
        | none => none
      else none
/-- '==' of two values' cells, as the type has it: whole numbers, bools, texts, and structs of these. -/
def eqT (E : TEnv) : Nat → TypeId → List AV → List AV → Option Bool
  | 0, _, _, _ => none
  | d + 1, t, xs, ys => match E t with
    | none => none
    | some ti => match ti.und with
      | .it _ => match xs, ys with
        | [.int k a], [.int j b] => if k = j then some (a == b) else none
        | _, _ => none
      | .bl => match xs, ys with
        | [.bool a], [.bool b] => some (a == b)
        | _, _ => none
      | .str => match xs, ys with
        | [.str a], [.str b] => some (a == b)
        | _, _ => none
      | .st fs => if ti.eqok then eqFs E (eqT E d) fs xs ys else none
      | _ => none

def binA (E : TEnv) (op : BinOp) (t : TypeId) (x y : AV) : Option AV :=
  match x, y with
  | .int k a, .int yk b =>
    match op with
    | .shl => if b < 0 then none else some (.int k (k.wrap (a * 2 ^ (min b.toNat k.bits))))
    | .shr => if b < 0 then none else some (.int k (a.fdiv (2 ^ (min b.toNat k.bits))))
    | op => if k = yk then intBin op k a b else none
  | .str a, .str b => strBin op a b
  | .bool a, .bool b => match E t with
    | some ti => match ti.und, op with
      | .bl, .eql => some (.bool (a == b))
      | .bl, .neq => some (.bool (!(a == b)))
      | _, _ => none
    | none => none
  | .agg xs, .agg ys =>
    match E t with
    | none => none
    | some ti =>
      if ti.agg then
        match op with
        | .eql => match eqT E 8 t xs ys with | some b => some (.bool b) | none => none
        | .neq => match eqT E 8 t xs ys with | some b => some (.bool (!b)) | none => none
        | _ => none
      else none
  | x, y =>
    match E t with
    | none => none
    | some ti =>
      match op with
      | .eql => match isNil ti.und x y with | some b => some (.bool b) | none => none
      | .neq => match isNil ti.und x y with | some b => some (.bool (!b)) | none => none
      | _ => none

def unA (op : UnOp) (x : AV) : Option AV :=
  match op, x with
  | .neg, .int k n => some (.int k (k.wrap (0 - n)))
  | .not, .bool b => some (.bool !b)
  | _, _ => none

def bytesOf : List AV → Option (List UInt8)
  | [] => some []
  | .int .u8 n :: xs => (bytesOf xs).map (UInt8.ofNat n.toNat :: ·)
  | _ => none

def intOp : Option AV → Option (Option Int)
  | none => some none
  | some (.int _ n) => some (some n)
  | _ => none

/-- Fill a struct's or array's cells. -/
def fillA (place : Nat → Option (Nat × Nat)) (cs : List AV) : List (Nat × AV) → Option (List AV)
  | [] => some cs
  | (i, v) :: rest => match place i with
    | none => none
    | some (off, size) => if v.cells.length = size ∧ off + size ≤ cs.length ∧ storA v then fillA place (splice cs off v.cells) rest else none

/-- Fill a slice literal's elements. -/
def fillE (sz : Nat) (el : List AV) : List (Nat × AV) → Option (List AV)
  | [] => some el
  | (i, v) :: rest => if i < el.length ∧ v.cells.length = sz ∧ storA v then fillE sz (el.set i v) rest else none

def zeroA (ti : TI) : Option AV := if ti.zero.all stor1 ∧ ti.zero.length = ti.sz then mkT ti.agg ti.zero else none

/-- Less is said: of what is nil, only that it is empty. -/
def wk1 : AV → AV
  | .nil => .fz []
  | .e0 => .fz []
  | v => v
def wkA : AV → AV
  | .agg cs => .agg (cs.map wk1)
  | v => wk1 v
/-- The zero value of a slice's elements: of a struct's slices less is said. -/
def zeroE (ti : TI) : Option AV := match zeroA ti with | some z => some (if ti.agg then wkA z else z) | none => none

def sliceA (E : TEnv) (t : TypeId) (x : AV) (lo hi mx : Option Int) (H : Heap) : Option AV :=
  match E t with
  | none => none
  | some ti =>
    match x with
    | .str s =>
      match ti.und, mx with
      | .str, none =>
        let h := hi.getD s.length
        let l := lo.getD 0
        if 0 ≤ l ∧ l ≤ h ∧ h ≤ s.length then some (.str ((s.drop l.toNat).take (h.toNat - l.toNat))) else none
      | _, _ => none
    | .fz xs =>
      match ti.und with
      | .sl e =>
        match E e with
        | none => none
        | some te =>
          if !szAll te.sz xs then none else
          let h := hi.getD xs.length
          let l := lo.getD 0
          match mx with
          | none => if 0 ≤ l ∧ l ≤ h ∧ h ≤ xs.length then some (.fz ((xs.drop l.toNat).take (h.toNat - l.toNat))) else none
          | some m => if hi.isSome ∧ 0 ≤ l ∧ l = h ∧ h = m ∧ h ≤ xs.length then some .e0 else none
      | _ => none
    | .ref id ver off len =>
      match ti.und, H.blk id ver with
      | .sl e, some b =>
        match E e with
        | none => none
        | some te =>
          if b.sz ≠ te.sz then none else
          let h := hi.getD len
          let l := lo.getD 0
          match mx with
          | none => if 0 ≤ l ∧ l ≤ h ∧ off + h.toNat ≤ b.el.length then some (.ref id ver (off + l.toNat) (h.toNat - l.toNat)) else none
          | some m => if hi.isSome ∧ 0 ≤ l ∧ l = h ∧ h = m ∧ off + h.toNat ≤ b.el.length then some .e0 else none
      | _, _ => none
    | .nil =>
      match ti.und with
      | .sl e => match E e with
        | some _ => if lo.getD 0 = 0 ∧ hi.getD 0 = 0 ∧ mx.getD 0 = 0 ∧ (mx.isSome → hi.isSome) then some .nil else none
        | none => none
      | _ => none
    | .e0 =>
      match ti.und with
      | .sl e => match E e with
        | some _ => if lo.getD 0 = 0 ∧ hi.getD 0 = 0 ∧ mx.getD 0 = 0 ∧ (mx.isSome → hi.isSome) then some .e0 else none
        | none => none
      | _ => none
    | _ => none

/-- append. -/
def appendA (te : TI) (s x : AV) (H : Heap) : Option (AV × Heap) :=
  match elemsOf H x with
  | none => none
  | some xs =>
    if !szAll te.sz xs then none else
    if te.sz = 0 then none else
    match s with
    | .nil => if xs.length = 0 then some (s, H) else if roomy xs.length te.bytes then some (.ref H.bs.length H.st 0 xs.length, H.new te.sz false xs) else none
    | .e0 => if xs.length = 0 then some (s, H) else if roomy xs.length te.bytes then some (.ref H.bs.length H.st 0 xs.length, H.new te.sz false xs) else none
    | .ref id ver off len =>
      match H.blk id ver with
      | none => none
      | some b =>
        if b.sz ≠ te.sz then none else
        if off + len + xs.length ≤ b.el.length then
          some (.ref id ver off (len + xs.length), H.upd id { b with el := splice b.el (off + len) xs })
        else if b.fix then none
        else if off + len ≤ b.el.length ∧ roomy (len + xs.length) te.bytes then
          some (.ref id H.st 0 (len + xs.length), ⟨H.st + 1, H.bs.set id (some ⟨H.st, b.sz, false, subL b.el off len ++ xs⟩)⟩)
        else none
    | _ => none

def copyA (te : TI) (d x : AV) (H : Heap) : Option (AV × Heap) :=
  match elemsOf H x with
  | none => none
  | some xs =>
    if !szAll te.sz xs || te.sz == 0 then none else
    match d with
    | .nil => some (.int .i64 0, H)
    | .e0 => some (.int .i64 0, H)
    | .ref id ver off len =>
      match H.blk id ver with
      | none => none
      | some b =>
        if b.sz = te.sz ∧ off + len ≤ b.el.length then
          some (.int .i64 (min xs.length len : Nat), H.upd id { b with el := splice b.el off (xs.take len) })
        else none
    | _ => none

def clearA (te : TI) (d : AV) (H : Heap) : Option (AV × Heap) :=
  match d with
  | .nil => some (.tup [], H)
  | .e0 => some (.tup [], H)
  | .ref id ver off len =>
    match H.blk id ver, zeroA te with
    | some b, some z =>
      if b.sz = te.sz ∧ off + len ≤ b.el.length ∧ te.sz ≠ 0 then
        some (.tup [], H.upd id { b with el := splice b.el off (List.replicate len z) })
      else none
    | _, _ => none
  | _ => none

def minA : List AV → Option AV
  | [] => none
  | x :: rest => rest.foldlM (fun a b => match a, b with | .int k x, .int _ y => some (.int k (if y < x then y else x)) | _, _ => none) x
def maxA : List AV → Option AV
  | [] => none
  | x :: rest => rest.foldlM (fun a b => match a, b with | .int k x, .int _ y => some (.int k (if y > x then y else x)) | _, _ => none) x

def elTI (E : TEnv) (t : TypeId) : Option TI :=
  match E t with
  | some ti => match ti.und with | .sl e => E e | _ => none
  | none => none

/-- An operation that calls nothing: its value and the heap behind it. -/
def evalOp (E : TEnv) (o : Op) (s : Frm) (H : Heap) : Option (AV × Heap) :=
  let pureV (v : Option AV) : Option (AV × Heap) := match v with | some v => some (v, H) | none => none
  match o with
  | .move x => some (ev s x, H)
  | .assign x => some (ev s x, H)
  | .pick c a b => match ev s c with
    | .bool t => some (if t then ev s a else ev s b, H)
    | _ => none
  | .binOp op t x y _ => match y with
    | .const _ => pureV (binA E op t (ev s x) (ev s y))
    | _ => match ev s y with
      | .errv _ => none
      | y => pureV (binA E op t (ev s x) y)
  | .unOp op _ x => pureV (unA op (ev s x))
  | .extract x i => match ev s x with
    | .tup vs => pureV vs[i]?
    | _ => none
  | .nilCheck x => match ev s x with
    | .ptr a b c d => match H.blk a b with
      | some _ => some (.ptr a b c d, H)
      | none => none
    | .fe x o => some (.fe x o, H)
    | _ => none
  | .convert src dst x => match E src, E dst, ev s x with
    | some _, some td, .int _ n => match td.und with
      | .it k => some (.int k (k.wrap n), H)
      | _ => none
    | some _, some td, .str l => match td.und with
      | .str => some (.str l, H)
      | .sl e => match E e with
        | some te => match te.und with
          | .it .u8 => if te.sz = 1 ∧ te.bytes = 1 ∧ l.length ≤ 2 ^ 45 then some (.ref H.bs.length H.st 0 l.length, H.new 1 false (l.map fun b => .int .u8 b.toNat)) else none
          | _ => none
        | none => none
      | _ => none
    | some ts, some td, x => match ts.und, td.und with
      | .sl e, .str => match E e with
        | some te => match te.und with
          | .it .u8 => match elemsOf H x with
            | some xs => if te.sz = 1 then pureV ((bytesOf xs).map .str) else none
            | none => none
          | _ => none
        | none => none
      | _, _ => none
    | _, _, _ => none
  | .field t x f => match E t, ev s x with
    | some ti, .agg cs => match ti.und with
      | .st fs => match fs[f]? with
        | some (o, ft) => match E ft with
          | some tf => pureV (rdAt tf (.agg cs) o)
          | none => none
        | none => none
      | _ => none
    | _, _ => none
  | .fieldAddr t x f => match E t with
    | some ti => match ti.und with
      | .st fs => match fs[f]? with
        | some (o, ft) => match E ft with
          | some tf => if tf.sz = 0 then none else match ev s x with
            | .ptr id ver idx off => match H.blk id ver with
              | some _ => some (.ptr id ver idx (off + o), H)
              | none => none
            | .fe y off => some (.fe y (off + o), H)
            | _ => none
          | none => none
        | none => none
      | _ => none
    | none => none
  | .indexAddr t x i => match E t, ev s i with
    | some ti, .int _ n => match ti.und with
      | .sl e => match E e with
        | some te => match ev s x with
          | .fz xs => if 0 ≤ n then match xs[n.toNat]? with
              | some y => if y.cells.length = te.sz then some (.fe y 0, H) else none
              | none => none
            else none
          | .ref id ver off len => match H.blk id ver with
            | some b => if b.sz = te.sz ∧ 0 ≤ n ∧ n < len ∧ off + len ≤ b.el.length then some (.ptr id ver (off + n.toNat) 0, H) else none
            | none => none
          | _ => none
        | none => none
      | .ar m e => match E e with
        | some te => if 0 ≤ n ∧ n < m then match ev s x with
            | .ptr id ver idx off => match H.blk id ver with
              | some _ => some (.ptr id ver idx (off + n.toNat * te.sz), H)
              | none => none
            | .fe y off => some (.fe y (off + n.toNat * te.sz), H)
            | _ => none
          else none
        | none => none
      | _ => none
    | _, _ => none
  | .index t x i => match E t, ev s i with
    | some ti, .int _ n => match ti.und, ev s x with
      | .str, .str l => if 0 ≤ n then match l[n.toNat]? with | some b => some (.int .u8 b.toNat, H) | none => none else none
      | .ar m e, .agg cs => match E e with
        | some te => if 0 ≤ n ∧ n < m then pureV (rdAt te (.agg cs) (n.toNat * te.sz)) else none
        | none => none
      | _, _ => none
    | _, _ => none
  | .load t x => match E t with
    | some ti => match ev s x with
      | .fe y off => pureV (rdAt ti y off)
      | .ptr id ver idx off => match H.blk id ver with
        | some b => match b.el[idx]? with
          | some y => pureV (rdAt ti y off)
          | none => none
        | none => none
      | _ => none
    | none => none
  | .store t x v => match E t with
    | some ti => match ev s x with
      | .ptr id ver idx off => match H.blk id ver with
        | some b => match b.el[idx]? with
          | some y => if (ev s v).cells.length = ti.sz ∧ storA (ev s v) then match wrAt y off (ev s v) with
              | some y' => some (.tup [], H.upd id { b with el := b.el.set idx y' })
              | none => none
            else none
          | none => none
        | none => none
      | _ => none
    | none => none
  | .alloc t => match E t with
    | some ti => match zeroA ti with
      | some z => some (.ptr H.bs.length H.st 0 0, H.new ti.sz false [z])
      | none => none
    | none => none
  | .box t x => match E t with
    | some ti => if (ev s x).cells.length = ti.sz ∧ storA (ev s x) then some (.ptr H.bs.length H.st 0 0, H.new ti.sz false [ev s x]) else none
    | none => none
  | .build t parts => match E t with
    | some ti => match ti.und with
      | .st fs => if !(fs.all fun f => (E f.2).isSome) || !(ti.zero.all stor1) then none else pureV ((fillA (fun i => match fs[i]? with | some (o, ft) => (E ft).map fun tf => (o, tf.sz) | none => none) ti.zero (parts.toList.map fun p => (p.1, ev s p.2))).map .agg)
      | .ar n e => match E e with
        | some te => if !(ti.zero.all stor1) then none else pureV ((fillA (fun i => if i < n then some (i * te.sz, te.sz) else none) ti.zero (parts.toList.map fun p => (p.1, ev s p.2))).map .agg)
        | none => none
      | _ => none
    | none => none
  | .buildSlice t len parts => match elTI E t with
    | some te => if len = 0 then (if parts.size = 0 then some (.e0, H) else none) else
      match zeroA te with
      | some z => if len * te.sz ≤ 1000000 ∧ te.sz ≠ 0 then
          match fillE te.sz (List.replicate len z) (parts.toList.map fun p => (p.1, ev s p.2)) with
          | some el => some (.ref H.bs.length H.st 0 len, H.new te.sz false el)
          | none => none
        else none
      | none => none
    | none => none
  | .makeSlice t l c => match elTI E t, ev s l, ev s c with
    | some te, .int .i64 n, .int .i64 m =>
      match zeroE te with
      | some z => if 0 ≤ n ∧ n ≤ m ∧ roomy m.toNat te.bytes ∧ te.sz ≠ 0 then some (.ref H.bs.length H.st 0 n.toNat, H.new te.sz false (List.replicate m.toNat z)) else none
      | none => none
    | _, _, _ => none
  | .slice t x lo hi mx =>
    match intOp (lo.map (ev s)), intOp (hi.map (ev s)), intOp (mx.map (ev s)) with
    | some lo, some hi, some mx => pureV (sliceA E t (ev s x) lo hi mx H)
    | _, _, _ => none
  | .makeFunc (.func f) first cap => if first.size = 0 then some (.fn f (cap.toList.map (ev s)), H) else none
  | _ => none

/-- The builtins. -/
def evalBuiltin (E : TEnv) (b : Builtin) (tys : Array TypeId) (args : List AV) (H : Heap) : Option (AV × Heap) :=
  match b, args with
  | .len, [x] => match (tys[0]?).bind E, lenOf H x with
    | some ti, some n => match ti.und, x with
      | .str, .str _ => some (.int .i64 n, H)
      | .sl _, .str _ => none
      | .sl _, _ => some (.int .i64 n, H)
      | _, _ => none
    | _, _ => none
  | .append, [s, x] => match tys[0]? with
    | some t => match elTI E t, (tys[1]?).bind E with
      | some te, some tx => match tx.und with | .it _ => none | _ => appendA te s x H
      | _, _ => none
    | none => none
  | .copy, [d, x] => match (tys[0]?).bind (elTI E) with | some te => copyA te d x H | none => none
  | .clear, [d] => match (tys[0]?).bind (elTI E) with | some te => clearA te d H | none => none
  | .min, xs => match minA xs with | some v => some (v, H) | none => none
  | .max, xs => match maxA xs with | some v => some (v, H) | none => none
  | _, _ => none

end Go.VS
