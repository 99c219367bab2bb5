import Derived.Orders
import Derived.Below
import Derived.Laws.Strings
import Derived.Laws.StructEq
import Derived.IntWalk
/-
  VS: an abstract, deterministic semantics of Go functions over plain values, part 1: values, heap, operations.
  (Own work. Part 2 holds the code's semantics, parts 3 to 6 the proof that it is sound against 'Calls'.)
-/
namespace Go.VS

/-- Abstract values. 'fz': a slice that nobody writes; 'ref': a slice in the abstract heap; 'own': such a slice as a deep value; 'ptr', 'optr': a pointer to a variable; 'fe': a pointer into what nobody writes. -/
inductive AV where
  | undef
  | int (k : IntKind) (n : Int)
  | bool (b : Bool)
  | str (s : List UInt8)
  | agg (xs : List AV)
  | tup (xs : List AV)
  | nil
  | e0
  | fz (xs : List AV)
  | ref (id ver off len : Nat)
  | own (sz : Nat) (xs : List AV)
  | ptr (id ver idx off : Nat)
  | fe (x : AV) (off : Nat)
  | optr (sz : Nat) (x : AV)
  | fn (f : FuncId) (cap : List AV)
  | errv (b : Bool)
  | nilp
  deriving Inhabited

def AV.cells : AV → List AV
  | .agg xs => xs
  | .undef => []
  | v => [v]

structure Blk where
  ver : Nat
  sz : Nat
  fix : Bool
  el : List AV
  deriving Inhabited

structure Heap where
  st : Nat
  bs : List (Option Blk)
  deriving Inhabited

namespace Heap
def get (H : Heap) (id : Nat) : Option Blk := (H.bs[id]?).join
def blk (H : Heap) (id ver : Nat) : Option Blk :=
  match H.bs[id]? with
  | some (some b) => if b.ver = ver then some b else none
  | _ => none
def new (H : Heap) (sz : Nat) (fix : Bool) (el : List AV) : Heap := ⟨H.st + 1, H.bs ++ [some ⟨H.st, sz, fix, el⟩]⟩
def upd (H : Heap) (id : Nat) (b : Blk) : Heap := ⟨H.st, H.bs.set id (some b)⟩
def del (H : Heap) (id : Nat) : Heap := ⟨H.st, H.bs.set id none⟩
def trim (H : Heap) (n : Nat) : Heap := ⟨H.st, H.bs.take n⟩
end Heap

/-- What is known of a type. -/
inductive UD where
  | sl (e : TypeId)
  | st (fs : List (Nat × TypeId))
  | ar (n : Nat) (e : TypeId)
  | str
  | it (k : IntKind)
  | bl
  | ifc
  | pt
  | ot
  deriving Inhabited

structure TI where
  sz : Nat
  agg : Bool
  zero : List AV
  bytes : Nat
  und : UD
  eqok : Bool := false
  deriving Inhabited

abbrev TEnv := TypeId → Option TI
abbrev Frm := List AV

def ofValue : Value → AV
  | .int k n => .int k n
  | .bool b => .bool b
  | .string s => .str s.data.toList
  | .slice none 0 0 => .nil
  | .nilIface => .errv false
  | .pointer none => .nilp
  | _ => .undef

def ev (s : Frm) : Operand → AV
  | .tmp t => s.getD t .undef
  | .const v => ofValue v
  | .global _ => .undef
  | .func f => .fn f []

def mkT (agg : Bool) (cs : List AV) : Option AV :=
  if agg then some (.agg cs) else match cs with | [x] => some x | _ => none

def subL (cs : List AV) (off n : Nat) : List AV := (cs.drop off).take n

/-- Read n cells at off out of an element. -/
def rdAt (ti : TI) (x : AV) (off : Nat) : Option AV :=
  if off + ti.sz ≤ x.cells.length then mkT ti.agg (subL x.cells off ti.sz) else none

def splice (cs : List AV) (off : Nat) (vs : List AV) : List AV := cs.take off ++ vs ++ cs.drop (off + vs.length)

/-- An element with cells written. -/
def wrAt (x : AV) (off : Nat) (v : AV) : Option AV :=
  match x with
  | .agg cs => if off + v.cells.length ≤ cs.length then some (.agg (splice cs off v.cells)) else none
  | .undef => none
  | _ => match v with
    | .agg _ => none
    | v => if off = 0 then some v else none

/-- May it lie in a cell? -/
def stor1 : AV → Bool
  | .undef | .agg _ | .tup _ | .own .. | .optr .. => false
  | _ => true
def storA : AV → Bool
  | .agg cs => cs.all stor1
  | v => stor1 v

def szAll (sz : Nat) (xs : List AV) : Bool := xs.all fun x => x.cells.length == sz

/-- The elements of what is appended, copied, turned into a text. -/
def elemsOf (H : Heap) : AV → Option (List AV)
  | .nil | .e0 => some []
  | .fz xs => some xs
  | .ref id ver off len => match H.blk id ver with
    | some b => if off + len ≤ b.el.length then some (subL b.el off len) else none
    | none => none
  | .str s => some (s.map fun b => .int .u8 b.toNat)
  | _ => none

def lenOf (_H : Heap) : AV → Option Nat
  | .nil | .e0 => some 0
  | .fz xs => some xs.length
  | .ref _ _ _ len => some len
  | .str s => some s.length
  | _ => none

def roomy (n bytes : Nat) : Bool := (n + 512) * bytes ≤ 2 ^ 45 && n ≤ 2 ^ 45

def intBin (op : BinOp) (k : IntKind) (a b : Int) : Option AV :=
  match op with
  | .add => some (.int k (k.wrap (a + b)))
  | .sub => some (.int k (k.wrap (a - b)))
  | .mul => some (.int k (k.wrap (a * b)))
  | .quo => if b = 0 then none else some (.int k (k.wrap (a.tdiv b)))
  | .rem => if b = 0 then none else some (.int k (a.tmod b))
  | .and => some (.int k (k.wrap (BitVec.ofInt k.bits a &&& BitVec.ofInt k.bits b).toNat))
  | .or => some (.int k (k.wrap (BitVec.ofInt k.bits a ||| BitVec.ofInt k.bits b).toNat))
  | .xor => some (.int k (k.wrap (BitVec.ofInt k.bits a ^^^ BitVec.ofInt k.bits b).toNat))
  | .andNot => some (.int k (k.wrap (BitVec.ofInt k.bits a &&& ~~~ BitVec.ofInt k.bits b).toNat))
  | .eql => some (.bool (a == b))
  | .neq => some (.bool (a != b))
  | .lss => some (.bool (a < b))
  | .leq => some (.bool (a ≤ b))
  | .gtr => some (.bool (a > b))
  | .geq => some (.bool (a ≥ b))
  | _ => none

def strBin (op : BinOp) (a b : List UInt8) : Option AV :=
  match op with
  | .add => if a.length + b.length ≤ 2 ^ 45 then some (.str (a ++ b)) else none
  | .eql => some (.bool (a == b))
  | .neq => some (.bool (!(a == b)))
  | .lss => some (.bool (Op.bytesLess a b))
  | .leq => some (.bool (Op.bytesLess a b || a == b))
  | .gtr => some (.bool (!(Op.bytesLess a b || a == b)))
  | .geq => some (.bool (!(Op.bytesLess a b)))
  | _ => none

/-- Is a slice or an error nil? Told only where it is known. -/
def isNil (u : UD) (x y : AV) : Option Bool :=
  match u, x, y with
  | .sl _, .nil, .nil => some true
  | .sl _, .fz (_ :: _), .nil => some false
  | .ifc, .errv b, .errv false => some (!b)
  | _, _, _ => none

def eqFs (E : TEnv) (f : TypeId → List AV → List AV → Option Bool) : List (Nat × TypeId) → List AV → List AV → Option Bool
  | [], _, _ => some true
  | (o, ft) :: fs, xs, ys => match E ft with
    | none => none
    | some tf =>
      if o + tf.sz ≤ xs.length ∧ o + tf.sz ≤ ys.length then
        match f ft (subL xs o tf.sz) (subL ys o tf.sz) with
        | some b => match eqFs E f fs xs ys with
          | some r => some (b && r)
          | none => none
        | none => none
      else none
/-- '==' of two values' cells, as the type has it: whole numbers, bools, texts, and structs of these. -/
def eqT (E : TEnv) : Nat → TypeId → List AV → List AV → Option Bool
  | 0, _, _, _ => none
  | d + 1, t, xs, ys => match E t with
    | none => none
    | some ti => match ti.und with
      | .it _ => match xs, ys with
        | [.int k a], [.int j b] => if k = j then some (a == b) else none
        | _, _ => none
      | .bl => match xs, ys with
        | [.bool a], [.bool b] => some (a == b)
        | _, _ => none
      | .str => match xs, ys with
        | [.str a], [.str b] => some (a == b)
        | _, _ => none
      | .st fs => if ti.eqok then eqFs E (eqT E d) fs xs ys else none
      | _ => none

def binA (E : TEnv) (op : BinOp) (t : TypeId) (x y : AV) : Option AV :=
  match x, y with
  | .int k a, .int yk b =>
    match op with
    | .shl => if b < 0 then none else some (.int k (k.wrap (a * 2 ^ (min b.toNat k.bits))))
    | .shr => if b < 0 then none else some (.int k (a.fdiv (2 ^ (min b.toNat k.bits))))
    | op => if k = yk then intBin op k a b else none
  | .str a, .str b => strBin op a b
  | .bool a, .bool b => match E t with
    | some ti => match ti.und, op with
      | .bl, .eql => some (.bool (a == b))
      | .bl, .neq => some (.bool (!(a == b)))
      | _, _ => none
    | none => none
  | .agg xs, .agg ys =>
    match E t with
    | none => none
    | some ti =>
      if ti.agg then
        match op with
        | .eql => match eqT E 8 t xs ys with | some b => some (.bool b) | none => none
        | .neq => match eqT E 8 t xs ys with | some b => some (.bool (!b)) | none => none
        | _ => none
      else none
  | x, y =>
    match E t with
    | none => none
    | some ti =>
      match op with
      | .eql => match isNil ti.und x y with | some b => some (.bool b) | none => none
      | .neq => match isNil ti.und x y with | some b => some (.bool (!b)) | none => none
      | _ => none

def unA (op : UnOp) (x : AV) : Option AV :=
  match op, x with
  | .neg, .int k n => some (.int k (k.wrap (0 - n)))
  | .not, .bool b => some (.bool !b)
  | _, _ => none

def bytesOf : List AV → Option (List UInt8)
  | [] => some []
  | .int .u8 n :: xs => (bytesOf xs).map (UInt8.ofNat n.toNat :: ·)
  | _ => none

def intOp : Option AV → Option (Option Int)
  | none => some none
  | some (.int _ n) => some (some n)
  | _ => none

/-- Fill a struct's or array's cells. -/
def fillA (place : Nat → Option (Nat × Nat)) (cs : List AV) : List (Nat × AV) → Option (List AV)
  | [] => some cs
  | (i, v) :: rest => match place i with
    | none => none
    | some (off, size) => if v.cells.length = size ∧ off + size ≤ cs.length ∧ storA v then fillA place (splice cs off v.cells) rest else none

/-- Fill a slice literal's elements. -/
def fillE (sz : Nat) (el : List AV) : List (Nat × AV) → Option (List AV)
  | [] => some el
  | (i, v) :: rest => if i < el.length ∧ v.cells.length = sz ∧ storA v then fillE sz (el.set i v) rest else none

def zeroA (ti : TI) : Option AV := if ti.zero.all stor1 ∧ ti.zero.length = ti.sz then mkT ti.agg ti.zero else none

/-- Less is said: of what is nil, only that it is empty. -/
def wk1 : AV → AV
  | .nil => .fz []
  | .e0 => .fz []
  | v => v
def wkA : AV → AV
  | .agg cs => .agg (cs.map wk1)
  | v => wk1 v
/-- The zero value of a slice's elements: of a struct's slices less is said. -/
def zeroE (ti : TI) : Option AV := match zeroA ti with | some z => some (if ti.agg then wkA z else z) | none => none

def sliceA (E : TEnv) (t : TypeId) (x : AV) (lo hi mx : Option Int) (H : Heap) : Option AV :=
  match E t with
  | none => none
  | some ti =>
    match x with
    | .str s =>
      match ti.und, mx with
      | .str, none =>
        let h := hi.getD s.length
        let l := lo.getD 0
        if 0 ≤ l ∧ l ≤ h ∧ h ≤ s.length then some (.str ((s.drop l.toNat).take (h.toNat - l.toNat))) else none
      | _, _ => none
    | .fz xs =>
      match ti.und with
      | .sl e =>
        match E e with
        | none => none
        | some te =>
          if !szAll te.sz xs then none else
          let h := hi.getD xs.length
          let l := lo.getD 0
          match mx with
          | none => if 0 ≤ l ∧ l ≤ h ∧ h ≤ xs.length then some (.fz ((xs.drop l.toNat).take (h.toNat - l.toNat))) else none
          | some m => if hi.isSome ∧ 0 ≤ l ∧ l = h ∧ h = m ∧ h ≤ xs.length then some .e0 else none
      | _ => none
    | .ref id ver off len =>
      match ti.und, H.blk id ver with
      | .sl e, some b =>
        match E e with
        | none => none
        | some te =>
          if b.sz ≠ te.sz then none else
          let h := hi.getD len
          let l := lo.getD 0
          match mx with
          | none => if 0 ≤ l ∧ l ≤ h ∧ off + h.toNat ≤ b.el.length then some (.ref id ver (off + l.toNat) (h.toNat - l.toNat)) else none
          | some m => if hi.isSome ∧ 0 ≤ l ∧ l = h ∧ h = m ∧ off + h.toNat ≤ b.el.length then some .e0
            else if hi.isSome ∧ 0 ≤ l ∧ l ≤ h ∧ h ≤ m ∧ off + m.toNat ≤ b.el.length then some .undef else none
      | _, _ => none
    | .nil =>
      match ti.und with
      | .sl e => match E e with
        | some _ => if lo.getD 0 = 0 ∧ hi.getD 0 = 0 ∧ mx.getD 0 = 0 ∧ (mx.isSome → hi.isSome) then some .nil else none
        | none => none
      | _ => none
    | .e0 =>
      match ti.und with
      | .sl e => match E e with
        | some _ => if lo.getD 0 = 0 ∧ hi.getD 0 = 0 ∧ mx.getD 0 = 0 ∧ (mx.isSome → hi.isSome) then some .e0 else none
        | none => none
      | _ => none
    | _ => none

/-- append. -/
def appendA (te : TI) (s x : AV) (H : Heap) : Option (AV × Heap) :=
  match elemsOf H x with
  | none => none
  | some xs =>
    if !szAll te.sz xs then none else
    if te.sz = 0 then none else
    match s with
    | .nil => if xs.length = 0 then some (s, H) else if roomy xs.length te.bytes then some (.ref H.bs.length H.st 0 xs.length, H.new te.sz false xs) else none
    | .e0 => if xs.length = 0 then some (s, H) else if roomy xs.length te.bytes then some (.ref H.bs.length H.st 0 xs.length, H.new te.sz false xs) else none
    | .ref id ver off len =>
      match H.blk id ver with
      | none => none
      | some b =>
        if b.sz ≠ te.sz then none else
        if off + len + xs.length ≤ b.el.length then
          some (.ref id ver off (len + xs.length), H.upd id { b with el := splice b.el (off + len) xs })
        else if b.fix then none
        else if off + len ≤ b.el.length ∧ roomy (len + xs.length) te.bytes then
          some (.ref id H.st 0 (len + xs.length), ⟨H.st + 1, H.bs.set id (some ⟨H.st, b.sz, false, subL b.el off len ++ xs⟩)⟩)
        else none
    | _ => none

/-- append of so many zeros, to nil. -/
def appendZ (te : TI) (n : Int) (H : Heap) : Option (AV × Heap) :=
  match zeroE te with
  | some z => if 0 ≤ n ∧ roomy n.toNat te.bytes ∧ te.sz ≠ 0 then (if n = 0 then some (.nil, H) else some (.ref H.bs.length H.st 0 n.toNat, H.new te.sz false (List.replicate n.toNat z))) else none
  | none => none

def copyA (te : TI) (d x : AV) (H : Heap) : Option (AV × Heap) :=
  match elemsOf H x with
  | none => none
  | some xs =>
    if !szAll te.sz xs || te.sz == 0 then none else
    match d with
    | .nil => some (.int .i64 0, H)
    | .e0 => some (.int .i64 0, H)
    | .ref id ver off len =>
      match H.blk id ver with
      | none => none
      | some b =>
        if b.sz = te.sz ∧ off + len ≤ b.el.length then
          some (.int .i64 (min xs.length len : Nat), H.upd id { b with el := splice b.el off (xs.take len) })
        else none
    | _ => none

def clearA (te : TI) (d : AV) (H : Heap) : Option (AV × Heap) :=
  match d with
  | .nil => some (.tup [], H)
  | .e0 => some (.tup [], H)
  | .ref id ver off len =>
    match H.blk id ver, zeroA te with
    | some b, some z =>
      if b.sz = te.sz ∧ off + len ≤ b.el.length ∧ te.sz ≠ 0 then
        some (.tup [], H.upd id { b with el := splice b.el off (List.replicate len z) })
      else none
    | _, _ => none
  | _ => none

def minA : List AV → Option AV
  | [] => none
  | x :: rest => rest.foldlM (fun a b => match a, b with | .int k x, .int _ y => some (.int k (if y < x then y else x)) | _, _ => none) x
def maxA : List AV → Option AV
  | [] => none
  | x :: rest => rest.foldlM (fun a b => match a, b with | .int k x, .int _ y => some (.int k (if y > x then y else x)) | _, _ => none) x

def elTI (E : TEnv) (t : TypeId) : Option TI :=
  match E t with
  | some ti => match ti.und with | .sl e => E e | _ => none
  | none => none

/-- An operation that calls nothing: its value and the heap behind it. -/
def evalOp (E : TEnv) (o : Op) (s : Frm) (H : Heap) : Option (AV × Heap) :=
  let pureV (v : Option AV) : Option (AV × Heap) := match v with | some v => some (v, H) | none => none
  match o with
  | .move x => some (ev s x, H)
  | .assign x => some (ev s x, H)
  | .pick c a b => match ev s c with
    | .bool t => some (if t then ev s a else ev s b, H)
    | _ => none
  | .binOp op t x y _ => match y with
    | .const _ => pureV (binA E op t (ev s x) (ev s y))
    | _ => match ev s y with
      | .errv _ => none
      | y => pureV (binA E op t (ev s x) y)
  | .unOp op _ x => pureV (unA op (ev s x))
  | .extract x i => match ev s x with
    | .tup vs => pureV vs[i]?
    | _ => none
  | .nilCheck x => match ev s x with
    | .ptr a b c d => match H.blk a b with
      | some _ => some (.ptr a b c d, H)
      | none => none
    | .fe x o => some (.fe x o, H)
    | _ => none
  | .convert src dst x => match E src, E dst, ev s x with
    | some _, some td, .int _ n => match td.und with
      | .it k => some (.int k (k.wrap n), H)
      | _ => none
    | some _, some td, .str l => match td.und with
      | .str => some (.str l, H)
      | .sl e => match E e with
        | some te => match te.und with
          | .it .u8 => if te.sz = 1 ∧ te.bytes = 1 ∧ l.length ≤ 2 ^ 45 then some (.ref H.bs.length H.st 0 l.length, H.new 1 false (l.map fun b => .int .u8 b.toNat)) else none
          | _ => none
        | none => none
      | _ => none
    | some ts, some td, x => match ts.und, td.und with
      | .sl e, .str => match E e with
        | some te => match te.und with
          | .it .u8 => match elemsOf H x with
            | some xs => if te.sz = 1 then pureV ((bytesOf xs).map .str) else none
            | none => none
          | _ => none
        | none => none
      | _, _ => none
    | _, _, _ => none
  | .field t x f => match E t, ev s x with
    | some ti, .agg cs => match ti.und with
      | .st fs => match fs[f]? with
        | some (o, ft) => match E ft with
          | some tf => pureV (rdAt tf (.agg cs) o)
          | none => none
        | none => none
      | _ => none
    | _, _ => none
  | .fieldAddr t x f => match E t with
    | some ti => match ti.und with
      | .st fs => match fs[f]? with
        | some (o, ft) => match E ft with
          | some tf => if tf.sz = 0 then none else match ev s x with
            | .ptr id ver idx off => match H.blk id ver with
              | some _ => some (.ptr id ver idx (off + o), H)
              | none => none
            | .fe y off => some (.fe y (off + o), H)
            | _ => none
          | none => none
        | none => none
      | _ => none
    | none => none
  | .indexAddr t x i => match E t, ev s i with
    | some ti, .int _ n => match ti.und with
      | .sl e => match E e with
        | some te => match ev s x with
          | .fz xs => if 0 ≤ n then match xs[n.toNat]? with
              | some y => if y.cells.length = te.sz then some (.fe y 0, H) else none
              | none => none
            else none
          | .ref id ver off len => match H.blk id ver with
            | some b => if b.sz = te.sz ∧ 0 ≤ n ∧ n < len ∧ off + len ≤ b.el.length then some (.ptr id ver (off + n.toNat) 0, H) else none
            | none => none
          | _ => none
        | none => none
      | .ar m e => match E e with
        | some te => if 0 ≤ n ∧ n < m then match ev s x with
            | .ptr id ver idx off => match H.blk id ver with
              | some _ => some (.ptr id ver idx (off + n.toNat * te.sz), H)
              | none => none
            | .fe y off => some (.fe y (off + n.toNat * te.sz), H)
            | _ => none
          else none
        | none => none
      | _ => none
    | _, _ => none
  | .index t x i => match E t, ev s i with
    | some ti, .int _ n => match ti.und, ev s x with
      | .str, .str l => if 0 ≤ n then match l[n.toNat]? with | some b => some (.int .u8 b.toNat, H) | none => none else none
      | .ar m e, .agg cs => match E e with
        | some te => if 0 ≤ n ∧ n < m then pureV (rdAt te (.agg cs) (n.toNat * te.sz)) else none
        | none => none
      | _, _ => none
    | _, _ => none
  | .load t x => match E t with
    | some ti => match ev s x with
      | .fe y off => pureV (rdAt ti y off)
      | .ptr id ver idx off => match H.blk id ver with
        | some b => match b.el[idx]? with
          | some y => pureV (rdAt ti y off)
          | none => none
        | none => none
      | _ => none
    | none => none
  | .store t x v => match E t with
    | some ti => match ev s x with
      | .ptr id ver idx off => match H.blk id ver with
        | some b => match b.el[idx]? with
          | some y => if (ev s v).cells.length = ti.sz ∧ storA (ev s v) then match wrAt y off (ev s v) with
              | some y' => some (.tup [], H.upd id { b with el := b.el.set idx y' })
              | none => none
            else none
          | none => none
        | none => none
      | _ => none
    | none => none
  | .alloc t => match E t with
    | some ti => match zeroA ti with
      | some z => some (.ptr H.bs.length H.st 0 0, H.new ti.sz false [z])
      | none => none
    | none => none
  | .box t x => match E t with
    | some ti => if (ev s x).cells.length = ti.sz ∧ storA (ev s x) then some (.ptr H.bs.length H.st 0 0, H.new ti.sz false [ev s x]) else none
    | none => none
  | .build t parts => match E t with
    | some ti => match ti.und with
      | .st fs => if !(fs.all fun f => (E f.2).isSome) || !(ti.zero.all stor1) then none else pureV ((fillA (fun i => match fs[i]? with | some (o, ft) => (E ft).map fun tf => (o, tf.sz) | none => none) ti.zero (parts.toList.map fun p => (p.1, ev s p.2))).map .agg)
      | .ar n e => match E e with
        | some te => if !(ti.zero.all stor1) then none else pureV ((fillA (fun i => if i < n then some (i * te.sz, te.sz) else none) ti.zero (parts.toList.map fun p => (p.1, ev s p.2))).map .agg)
        | none => none
      | _ => none
    | none => none
  | .buildSlice t len parts => match elTI E t with
    | some te => if len = 0 then (if parts.size = 0 then some (.e0, H) else none) else
      match zeroA te with
      | some z => if len * te.sz ≤ 1000000 ∧ te.sz ≠ 0 then
          match fillE te.sz (List.replicate len z) (parts.toList.map fun p => (p.1, ev s p.2)) with
          | some el => some (.ref H.bs.length H.st 0 len, H.new te.sz false el)
          | none => none
        else none
      | none => none
    | none => none
  | .makeSlice t l c => match elTI E t, ev s l, ev s c with
    | some te, .int .i64 n, .int .i64 m =>
      match zeroE te with
      | some z => if 0 ≤ n ∧ n ≤ m ∧ roomy m.toNat te.bytes ∧ te.sz ≠ 0 then some (.ref H.bs.length H.st 0 n.toNat, H.new te.sz false (List.replicate m.toNat z)) else none
      | none => none
    | _, _, _ => none
  | .slice t x lo hi mx =>
    match intOp (lo.map (ev s)), intOp (hi.map (ev s)), intOp (mx.map (ev s)) with
    | some lo, some hi, some mx => pureV (sliceA E t (ev s x) lo hi mx H)
    | _, _, _ => none
  | .makeFunc (.func f) first cap => if first.size = 0 then some (.fn f (cap.toList.map (ev s)), H) else none
  | _ => none

/-- The builtins. -/
def evalBuiltin (E : TEnv) (b : Builtin) (tys : Array TypeId) (args : List AV) (H : Heap) : Option (AV × Heap) :=
  match b, args with
  | .len, [x] => match (tys[0]?).bind E, lenOf H x with
    | some ti, some n => match ti.und, x with
      | .str, .str _ => some (.int .i64 n, H)
      | .sl _, .str _ => none
      | .sl _, _ => some (.int .i64 n, H)
      | _, _ => none
    | _, _ => none
  | .append, [s, x] => match tys[0]? with
    | some t => match elTI E t, (tys[1]?).bind E with
      | some te, some tx => match tx.und with
        | .it _ => match s, x with
          | .nil, .int .i64 n => appendZ te n H
          | _, _ => none
        | _ => appendA te s x H
      | _, _ => none
    | none => none
  | .copy, [d, x] => match (tys[0]?).bind (elTI E) with | some te => copyA te d x H | none => none
  | .clear, [d] => match (tys[0]?).bind (elTI E) with | some te => clearA te d H | none => none
  | .min, xs => match minA xs with | some v => some (v, H) | none => none
  | .max, xs => match maxA xs with | some v => some (v, H) | none => none
  | .cap, [.nil] => match (tys[0]?).bind E with
    | some ti => match ti.und with
      | .sl _ => some (.int .i64 0, H)
      | _ => none
    | none => none
  | _, _ => none

end Go.VS

/-
  VS, part 2: deep values at a call's boundary, the code's semantics, calls.
-/
namespace Go.VS

/-- The shape of a cell: plain, a slice, a pointer to a variable. -/
inductive Sh where
  | sc
  | sl (es : List Sh)
  | pt (es : List Sh)
  deriving Inhabited

def mapH (f : AV → Heap → Option (AV × Heap)) : List AV → Heap → Option (List AV × Heap)
  | [], H => some ([], H)
  | x :: xs, H => match f x H with
    | some (y, H1) => match mapH f xs H1 with
      | some (ys, H2) => some (y :: ys, H2)
      | none => none
    | none => none

def plainA : AV → Bool
  | .undef | .int .. | .bool _ | .str _ | .errv _ | .nilp => true
  | _ => false

mutual
/-- A value taken out of the heap, its slices and variables with it. -/
def takeT : Sh → AV → Heap → Option (AV × Heap)
  | .sc, v, H => if plainA v then some (v, H) else none
  | .sl es, v, H => match v with
    | .nil | .e0 => some (.own es.length [], H)
    | .fz xs => some (.fz xs, H)
    | .ref id ver off len => match H.blk id ver with
      | some b =>
        if b.sz = es.length ∧ off + len ≤ b.el.length ∧ (b.fix = false ∨ 0 < len) then
          match mapH (takeE es) (subL b.el off len) (H.del id) with
          | some (ys, H') => some (.own es.length ys, H')
          | none => none
        else none
      | none => none
    | _ => none
  | .pt es, v, H => match v with
    | .fe x o => some (.fe x o, H)
    | .ptr id ver 0 0 => match H.blk id ver with
      | some ⟨_, sz, _, [x]⟩ =>
        match takeE es x (H.del id) with
        | some (y, H') => some (.optr sz y, H')
        | none => none
      | _ => none
    | _ => none
/-- An element (or a whole value of some cells). -/
def takeE : List Sh → AV → Heap → Option (AV × Heap)
  | es, .agg cs, H => match takeC es cs H with
    | some (cs', H') => some (.agg cs', H')
    | none => none
  | [e], v, H => takeT e v H
  | _, _, _ => none
def takeC : List Sh → List AV → Heap → Option (List AV × Heap)
  | [], [], H => some ([], H)
  | e :: es, v :: vs, H => match takeT e v H with
    | some (y, H1) => match takeC es vs H1 with
      | some (ys, H2) => some (y :: ys, H2)
      | none => none
    | none => none
  | _, _, _ => none
end

/-- What a value reads as, the slices with it; nothing is taken. -/
def snapV : Nat → Heap → AV → Option AV
  | 0, _, _ => none
  | n + 1, H, v => match v with
    | .nil | .e0 => some (.fz [])
    | .ref id ver off len => match H.blk id ver with
      | some b => if off + len ≤ b.el.length then ((subL b.el off len).mapM (snapV n H)).map .fz else none
      | none => none
    | .ptr id ver idx off => match H.blk id ver with
      | some b => match b.el[idx]? with
        | some x => (snapV n H x).map fun y => .fe y off
        | none => none
      | none => none
    | .agg xs => (xs.mapM (snapV n H)).map .agg
    | .fn f caps => (caps.mapM (snapV n H)).map (.fn f)
    | .own .. | .optr .. | .tup _ => none
    | v => some v

mutual
/-- A deep value laid into a heap. -/
def thawV : AV → Heap → AV × Heap
  | .own sz xs, H => let (ys, H1) := thawL xs H; (.ref H1.bs.length H1.st 0 ys.length, H1.new sz false ys)
  | .optr sz x, H => let (y, H1) := thawV x H; (.ptr H1.bs.length H1.st 0 0, H1.new sz false [y])
  | .agg xs, H => let (ys, H1) := thawL xs H; (.agg ys, H1)
  | .tup xs, H => let (ys, H1) := thawL xs H; (.tup ys, H1)
  | v, H => (v, H)
def thawL : List AV → Heap → List AV × Heap
  | [], H => ([], H)
  | x :: xs, H => let (y, H1) := thawV x H; let (ys, H2) := thawL xs H1; (y :: ys, H2)
end

mutual
/-- A deep value that nobody will write. -/
def frzV : AV → AV
  | .own _ xs => .fz (frzL xs)
  | .optr _ x => .fe (frzV x) 0
  | .agg xs => .agg (frzL xs)
  | .tup xs => .tup (frzL xs)
  | v => v
def frzL : List AV → List AV
  | [] => []
  | x :: xs => frzV x :: frzL xs
end

mutual
/-- Is there nothing in it that may be another's? -/
def noFz : AV → Bool
  | .fz _ | .fe .. | .fn .. => false
  | .own _ xs => noFzL xs
  | .optr _ x => noFz x
  | .agg xs => noFzL xs
  | .tup xs => noFzL xs
  | _ => true
def noFzL : List AV → Bool
  | [] => true
  | x :: xs => noFz x && noFzL xs
end

inductive Mode where
  | val      -- read only
  | mov      -- handed over
  | io       -- handed over, and back
  deriving DecidableEq, Inhabited

structure LSpec where
  keep : List Nat := []
  trim : Bool := false
  deriving Inhabited

/-- What is chosen for a function: how its arguments are handed over, which slots stay at a loop's head. None of it is trusted. -/
structure FPol where
  modes : List Mode := []
  psh : List (List Sh) := []
  rsh : List (List Sh) := []
  loops : List (Nat × LSpec) := []
  blocks : List (Nat × List Nat) := []
  regs : List (Nat × List Nat × List Nat) := []
  frz : List (Nat × List (List Nat × List Sh) × Option (List Nat)) := []
  fz : List (Nat × List (Nat × List (List Nat × List Sh))) := []
  cnds : List (Nat × List Nat) := []
  ords : List (Nat × List Nat) := []
  deriving Inhabited

inductive AC where
  | skip
  | ret
  | exit (id : Nat)
  | seq (a b : AC)
  | cond (c : Operand) (a b : AC)
  | block (id : Nat) (keep : Option (List Nat)) (a : AC)
  | loop (sp : LSpec) (a : AC)
  | region (id : Nat) (ops : Array Oper) (draw : Bool) (louds : List Nat) (thaw : List Nat) (fz : List (Nat × List (List Nat × List Sh)))
  | frz (l : List (List Nat × List Sh)) (kp : Option (List Nat))
  | bad
  deriving Inhabited

def regOf (r : Option (List Nat × List Nat)) (fz : List (Nat × List (List Nat × List Sh))) (id : Nat) (ops : Array Oper) (draw : Bool) : AC :=
  match r with
  | some (n, th) => .region id ops draw n th fz
  | none => .region id ops draw [] [] fz

/-- What is kept for good from here on. -/
def withFrz (l : Option (List (List Nat × List Sh) × Option (List Nat))) (c : AC) : AC :=
  match l with
  | some (l, kp) => .seq c (.frz l kp)
  | none => c
/-- Which slots stay behind a condition. -/
def withKill (l : Option (List Nat)) (c : AC) : AC :=
  match l with
  | some kp => .seq c (.frz [] (some kp))
  | none => c
def cndTmp : Operand → Nat
  | .tmp t => t
  | _ => 0

/-! A region's operations in another order. -/
def renum (π : List Nat) (i : Nat) : Nat := π.idxOf i
def permOper (π : List Nat) (o : Oper) : Oper := { o with after := (o.after.toList.filterMap fun e => if Region.binds .any e then some { e with on := renum π e.on } else none).toArray, guard := o.guard.map fun p => (renum π p.1, p.2) }
def permL (π : List Nat) (l : List Oper) : List Oper := π.map fun i => permOper π (l.getD i default)
def permOps (π : List Nat) (ops : Array Oper) : Array Oper := (permL π ops.toList).toArray
/-- Is it an order of all? -/
def permOK (π : List Nat) (ops : Array Oper) : Bool :=
  π.length == ops.size && decide π.Nodup && π.all (· < ops.size) && (List.range ops.size).all (π.contains ·) &&
  ops.toList.all fun o => o.after.all (fun e => !Region.binds .any e || decide (e.on < ops.size)) && (match o.guard with | some (j, _) => decide (j < ops.size) | none => true)

/-- The operations in the order chosen. -/
def ordOf (π : Option (List Nat)) (ops : Array Oper) : Array Oper := match π with | some π => permOps π ops | none => ops
/-- Are the orders chosen orders of all? -/
def ordsOK (p : FPol) : Code → Bool
  | .seq a b => ordsOK p a && ordsOK p b
  | .cond _ a b => ordsOK p a && ordsOK p b
  | .block _ a => ordsOK p a
  | .loop a => ordsOK p a
  | .region id ops draw => match p.ords.lookup id with | some π => draw && permOK π ops | none => true
  | _ => true
def ordsB (p : FPol) (fn : Func) : Bool := match fn.body with | some c => ordsOK p c | none => true

def annot (p : FPol) (cur : Nat) : Code → AC
  | .skip => .skip
  | .ret => .ret
  | .exit id => .exit id
  | .seq a b => .seq (annot p cur a) (annot p cur b)
  | .cond c a b => withKill (p.cnds.lookup (cndTmp c)) (.cond c (annot p cur a) (annot p cur b))
  | .block id a => .block id (p.blocks.lookup id) (annot p id a)
  | .loop a => .loop ((p.loops.lookup cur).getD {}) (annot p cur a)
  | .region id ops draw => withFrz (p.frz.lookup id) (regOf (p.regs.lookup id) ((p.fz.lookup id).getD []) id (ordOf (p.ords.lookup id) ops) draw)
  | _ => .bad

/-- A call, from a heap on, may be asked for what holds behind it. -/
abbrev CallRel := FuncId → List AV → Heap → (AV → Heap → Prop) → Prop

structure Ctx where
  E : TEnv
  pol : FuncId → FPol
  code : FuncId → Option Func
  ext : CallRel

/-- An element's cells, of what is handed over and back. -/
def elSh : List Sh → List Sh
  | [.sl es] => es
  | [.pt es] => es
  | _ => []

/-- What is handed over and back, in the caller's heap. -/
def rootId : AV → Option (Nat × Nat)
  | .ref id ver _ len => if len = 0 then none else some (id, ver)
  | .ptr id ver _ _ => some (id, ver)
  | _ => none

/-- The same in the callee's. -/
def rootK : AV → Option (Nat × Nat)
  | .ref id ver _ _ => some (id, ver)
  | .ptr id ver _ _ => some (id, ver)
  | _ => none

def prepM (m : Mode) (sh : List Sh) (v : AV) (H : Heap) : Option (AV × Heap) :=
  match m with
  | .val => some (v, H)
  | .mov => takeE sh v H
  | .io => match v with
    | .nil => some (.own (elSh sh).length [], H)
    | .e0 => some (.own (elSh sh).length [], H)
    | .ref id ver off len => match H.blk id ver with
      | some b => if len = 0 then some (.own (elSh sh).length [], H) else if off = 0 ∧ len = b.el.length then takeE sh v H else none
      | none => none
    | .ptr .. => takeE sh v H
    | _ => none

/-- Arguments in the callee's eyes: deep values, the heap that is left, is anything lent. Handed over first, lent then. -/
def prepMove : List Mode → List (List Sh) → List AV → Heap → Option (List AV × Heap)
  | m :: ms, psh, v :: vs, H =>
    match prepM m (psh.headD []) v H with
    | some (y, H1) => match prepMove ms psh.tail vs H1 with
      | some (ys, H2) => some (y :: ys, H2)
      | none => none
    | none => none
  | [], _, vs, H => some (vs, H)
  | _, _, [], H => some ([], H)

mutual
/-- Does it lead to memory that the caller may write? -/
def lends : AV → Bool
  | .ref .. | .ptr .. | .own .. | .optr .. => true
  | .agg xs | .tup xs | .fn _ xs => lendsL xs
  | _ => false
def lendsL : List AV → Bool
  | [] => false
  | x :: xs => lends x || lendsL xs
end

def prepVal : List Mode → List AV → Heap → Option (List AV × Bool)
  | _, [], _ => some ([], false)
  | m :: ms, v :: vs, H => match m with
    | .val => match snapV 8 H v with
      | some y => match prepVal ms vs H with
        | some (ys, b) => some (y :: ys, lends v || b)
        | none => none
      | none => none
    | _ => match prepVal ms vs H with
      | some (ys, b) => some (v :: ys, b)
      | none => none
  | [], v :: vs, H => match snapV 8 H v with
    | some y => match prepVal [] vs H with
      | some (ys, b) => some (y :: ys, lends v || b)
      | none => none
    | none => none

/-- What was handed over, and back, is in its place again, its content open. -/
def putJunk (H0 : Heap) : List Mode → List AV → Heap → Heap
  | .io :: ms, v :: vs, H => putJunk H0 ms vs (match rootId v with
    | some (id, ver) => match H0.blk id ver with
      | some b => H.upd id { b with el := b.el.map fun _ => .agg (List.replicate b.sz .undef) }
      | none => H
    | none => H)
  | _ :: ms, _ :: vs, H => putJunk H0 ms vs H
  | _, _, H => H

/-- Its content comes. -/
def putEls : List Mode → List AV → List AV → Heap → Option Heap
  | .io :: ms, v :: vs, o :: outs, H => match rootId v with
    | some (id, ver) => match o, H.blk id ver with
      | .own _ xs, some b =>
        if xs.length = b.el.length then
          putEls ms vs outs ((thawL xs H).2.upd id { b with el := (thawL xs H).1 })
        else none
      | _, _ => none
    | none => putEls ms vs outs H
  | .io :: _, _ :: _, [], _ => none
  | _ :: ms, _ :: vs, outs, H => putEls ms vs outs H
  | _, _, _, H => some H

def takeVals : List (List Sh) → List AV → Heap → Option (List AV × Heap)
  | _, [], H => some ([], H)
  | sh, v :: vs, H => match takeE (sh.headD []) v H with
    | some (y, H1) => match takeVals sh.tail vs H1 with
      | some (ys, H2) => some (y :: ys, H2)
      | none => none
    | none => none

def oneOrTup : List AV → AV
  | [v] => v
  | vs => .tup vs

/-- A call that only reads, shown on deep values: what it gives hangs on nothing else. (For a region whose order is open.) -/
def wpCallQ (X : CallRel) (C : Ctx) (f : FuncId) (args : List AV) (thaw : Bool) (H : Heap) (K : AV → Heap → Prop) : Prop :=
  match prepVal [] args H with
  | none => False
  | some (ys, lent) => ∃ y, X f ys ⟨0, []⟩ (fun v L => ∃ rs zs L2, v = oneOrTup rs ∧ takeVals (C.pol f).rsh rs L = some (zs, L2) ∧ y = oneOrTup zs) ∧ (lent = false ∨ noFz y = true) ∧
      if thaw || lent then K (thawV y H).1 (thawV y H).2 else K (frzV y) H

/-- Does an operation only read, or make memory? (For a region whose order is open.) -/
def quietOp : Op → Bool
  | .load .. | .alloc _ | .box .. | .buildSlice .. | .makeSlice .. | .move _ | .assign _ | .pick .. | .binOp .. | .unOp .. | .extract .. | .nilCheck _ | .field ..
  | .fieldAddr .. | .index .. | .indexAddr .. | .build .. | .makeFunc .. | .slice .. | .convert .. => true
  | _ => false
def quietBuiltin (b : Builtin) (args : List AV) : Bool :=
  match b, args with
  | .len, _ | .min, _ | .max, _ => true
  | .append, .nil :: _ | .append, .e0 :: _ => true
  | .cap, _ => true
  | _, _ => false

/-- One operation. 'q': it has to be quiet. -/
def wpOp (X : CallRel) (C : Ctx) (q thaw : Bool) (o : Oper) (s : Frm) (H : Heap) (K : AV → Heap → Prop) : Prop :=
  match o.op with
  | .call { callee := .builtin b, args, argTypes } =>
    (q = true → quietBuiltin b (args.toList.map (ev s)) = true) ∧
    match evalBuiltin C.E b argTypes (args.toList.map (ev s)) H with
    | some (v, H') => K v H'
    | none => False
  | .call { callee := .value f, args, .. } => match ev s f with
    | .fn g caps => if q then wpCallQ X C g (args.toList.map (ev s) ++ caps) thaw H K else X g (args.toList.map (ev s) ++ caps) H K ∨ wpCallQ X C g (args.toList.map (ev s) ++ caps) thaw H K
    | _ => False
  | op => (q = true → quietOp op = true) ∧ match evalOp C.E op s H with
    | some (v, H') => K v H'
    | none => False

def setA (s : Frm) (d : Option Tmp) (v : AV) : Frm :=
  match d with
  | some t => s.set t v
  | none => s

/-- Is the operation's guard met? (None: it can't be told.) -/
def guardA (ops : Array Oper) (o : Oper) (s : Frm) : Option Bool :=
  match o.guard with
  | none => some true
  | some (j, want) => match (ops[j]?).bind (·.dst) with
    | some t => match s.getD t .undef with
      | .bool b => some (b == want)
      | .tup _ => some false
      | _ => none
    | none => none

/-- What is done late does the same. -/
def lateChk (C : Ctx) (ops : Array Oper) (s : Frm) (H : Heap) (j : Nat) : Prop :=
  match ops[j]? with
  | some o => match o.dst with
    | some d => evalOp C.E o.op s H = some (s.getD d .undef, H)
    | none => False
  | none => False

def lateAll (C : Ctx) (ops : Array Oper) (s : Frm) (H : Heap) (K : Prop) : List Nat → Prop
  | [] => K
  | j :: js => lateChk C ops s H j ∧ lateAll C ops s H K js

/-- A region's operations, in the text's order. 'q': which have to be quiet; 'late': what may come later than an operation that writes. -/
def wpOpsA (X : CallRel) (C : Ctx) (ops : Array Oper) (q : Nat → Bool) (late : Nat → List Nat) (th : List Nat) (K : Frm → Heap → Prop) : List Oper → Nat → Frm → Heap → Prop
  | [], _, s, H => K s H
  | o :: rest, i, s, H =>
    match o.guard with
    | none => wpOp X C (q i) (th.contains i) o s H fun v H' => lateAll C ops (setA s o.dst v) H' (wpOpsA X C ops q late th K rest (i + 1) (setA s o.dst v) H') (late i)
    | some _ => ∃ v H', (match guardA ops o s with
        | some b => if b then wpOp X C (q i) (th.contains i) o s H (fun v1 H1 => v1 = v ∧ H1 = H') else v = .tup [] ∧ H' = H
        | none => False) ∧ lateAll C ops (setA s o.dst v) H' (wpOpsA X C ops q late th K rest (i + 1) (setA s o.dst v) H') (late i)

inductive Ex where
  | normal
  | exit (id : Nat)
  | ret

def killF (keep : List Nat) (s : Frm) : Frm := go 0 s
  where
  go (i : Nat) : Frm → Frm
    | [] => []
    | x :: xs => (if keep.contains i then x else .undef) :: go (i + 1) xs

def killB (keep : Option (List Nat)) (s : Frm) : Frm := match keep with | some l => killF l s | none => s

/-- The least predicate that a loop's round keeps. -/
def LoopP (B : Frm → Heap → (Ex → Frm → Heap → Prop) → Prop) (next : Frm → Heap → Frm × Heap) (K : Ex → Frm → Heap → Prop) (s : Frm) (H : Heap) : Prop :=
  ∀ X : Frm → Heap → Prop, (∀ s H, B s H (fun e s' H' => match e with
    | .normal => X (next s' H').1 (next s' H').2
    | e => K e s' H') → X s H) → X s H

/-- Operations that only read. -/
def lateOp : Op → Bool
  | .move _ | .assign _ | .pick .. | .binOp .. | .unOp .. | .extract .. | .nilCheck _ | .field .. | .fieldAddr .. | .index .. | .indexAddr .. | .load .. | .slice .. => true
  | _ => false

/-- Operations that make memory and look at nothing: they may come ahead of what writes. -/
def earlyOp : Op → Bool
  | .alloc _ => true
  | _ => false

/-- What lies ahead of each operation by the edges, as sets of bits. -/
def befGo : List Oper → List Nat → List Nat
  | [], acc => acc
  | o :: os, acc => befGo os (acc ++ [o.after.toList.foldl (fun m e => if Region.binds .any e then m ||| 2 ^ e.on ||| acc.getD e.on 0 else m) 0])
def bef (ops : List Oper) : List Nat := befGo ops []

def tmpsOf (ops : Array Oper) (o : Oper) : List Tmp := o.dst.toList ++ Oper.looksAt ops o

/-- May the region's order be left open? 'louds': the operations that write. -/
def drawOK (ops : Array Oper) (louds : List Nat) : Bool :=
  let l := ops.toList
  let bs := bef l
  let n := l.length
  (List.range n).all fun i =>
    match l[i]? with
    | none => true
    | some o =>
      o.after.all (fun e => !Region.binds .any e || decide (e.on < i)) &&
      (List.range n).all fun j => match l[j]? with
        | none => true
        | some p => i == j ||
          ((match p.dst with
            | some d => o.dst != some d && (!(Oper.looksAt ops o).contains d || (bs.getD (max i j) 0).testBit (min i j))
            | none => true) &&
           (!(louds.contains i && decide (i < j)) || (bs.getD j 0).testBit i || (!louds.contains j && p.guard.isNone && earlyOp p.op && p.dst.isSome)) &&
           (!(louds.contains i && decide (j < i)) || (bs.getD i 0).testBit j ||
             (!louds.contains j && p.guard.isNone && lateOp p.op && p.dst.isSome &&
               (List.range n).all fun k => match l[k]? with
                 | none => true
                 | some r => match r.dst with
                   | some d => !(decide (j ≤ k) && (Oper.looksAt ops p).contains d)
                   | none => true)))

/-- What may come after an operation that writes, though the text has it before. -/
def lateOf (ops : Array Oper) (louds : List Nat) (i : Nat) : List Nat :=
  if louds.contains i then (List.range i).filter fun j => !((bef ops.toList).getD i 0).testBit j else []

def nextL (sp : LSpec) (n : Nat) (s : Frm) (H : Heap) : Frm × Heap :=
  (killF sp.keep s, if sp.trim then H.trim n else H)

def sameRef : AV → AV → Bool
  | .ref a b c d, .ref a' b' c' d' => a == a' && b == b' && c == c' && d == d'
  | .nil, .nil => true
  | .e0, .e0 => true
  | _, _ => false

def setSame (x y : AV) : List Nat → Frm → Frm
  | [], s => s
  | t :: ts, s => setSame x y ts (if sameRef (s.getD t .undef) x then s.set t y else s)

def wkSlot (t : Nat) (s : Frm) (H : Heap) : Frm × Heap :=
  match s.getD t .undef with
  | .ref id ver _ _ => match H.blk id ver with
    | some b => (s, H.upd id { b with el := b.el.map wkA })
    | none => (s, H)
  | v => (s.set t (wkA v), H)

/-- Slots whose memory nobody writes any more: the first of each list is taken, the others are the same. (Without a shape: less is said of it.) -/
def frzSlots : List (List Nat × List Sh) → Frm → Heap → Option (Frm × Heap)
  | [], s, H => some (s, H)
  | ([], _) :: _, _, _ => none
  | (t :: _, []) :: l, s, H => frzSlots l (wkSlot t s H).1 (wkSlot t s H).2
  | (t :: ts, sh) :: l, s, H => match takeE sh (s.getD t .undef) H with
    | some (y, H1) => frzSlots l (setSame (s.getD t .undef) (frzV y) ts (s.set t (frzV y))) H1
    | none => none

/-- A region's operations in the text's order; before some, slots are kept for good. -/
def wpOpsN (X : CallRel) (C : Ctx) (ops : Array Oper) (th : List Nat) (fz : List (Nat × List (List Nat × List Sh))) (K : Frm → Heap → Prop) : List Oper → Nat → Frm → Heap → Prop
  | [], _, s, H => K s H
  | o :: rest, i, s0, H0 => ∃ s H, frzSlots ((fz.lookup i).getD []) s0 H0 = some (s, H) ∧
    match o.guard with
    | none => wpOp X C false (th.contains i) o s H fun v H' => wpOpsN X C ops th fz K rest (i + 1) (setA s o.dst v) H'
    | some _ => ∃ v H', (match guardA ops o s with
        | some b => if b then wpOp X C false (th.contains i) o s H (fun v1 H1 => v1 = v ∧ H1 = H') else v = .tup [] ∧ H' = H
        | none => False) ∧ wpOpsN X C ops th fz K rest (i + 1) (setA s o.dst v) H'

def wpC (X : CallRel) (C : Ctx) : AC → Frm → Heap → (Ex → Frm → Heap → Prop) → Prop
  | .skip, s, H, K => K .normal s H
  | .ret, s, H, K => K .ret s H
  | .exit id, s, H, K => K (.exit id) s H
  | .seq a b, s, H, K => wpC X C a s H fun e s' H' => match e with
    | .normal => wpC X C b s' H' K
    | e => K e s' H'
  | .cond c a b, s, H, K => match ev s c with
    | .bool t => if t then wpC X C a s H K else wpC X C b s H K
    | _ => False
  | .block id keep a, s, H, K => wpC X C a s H fun e s' H' => match e with
    | .exit j => if j = id then K .normal (killB keep s') H' else K (.exit j) s' H'
    | .normal => K .normal (killB keep s') H'
    | .ret => K .ret s' H'
  | .loop sp a, s, H, K => LoopP (wpC X C a) (nextL sp H.bs.length) K (nextL sp H.bs.length s H).1 (nextL sp H.bs.length s H).2
  | .region _ ops true louds th _, s, H, K => drawOK ops louds = true ∧ wpOpsA X C ops (fun i => !louds.contains i) (lateOf ops louds) th (fun s H => K .normal s H) ops.toList 0 s H
  | .region _ ops false _ th fz, s, H, K => wpOpsN X C ops th fz (fun s H => K .normal s H) ops.toList 0 s H
  | .frz l kp, s, H, K => match frzSlots l s H with
    | some (s', H') => K .normal (killB kp s') H'
    | none => False
  | .bad, _, _, _ => False

/-- Arguments laid into the callee's heap. -/
def thawArgs : List Mode → List AV → Heap → List AV × Heap
  | .io :: ms, .own sz xs :: vs, H =>
    let (ys, H1) := thawL xs H
    let (rs, H2) := thawArgs ms vs (H1.new sz true ys)
    (.ref H1.bs.length H1.st 0 ys.length :: rs, H2)
  | m, v :: vs, H =>
    let (y, H1) := thawV v H
    let (rs, H2) := thawArgs m.tail vs H1
    (y :: rs, H2)
  | _, [], H => ([], H)

/-- What was handed over, and goes back: first all of it leaves the heap, then its elements are taken. -/
def takeRoots : List Mode → List AV → Heap → Option (List (List AV) × Heap)
  | .io :: ms, v :: vs, H => match rootK v with
    | some (id, ver) => match H.blk id ver with
      | some b => match takeRoots ms vs (H.del id) with
        | some (r, H') => some (b.el :: r, H')
        | none => none
      | none => none
    | none => none
  | _ :: ms, _ :: vs, H => takeRoots ms vs H
  | _, _, H => some ([], H)
def takeLs : List Mode → List (List Sh) → List (List AV) → Heap → Option (List AV × Heap)
  | .io :: ms, sh, l :: ls, H => match mapH (takeE (elSh (sh.headD []))) l H with
    | some (ys, H1) => match takeLs ms sh.tail ls H1 with
      | some (r, H2) => some (.own (elSh (sh.headD [])).length ys :: r, H2)
      | none => none
    | none => none
  | .io :: _, _, [], H => some ([], H)
  | _ :: ms, sh, ls, H => takeLs ms sh.tail ls H
  | [], _, _, H => some ([], H)
def takeOuts (ms : List Mode) (sh : List (List Sh)) (vs : List AV) (H : Heap) : Option (List AV × Heap) :=
  match takeRoots ms vs H with
  | some (ls, H1) => takeLs ms sh ls H1
  | none => none

/-- The values of the results. -/
def resVals (E : TEnv) (s : Frm) (H : Heap) : List ResultVar → Option (List AV)
  | [] => some []
  | .tmp t :: rs => (resVals E s H rs).map (s.getD t .undef :: ·)
  | .cell a t :: rs => match evalOp E (.load t (.tmp a)) s H with
    | some (v, _) => (resVals E s H rs).map (v :: ·)
    | none => none

/-- What is asked at a body's end. -/
def finK (E : TEnv) (res : List ResultVar) (K : AV → Heap → Prop) : Ex → Frm → Heap → Prop
  | .exit _, _, _ => False
  | .normal, s, H => ∃ rs, resVals E s H res = some rs ∧ K (oneOrTup rs) H
  | .ret, s, H => ∃ rs, resVals E s H res = some rs ∧ K (oneOrTup rs) H

/-- A function's body does this. -/
def Body (X : CallRel) (C : Ctx) : CallRel := fun f ys H K =>
  match C.code f with
  | none => False
  | some fn => match fn.body with
    | none => False
    | some c =>
      wpC X C (annot (C.pol f) 0 c) (ys ++ List.replicate (fn.ntmps - ys.length) .undef) H (finK C.E fn.results.toList K)

def Closed (C : Ctx) (X : CallRel) : Prop := (∀ f ys H K, C.ext f ys H K → X f ys H K) ∧ ∀ f ys H K, Body X C f ys H K → X f ys H K

/-- The call ends, and then this holds. -/
def ACall (C : Ctx) : CallRel := fun f ys H K => ∀ X : CallRel, Closed C X → X f ys H K

end Go.VS

/-
  VS, part 3: how abstract values and heaps stand to the machine's.
-/
namespace Go.VS

/-- Where a block of the abstract heap lies. 'virt': an empty one that lies nowhere. -/
inductive Loc where
  | virt
  | at_ (c b : Nat)

abbrev Phi := Nat → Option Loc
abbrev Avoid := Nat → Prop

def Ow (φ : Phi) (c : Nat) : Prop := ∃ id b, φ id = some (.at_ c b)

def bsz (w : World) (c : Nat) : Nat := match w.heap[c]? with | some (.cells arr _ _) => arr.size | _ => 0

/-- A deep value that nobody writes; 'A': blocks in which it may not lie. -/
inductive FR (w : World) (A : Avoid) : AV → Value → Prop
  | undef (v) : FR w A .undef v
  | int (k n) : FR w A (.int k n) (.int k n)
  | bool (b) : FR w A (.bool b) (.bool b)
  | str (s : ByteArray) : FR w A (.str s.data.toList) (.string s)
  | agg (xs : List AV) (vs : Array Value) : xs.length = vs.size → (∀ (j : Nat) (v : Value), vs[j]? = some v → v.oneCell' = true) → (∀ (i : Nat) (x : AV) (v : Value), xs[i]? = some x → vs[i]? = some v → FR w A x v) → FR w A (.agg xs) (.agg vs)
  | tup (xs : List AV) (vs : Array Value) : xs.length = vs.size → (∀ (i : Nat) (x : AV) (v : Value), xs[i]? = some x → vs[i]? = some v → FR w A x v) → FR w A (.tup xs) (.tuple vs)
  | nil : FR w A .nil (.slice none 0 0)
  | e0 (a) : FR w A .e0 (.slice a 0 0)
  | fz0 (a cap) : FR w A (.fz []) (.slice a 0 cap)
  | fz (xs : List AV) (c off cap n : Nat) (arr : Array Value) (T : TypeId) (fr : Nat × Nat) : w.heap[c]? = some (.cells arr T fr) → ¬ A c → xs.length ≤ cap → off + xs.length * n ≤ arr.size →
      (∀ (i : Nat) (x : AV), xs[i]? = some x → x.cells.length = n) →
      (∀ (j : Nat) (v : Value), j < xs.length * n → arr[off + j]? = some v → v.oneCell' = true) →
      (∀ (i : Nat) (x : AV) (j : Nat) (y : AV) (v : Value), xs[i]? = some x → x.cells[j]? = some y → arr[off + i * n + j]? = some v → FR w A y v) →
      FR w A (.fz xs) (.slice (some ⟨c, off, none⟩) xs.length cap)
  | fe (x : AV) (off c o : Nat) (arr : Array Value) (T : TypeId) (fr : Nat × Nat) : w.heap[c]? = some (.cells arr T fr) → ¬ A c → o + x.cells.length ≤ arr.size →
      (∀ (j : Nat) (v : Value), j < x.cells.length → arr[o + j]? = some v → v.oneCell' = true) →
      (∀ (j : Nat) (y : AV) (v : Value), x.cells[j]? = some y → arr[o + j]? = some v → FR w A y v) →
      FR w A (.fe x off) (.pointer (some ⟨c, o + off, none⟩))
  | fn (f : FuncId) (xs : List AV) (vs : Array Value) : xs.length = vs.size → (∀ (i : Nat) (x : AV) (v : Value), xs[i]? = some x → vs[i]? = some v → FR w A x v) → FR w A (.fn f xs) (.func (.func f) #[] vs)
  | noerr : FR w A (.errv false) .nilIface
  | err (t v) : FR w A (.errv true) (.iface t v)
  | nilp : FR w A .nilp (.pointer none)

structure RefOK (w : World) (φ : Phi) (b : Blk) (id off len : Nat) (v : Value) : Prop where
  out : ∃ loc a cap, φ id = some loc ∧ v = .slice a len cap ∧ off + len ≤ b.el.length ∧ len ≤ cap ∧ b.el.length ≤ off + cap ∧
    (match loc with
     | .virt => b.el = [] ∧ (b.fix = false → cap = 0)
     | .at_ c b0 => cap = 0 ∨ (a = some ⟨c, b0 + off * b.sz, none⟩ ∧ b0 + (off + cap) * b.sz ≤ bsz w c))

/-- A value against the heap. -/
inductive R (w : World) (H : Heap) (φ : Phi) (A : Avoid) : AV → Value → Prop
  | fr (x v) : FR w A x v → R w H φ A x v
  | agg (xs : List AV) (vs : Array Value) : xs.length = vs.size → (∀ (j : Nat) (v : Value), vs[j]? = some v → v.oneCell' = true) → (∀ (i : Nat) (x : AV) (v : Value), xs[i]? = some x → vs[i]? = some v → R w H φ A x v) → R w H φ A (.agg xs) (.agg vs)
  | tup (xs : List AV) (vs : Array Value) : xs.length = vs.size → (∀ (i : Nat) (x : AV) (v : Value), xs[i]? = some x → vs[i]? = some v → R w H φ A x v) → R w H φ A (.tup xs) (.tuple vs)
  | fn (f : FuncId) (xs : List AV) (vs : Array Value) : xs.length = vs.size → (∀ (i : Nat) (x : AV) (v : Value), xs[i]? = some x → vs[i]? = some v → R w H φ A x v) → R w H φ A (.fn f xs) (.func (.func f) #[] vs)
  | ref (id ver off len : Nat) (v : Value) : ver < H.st → (∃ a c, v = .slice a len c) → (∀ b, H.blk id ver = some b → RefOK w φ b id off len v) → R w H φ A (.ref id ver off len) v
  | ptr (id ver idx off : Nat) (v : Value) : ver < H.st → (∃ a, v = .pointer a) → (∀ b, H.blk id ver = some b → ∃ c b0, φ id = some (.at_ c b0) ∧ v = .pointer (some ⟨c, b0 + idx * b.sz + off, none⟩)) →
      R w H φ A (.ptr id ver idx off) v

structure BlkOK (w : World) (H : Heap) (φ : Phi) (A : Avoid) (b : Blk) (loc : Loc) : Prop where
  ver : b.ver < H.st
  sized : ∀ (i : Nat) (x : AV), b.el[i]? = some x → x.cells.length = b.sz
  virt : loc = .virt → b.el = []
  here : ∀ c b0, loc = .at_ c b0 → ∃ arr T fr, w.heap[c]? = some (.cells arr T fr) ∧ (∀ j, j < arr.size → ¬ (fr.1 ≤ j ∧ j < fr.2)) ∧ b0 + b.el.length * b.sz ≤ arr.size ∧
    ∀ (i : Nat) (x : AV) (j : Nat) (y : AV) (v : Value), b.el[i]? = some x → x.cells[j]? = some y → arr[b0 + i * b.sz + j]? = some v → R w H φ A y v ∧ v.oneCell' = true

structure St (w : World) (H : Heap) (φ : Phi) (A : Avoid) : Prop where
  inj : ∀ id id' c b b', φ id = some (.at_ c b) → φ id' = some (.at_ c b') → id = id'
  own : ∀ c, Ow φ c → A c
  bnd : ∀ c, A c → c < w.heap.size
  blk : ∀ id loc, φ id = some loc → ∃ b, H.get id = some b ∧ BlkOK w H φ A b loc

/-- What a piece of code does to the machine's memory, seen from outside. -/
structure Post (w : World) (φ : Phi) (w' : World) (φ' : Phi) : Prop where
  os : w'.os = w.os
  tape : w'.tape = w.tape
  output : w'.output = w.output
  size : w.heap.size ≤ w'.heap.size
  kept : ∀ c, c < w.heap.size → ¬ Ow φ c → w'.heap[c]? = w.heap[c]?
  bsz : ∀ c, c < w.heap.size → bsz w' c = bsz w c
  own : ∀ c, Ow φ' c → Ow φ c ∨ w.heap.size ≤ c

theorem Post.refl (w : World) (φ : Phi) : Post w φ w φ := ⟨rfl, rfl, rfl, Nat.le_refl _, fun _ _ _ => rfl, fun _ _ => rfl, fun _ h => .inl h⟩

theorem Post.trans {w w1 w2 : World} {φ φ1 φ2 : Phi} (h : Post w φ w1 φ1) (k : Post w1 φ1 w2 φ2) : Post w φ w2 φ2 where
  os := k.os.trans h.os
  tape := k.tape.trans h.tape
  output := k.output.trans h.output
  size := Nat.le_trans h.size k.size
  kept c hc hn := by
    rw [k.kept c (Nat.lt_of_lt_of_le hc h.size) (fun ho => by rcases h.own c ho with h1 | h1; exact hn h1; omega)]
    exact h.kept c hc hn
  bsz c hc := (k.bsz c (Nat.lt_of_lt_of_le hc h.size)).trans (h.bsz c hc)
  own c hc := by
    rcases k.own c hc with h1 | h1
    · exact h.own c h1
    · exact .inr (Nat.le_trans h.size h1)

/-! Small facts on the abstract heap. -/
theorem Heap.blk_get {H : Heap} {id ver : Nat} {b : Blk} (h : H.blk id ver = some b) : H.get id = some b ∧ b.ver = ver := by
  unfold Heap.blk at h
  unfold Heap.get
  split at h
  · rename_i b' hb
    split at h
    · simp at h; subst h; simp [*]
    · simp at h
  · simp at h

theorem Heap.blk_of_get {H : Heap} {id : Nat} {b : Blk} (h : H.get id = some b) : H.blk id b.ver = some b := by
  unfold Heap.get at h
  unfold Heap.blk
  cases hb : H.bs[id]? with
  | none => simp [hb] at h
  | some o => cases o with
    | none => simp [hb] at h
    | some b' => simp [hb] at h; subst h; simp

theorem Heap.get_lt {H : Heap} {id : Nat} {b : Blk} (h : H.get id = some b) : id < H.bs.length := by
  unfold Heap.get at h
  cases hb : H.bs[id]? with
  | none => simp [hb] at h
  | some o => exact (List.getElem?_eq_some_iff.1 hb).1

/-! Frozen values do not hang on the rest. -/
theorem FR.mono {w w' : World} {A A' : Avoid} (hk : ∀ c arr T fr, w.heap[c]? = some (.cells arr T fr) → ¬ A c → (∃ fr', w'.heap[c]? = some (.cells arr T fr')) ∧ ¬ A' c)
    {x : AV} {v : Value} (h : FR w A x v) : FR w' A' x v := by
  induction h with
  | undef v => exact .undef v
  | int k n => exact .int k n
  | bool b => exact .bool b
  | str s => exact .str s
  | agg xs vs hl ho _ ih => exact .agg xs vs hl ho ih
  | tup xs vs hl _ ih => exact .tup xs vs hl ih
  | nil => exact .nil
  | e0 a => exact .e0 a
  | fz0 a cap => exact .fz0 a cap
  | fz xs c off cap n arr T fr hc hA hcap hsz hn ho _ ih => obtain ⟨⟨fr', h1⟩, h2⟩ := hk c arr T fr hc hA; exact .fz xs c off cap n arr T fr' h1 h2 hcap hsz hn ho ih
  | fe x off c o arr T fr hc hA hsz ho _ ih => obtain ⟨⟨fr', h1⟩, h2⟩ := hk c arr T fr hc hA; exact .fe x off c o arr T fr' h1 h2 hsz ho ih
  | fn f xs vs hl _ ih => exact .fn f xs vs hl ih
  | noerr => exact .noerr
  | err t v => exact .err t v
  | nilp => exact .nilp

theorem FR.shrink {w : World} {A A' : Avoid} (hA : ∀ c, A' c → A c) {x : AV} {v : Value} (h : FR w A x v) : FR w A' x v :=
  h.mono fun c _arr _T fr hc hn => ⟨⟨fr, hc⟩, fun hc' => hn (hA c hc')⟩

/-- How states may follow one another so that values keep their meaning. -/
structure Evo (w : World) (H : Heap) (φ : Phi) (A : Avoid) (w' : World) (H' : Heap) (φ' : Phi) (A' : Avoid) : Prop where
  fz : ∀ c arr T fr, w.heap[c]? = some (.cells arr T fr) → ¬ A c → (∃ fr', w'.heap[c]? = some (.cells arr T fr')) ∧ ¬ A' c
  st : H.st ≤ H'.st
  ids : ∀ id b', H'.get id = some b' → b'.ver < H.st → ∃ b, H.get id = some b ∧ b.ver = b'.ver ∧ b'.sz = b.sz ∧ b'.fix = b.fix ∧ b'.el.length = b.el.length ∧
    ∀ loc, φ id = some loc → φ' id = some loc
  sz : ∀ c, Ow φ c → bsz w' c = bsz w c

theorem Evo.refl (w : World) (H : Heap) (φ : Phi) (A : Avoid) : Evo w H φ A w H φ A :=
  ⟨fun _c _arr _T fr h hn => ⟨⟨fr, h⟩, hn⟩, Nat.le_refl _, fun _id b h _ => ⟨b, h, rfl, rfl, rfl, rfl, fun _ h => h⟩, fun _ _ => rfl⟩

theorem R.mono {w w' : World} {H H' : Heap} {φ φ' : Phi} {A A' : Avoid} (e : Evo w H φ A w' H' φ' A') {x : AV} {v : Value} (h : R w H φ A x v) : R w' H' φ' A' x v := by
  induction h with
  | fr x v h => exact .fr x v (h.mono e.fz)
  | agg xs vs hl ho _ ih => exact .agg xs vs hl ho ih
  | tup xs vs hl _ ih => exact .tup xs vs hl ih
  | fn f xs vs hl _ ih => exact .fn f xs vs hl ih
  | ref id ver off len v hv hs0 hb =>
    refine .ref id ver off len v (Nat.lt_of_lt_of_le hv e.st) hs0 fun b' hb' => ?_
    obtain ⟨hg, hver⟩ := Heap.blk_get hb'
    obtain ⟨b, hg0, hv0, hs, hf, hl, hφ⟩ := e.ids id b' hg (by omega)
    have hbk : H.blk id ver = some b := by have := Heap.blk_of_get hg0; rw [hv0, hver] at this; exact this
    obtain ⟨loc, a, cap, h1, h2, h3, h4, h5, h6⟩ := (hb b hbk).out
    refine ⟨loc, a, cap, hφ loc h1, h2, by omega, h4, by omega, ?_⟩
    cases loc with
    | virt => simp only at h6 ⊢; exact ⟨List.eq_nil_of_length_eq_zero (by rw [hl, h6.1]; rfl), fun h => h6.2 (by rw [← hf]; exact h)⟩
    | at_ c b0 =>
      simp only at h6 ⊢
      rw [hs, e.sz c ⟨id, b0, h1⟩]
      exact h6
  | ptr id ver idx off v hv hs0 hb =>
    refine .ptr id ver idx off v (Nat.lt_of_lt_of_le hv e.st) hs0 fun b' hb' => ?_
    obtain ⟨hg, hver⟩ := Heap.blk_get hb'
    obtain ⟨b, hg0, hv0, hs, _, _, hφ⟩ := e.ids id b' hg (by omega)
    have hbk : H.blk id ver = some b := by have := Heap.blk_of_get hg0; rw [hv0, hver] at this; exact this
    obtain ⟨c, b0, h1, h2⟩ := hb b hbk
    exact ⟨c, b0, hφ _ h1, by rw [hs]; exact h2⟩

theorem Evo.trans {w w1 w2 : World} {H H1 H2 : Heap} {φ φ1 φ2 : Phi} {A A1 A2 : Avoid} (h : Evo w H φ A w1 H1 φ1 A1) (k : Evo w1 H1 φ1 A1 w2 H2 φ2 A2)
    (hst : ∀ c, Ow φ c → bsz w2 c = bsz w c) : Evo w H φ A w2 H2 φ2 A2 where
  fz c arr T fr hc hn := by
    obtain ⟨⟨fr1, h1⟩, h2⟩ := h.fz c arr T fr hc hn
    exact k.fz c arr T fr1 h1 h2
  st := Nat.le_trans h.st k.st
  ids id b2 hg hv := by
    obtain ⟨b1, g1, e1, e2, e3, e4, e5⟩ := k.ids id b2 hg (Nat.lt_of_lt_of_le hv h.st)
    obtain ⟨b, g, f1, f2, f3, f4, f5⟩ := h.ids id b1 g1 (by omega)
    exact ⟨b, g, f1.trans e1, e2.trans f2, e3.trans f3, e4.trans f4, fun loc hl => e5 loc (f5 loc hl)⟩
  sz := hst

/-! Reading a value's relation. -/
section inv
variable {w : World} {H : Heap} {φ : Phi} {A : Avoid}
theorem R.int_inv {k : IntKind} {n : Int} {v : Value} (h : R w H φ A (.int k n) v) : v = .int k n := by cases h with | fr _ _ h => cases h; rfl
theorem R.bool_inv {b : Bool} {v : Value} (h : R w H φ A (.bool b) v) : v = .bool b := by cases h with | fr _ _ h => cases h; rfl
theorem R.str_inv {s : List UInt8} {v : Value} (h : R w H φ A (.str s) v) : ∃ b : ByteArray, v = .string b ∧ b.data.toList = s := by
  cases h with | fr _ _ h => cases h with | str s => exact ⟨s, rfl, rfl⟩
theorem R.agg_inv {xs : List AV} {v : Value} (h : R w H φ A (.agg xs) v) : ∃ vs : Array Value, v = .agg vs ∧ xs.length = vs.size ∧ (∀ (j : Nat) (v : Value), vs[j]? = some v → v.oneCell' = true) ∧ ∀ (i : Nat) (x : AV) (v : Value), xs[i]? = some x → vs[i]? = some v → R w H φ A x v := by
  cases h with
  | fr _ _ h => cases h with | agg xs vs hl ho h => exact ⟨vs, rfl, hl, ho, fun i x v hx hv => .fr _ _ (h i x v hx hv)⟩
  | agg xs vs hl ho h => exact ⟨vs, rfl, hl, ho, h⟩
theorem R.tup_inv {xs : List AV} {v : Value} (h : R w H φ A (.tup xs) v) : ∃ vs : Array Value, v = .tuple vs ∧ xs.length = vs.size ∧ ∀ (i : Nat) (x : AV) (v : Value), xs[i]? = some x → vs[i]? = some v → R w H φ A x v := by
  cases h with
  | fr _ _ h => cases h with | tup xs vs hl h => exact ⟨vs, rfl, hl, fun i x v hx hv => .fr _ _ (h i x v hx hv)⟩
  | tup xs vs hl h => exact ⟨vs, rfl, hl, h⟩
theorem R.fn_inv {f : FuncId} {xs : List AV} {v : Value} (h : R w H φ A (.fn f xs) v) :
    ∃ vs : Array Value, v = .func (.func f) #[] vs ∧ xs.length = vs.size ∧ ∀ (i : Nat) (x : AV) (v : Value), xs[i]? = some x → vs[i]? = some v → R w H φ A x v := by
  cases h with
  | fr _ _ h => cases h with | fn f xs vs hl h => exact ⟨vs, rfl, hl, fun i x v hx hv => .fr _ _ (h i x v hx hv)⟩
  | fn f xs vs hl h => exact ⟨vs, rfl, hl, h⟩
theorem R.fz_inv {xs : List AV} {v : Value} (h : R w H φ A (.fz xs) v) : FR w A (.fz xs) v := by cases h with | fr _ _ h => exact h
theorem R.fe_inv {x : AV} {o : Nat} {v : Value} (h : R w H φ A (.fe x o) v) : FR w A (.fe x o) v := by cases h with | fr _ _ h => exact h
theorem R.nil_inv {v : Value} (h : R w H φ A .nil v) : v = .slice none 0 0 := by cases h with | fr _ _ h => cases h; rfl
theorem R.e0_inv {v : Value} (h : R w H φ A .e0 v) : ∃ a, v = .slice a 0 0 := by cases h with | fr _ _ h => cases h with | e0 a => exact ⟨a, rfl⟩
theorem R.ref_inv {id ver off len : Nat} {v : Value} (h : R w H φ A (.ref id ver off len) v) : ver < H.st ∧ (∃ a c, v = .slice a len c) ∧ ∀ b, H.blk id ver = some b → RefOK w φ b id off len v := by
  cases h with
  | fr _ _ h => cases h
  | ref _ _ _ _ _ h1 h0 h2 => exact ⟨h1, h0, h2⟩
theorem R.ptr_inv {id ver idx off : Nat} {v : Value} (h : R w H φ A (.ptr id ver idx off) v) :
    ver < H.st ∧ (∃ a, v = .pointer a) ∧ ∀ b, H.blk id ver = some b → ∃ c b0, φ id = some (.at_ c b0) ∧ v = .pointer (some ⟨c, b0 + idx * b.sz + off, none⟩) := by
  cases h with
  | fr _ _ h => cases h
  | ptr _ _ _ _ _ h1 h0 h2 => exact ⟨h1, h0, h2⟩
theorem R.own_inv {sz : Nat} {xs : List AV} {v : Value} (h : R w H φ A (.own sz xs) v) : False := by cases h with | fr _ _ h => cases h
theorem R.optr_inv {sz : Nat} {x : AV} {v : Value} (h : R w H φ A (.optr sz x) v) : False := by cases h with | fr _ _ h => cases h
theorem R.errv_inv {b : Bool} {v : Value} (h : R w H φ A (.errv b) v) : (b = false ∧ v = .nilIface) ∨ (b = true ∧ ∃ t u, v = .iface t u) := by
  cases h with | fr _ _ h => cases h with
    | noerr => exact .inl ⟨rfl, rfl⟩
    | err t u => exact .inr ⟨rfl, t, u, rfl⟩

/-- The cells of a value. -/
theorem R.cells {x : AV} {v : Value} (h : R w H φ A x v) (hx : x ≠ .undef) : x.cells.length = v.cells.size ∧ ∀ (j : Nat) (y : AV) (u : Value), x.cells[j]? = some y → v.cells[j]? = some u → R w H φ A y u := by
  have single : ∀ {x : AV} {v : Value}, R w H φ A x v → x.cells = [x] → v.cells = #[v] →
      x.cells.length = v.cells.size ∧ ∀ (j : Nat) (y : AV) (u : Value), x.cells[j]? = some y → v.cells[j]? = some u → R w H φ A y u := by
    intro x v h h1 h2
    rw [h1, h2]
    refine ⟨rfl, fun j y u hy hu => ?_⟩
    cases j with
    | zero => simp at hy hu; subst hy; subst hu; exact h
    | succ j => simp at hy
  cases x with
  | undef => exact absurd rfl hx
  | agg xs => obtain ⟨vs, rfl, hl, _, hp⟩ := h.agg_inv; exact ⟨hl, hp⟩
  | int k n => have := h.int_inv; subst this; exact single h rfl rfl
  | bool b => have := h.bool_inv; subst this; exact single h rfl rfl
  | str s => obtain ⟨b, rfl, _⟩ := h.str_inv; exact single h rfl rfl
  | tup xs => obtain ⟨vs, rfl, _⟩ := h.tup_inv; exact single h rfl rfl
  | nil => have := h.nil_inv; subst this; exact single h rfl rfl
  | e0 => obtain ⟨a, rfl⟩ := h.e0_inv; exact single h rfl rfl
  | fz xs => have := h.fz_inv; cases this <;> exact single h rfl rfl
  | fe x o => have := h.fe_inv; cases this; exact single h rfl rfl
  | fn f xs => obtain ⟨vs, rfl, _⟩ := h.fn_inv; exact single h rfl rfl
  | errv b => rcases h.errv_inv with ⟨rfl, rfl⟩ | ⟨rfl, t, u, rfl⟩ <;> exact single h rfl rfl
  | nilp => cases h with | fr _ _ h => cases h; exact single (.fr _ _ .nilp) rfl rfl
  | own sz xs => exact h.own_inv.elim
  | optr sz x => exact h.optr_inv.elim
  | ref id ver off len => obtain ⟨_, ⟨a, c, rfl⟩, _⟩ := h.ref_inv; exact single h rfl rfl
  | ptr id ver idx off => obtain ⟨_, ⟨a, rfl⟩, _⟩ := h.ptr_inv; exact single h rfl rfl
theorem R.stor {x : AV} {v : Value} (h : R w H φ A x v) (hx : stor1 x = true) : v.oneCell' = true := by
  cases x with
  | undef => simp [stor1] at hx
  | agg xs => simp [stor1] at hx
  | tup xs => simp [stor1] at hx
  | own sz xs => simp [stor1] at hx
  | optr sz x => simp [stor1] at hx
  | int k n => have := h.int_inv; subst this; rfl
  | bool b => have := h.bool_inv; subst this; rfl
  | str s => obtain ⟨b, rfl, _⟩ := h.str_inv; rfl
  | nil => have := h.nil_inv; subst this; rfl
  | e0 => obtain ⟨a, rfl⟩ := h.e0_inv; rfl
  | fz xs => have := h.fz_inv; cases this <;> rfl
  | fe x o => have := h.fe_inv; cases this; rfl
  | fn f xs => obtain ⟨vs, rfl, _⟩ := h.fn_inv; rfl
  | errv b => rcases h.errv_inv with ⟨rfl, rfl⟩ | ⟨rfl, t, u, rfl⟩ <;> rfl
  | nilp => cases h with | fr _ _ h => cases h; rfl
  | ref id ver off len => obtain ⟨_, ⟨a, c, rfl⟩, _⟩ := h.ref_inv; rfl
  | ptr id ver idx off => obtain ⟨_, ⟨a, rfl⟩, _⟩ := h.ptr_inv; rfl
theorem R.ones {x : AV} {v : Value} (h : R w H φ A x v) (hx : storA x = true) : ∀ (j : Nat) (u : Value), v.cells[j]? = some u → u.oneCell' = true := by
  cases x with
  | agg xs => obtain ⟨vs, rfl, _, ho, _⟩ := h.agg_inv; exact ho
  | _ =>
    intro j u hu
    have h1 := h.stor (by simpa [storA] using hx)
    have : v.cells = #[v] := by cases v <;> first | rfl | simp [Value.oneCell'] at h1
    rw [this] at hu
    cases j with
    | zero => simp at hu; subst hu; exact h1
    | succ j => simp at hu
end inv

end Go.VS

/-
  VS, part 4: types, memory, and each quiet operation against the machine.
-/
namespace Go.VS

/-! Types. -/
def isAggD : TypeDesc → Bool
  | .struct _ | .array _ _ => true
  | _ => false
def isAggV : Value → Bool
  | .agg _ => true
  | _ => false

def udOf : TypeDesc → UD
  | .slice e => .sl e
  | .struct fs => if fs.toList.any (·.name == "_") then .ot else .st (fs.toList.map fun f => (f.offset, f.type))
  | .array n e => .ar n e
  | .string => .str
  | .int k => .it k
  | .bool => .bl
  | .interface _ => .ifc
  | .pointer _ => .pt
  | _ => .ot

def tiOf (P : Program) (t : TypeId) : Option TI :=
  match P.info? t, P.underlying t with
  | some i, some d => match i.zero with
    | some z =>
      if z.cells.size == i.size && isAggD d == isAggV z && z.cells.toList.all (·.oneCell') then
        some { sz := i.size, agg := isAggD d, zero := z.cells.toList.map ofValue, bytes := i.bytes, und := udOf d,
               eqok := !(P.stoodInHeld t) && !(P.eqGuardType P.depth t) }
      else none
    | none => none
  | _, _ => none

structure TyOK (P : Program) (t : TypeId) (ti : TI) : Prop where
  out : ∃ i d z, P.info? t = some i ∧ P.underlying t = some d ∧ i.zero = some z ∧ i.size = ti.sz ∧ i.bytes = ti.bytes ∧ z.cells.size = ti.sz ∧
    isAggD d = ti.agg ∧ isAggV z = ti.agg ∧ (∀ (j : Nat) (v : Value), z.cells[j]? = some v → v.oneCell' = true) ∧ ti.zero = z.cells.toList.map ofValue ∧ udOf d = ti.und ∧
    (ti.eqok = true → P.stoodInHeld t = false ∧ P.eqGuardType P.depth t = false)

theorem tiOf_ok {P : Program} {t : TypeId} {ti : TI} (h : tiOf P t = some ti) : TyOK P t ti := by
  unfold tiOf at h
  split at h
  · rename_i i d hi hd
    split at h
    · rename_i z hz
      split at h
      · rename_i hc
        simp only [Bool.and_eq_true, beq_iff_eq, List.all_eq_true] at hc
        simp only [Option.some.injEq] at h
        subst h
        refine ⟨i, d, z, hi, hd, hz, rfl, rfl, hc.1.1, rfl, hc.1.2.symm, fun j v hv => hc.2 v ?_, rfl, rfl, fun he => by simpa using he⟩
        exact Array.mem_toList_iff.2 (Array.mem_of_getElem? hv)
      · simp at h
    · simp at h
  · simp at h

section types
variable {P : Program} {t : TypeId} {ti : TI} (h : TyOK P t ti) (w : World)
include h
theorem TyOK.sizeOf : (sizeOf t).run P w = .ok ti.sz w := by
  obtain ⟨i, d, z, hi, _, _, hs, _⟩ := h.out
  simp [Go.sizeOf, typeInfo, hi, hs]
theorem TyOK.isAgg : (isAgg t).run P w = .ok ti.agg w := by
  obtain ⟨i, d, z, _, hd, _, _, _, _, ha, _⟩ := h.out
  simp only [Go.isAgg, Sem.run_bind, run_underlying hd, Result.andThen_ok]
  rw [← ha]
  cases d <;> rfl
theorem TyOK.zeroValue : ∃ z, (zeroValue t).run P w = .ok z w ∧ z.cells.size = ti.sz ∧ isAggV z = ti.agg ∧ (∀ (j : Nat) (v : Value), z.cells[j]? = some v → v.oneCell' = true) ∧ ti.zero = z.cells.toList.map ofValue := by
  obtain ⟨i, d, z, hi, _, hz, _, _, h1, _, h2, h3, h4, _⟩ := h.out
  exact ⟨z, by simp [Go.zeroValue, typeInfo, hi, hz], h1, h2, h3, h4⟩
theorem TyOK.typeInfo : ∃ i, (typeInfo t).run P w = .ok i w ∧ i.bytes = ti.bytes ∧ i.size = ti.sz := by
  obtain ⟨i, d, z, hi, _, _, hs, hb, _⟩ := h.out
  exact ⟨i, by simp [Go.typeInfo, hi], hb, hs⟩
theorem TyOK.sl {e : TypeId} (hu : ti.und = .sl e) : (underlying t).run P w = .ok (.slice e) w := by
  obtain ⟨i, d, z, _, hd, _, _, _, _, _, _, _, _, hud, _⟩ := h.out
  rw [run_underlying hd]
  rw [hu] at hud
  cases d <;> simp [udOf] at hud
  · subst hud; rfl
  · split at hud <;> simp at hud
theorem TyOK.und_str (hu : ti.und = .str) : (underlying t).run P w = .ok .string w := by
  obtain ⟨i, d, z, _, hd, _, _, _, _, _, _, _, _, hud, _⟩ := h.out
  rw [run_underlying hd]
  rw [hu] at hud
  cases d <;> simp [udOf] at hud
  · rfl
  · split at hud <;> simp at hud
theorem TyOK.und_it {k : IntKind} (hu : ti.und = .it k) : (underlying t).run P w = .ok (.int k) w := by
  obtain ⟨i, d, z, _, hd, _, _, _, _, _, _, _, _, hud, _⟩ := h.out
  rw [run_underlying hd]
  rw [hu] at hud
  cases d <;> simp [udOf] at hud
  · subst hud; rfl
  · split at hud <;> simp at hud
theorem TyOK.und_bl (hu : ti.und = .bl) : (underlying t).run P w = .ok .bool w := by
  obtain ⟨i, d, z, _, hd, _, _, _, _, _, _, _, _, hud, _⟩ := h.out
  rw [run_underlying hd]
  rw [hu] at hud
  cases d <;> simp [udOf] at hud
  · rfl
  · split at hud <;> simp at hud
theorem TyOK.und_ifc (hu : ti.und = .ifc) : ∃ ms, (underlying t).run P w = .ok (.interface ms) w := by
  obtain ⟨i, d, z, _, hd, _, _, _, _, _, _, _, _, hud, _⟩ := h.out
  rw [run_underlying hd]
  rw [hu] at hud
  cases d <;> simp [udOf] at hud
  · split at hud <;> simp at hud
  · exact ⟨_, rfl⟩
theorem TyOK.und_ar {n : Nat} {e : TypeId} (hu : ti.und = .ar n e) : (underlying t).run P w = .ok (.array n e) w := by
  obtain ⟨i, d, z, _, hd, _, _, _, _, _, _, _, _, hud, _⟩ := h.out
  rw [run_underlying hd]
  rw [hu] at hud
  cases d <;> simp [udOf] at hud
  · obtain ⟨rfl, rfl⟩ := hud; rfl
  · split at hud <;> simp at hud
theorem TyOK.und_st {fs : List (Nat × TypeId)} (hu : ti.und = .st fs) : ∃ gs : Array Field, (underlying t).run P w = .ok (.struct gs) w ∧ fs = gs.toList.map (fun f => (f.offset, f.type)) ∧ (∀ f ∈ gs.toList, f.name ≠ "_") ∧ P.underlying t = some (.struct gs) := by
  obtain ⟨i, d, z, _, hd, _, _, _, _, _, _, _, _, hud, _⟩ := h.out
  rw [run_underlying hd]
  rw [hu] at hud
  cases d with
  | struct gs =>
    simp only [udOf] at hud
    split at hud
    · simp at hud
    · rename_i hn
      simp only [UD.st.injEq] at hud
      refine ⟨gs, rfl, hud.symm, fun f hf hfn => hn ?_, hd⟩
      exact List.any_eq_true.2 ⟨f, hf, by simp [hfn]⟩
  | _ => simp [udOf] at hud
end types

theorem FR.ofValue (w : World) (A : Avoid) (v : Value) : FR w A (ofValue v) v := by
  cases v with
  | int k n => exact .int k n
  | bool b => exact .bool b
  | string s => exact .str s
  | slice a l c =>
    cases a with
    | some a => exact .undef _
    | none => cases l with
      | zero => cases c with
        | zero => exact .nil
        | succ c => exact .undef _
      | succ l => exact .undef _
  | nilIface => exact .noerr
  | pointer a => cases a with
    | none => exact .nilp
    | some a => exact .undef _
  | _ => exact .undef _

/-! Frames. -/
structure SF (w : World) (H : Heap) (φ : Phi) (A : Avoid) (s : Frm) (a : Act) : Prop where
  len : s.length = a.tmps.size
  val : ∀ (t : Nat) (x : AV) (v : Value), s[t]? = some x → a.tmps[t]? = some v → R w H φ A x v
  dfr : a.defers = []

theorem SF.ev {w : World} {H : Heap} {φ : Phi} {A : Avoid} {s : Frm} {a : Act} (h : SF w H φ A s a) (x : Operand) : R w H φ A (ev s x) (a.eval x) := by
  cases x with
  | tmp t =>
    simp only [VS.ev, Act.eval, List.getD, Array.getD_eq_getD_getElem?]
    cases hs : s[t]? with
    | none => exact .fr _ _ (.undef _)
    | some x =>
      have ht : t < a.tmps.size := by rw [← h.len]; exact (List.getElem?_eq_some_iff.1 hs).1
      simp only [Array.getElem?_eq_getElem ht, Option.getD_some]
      exact h.val t x _ hs (Array.getElem?_eq_getElem ht)
  | const v => exact .fr _ _ (FR.ofValue w A v)
  | global g => exact .fr _ _ (.undef _)
  | func f => exact .fr _ _ (.fn f [] #[] rfl (by simp))

theorem SF.mono {w w' : World} {H H' : Heap} {φ φ' : Phi} {A A' : Avoid} {s : Frm} {a : Act} (e : Evo w H φ A w' H' φ' A') (h : SF w H φ A s a) : SF w' H' φ' A' s a :=
  ⟨h.len, fun t x v hx hv => (h.val t x v hx hv).mono e, h.dfr⟩

theorem SF.set {w : World} {H : Heap} {φ : Phi} {A : Avoid} {s : Frm} {a : Act} (h : SF w H φ A s a) (d : Option Tmp) {x : AV} {v : Value} (hx : R w H φ A x v) : SF w H φ A (setA s d x) (a.put d v) := by
  cases d with
  | none => exact h
  | some d =>
    refine ⟨by simp [setA, Act.put, h.len], fun t y u hy hu => ?_, h.dfr⟩
    simp only [setA, Act.put, List.getElem?_set, Array.getElem?_setIfInBounds] at hy hu
    by_cases hd : d = t
    · subst hd
      simp only [if_true] at hy hu
      split at hy
      · split at hu
        · simp at hy hu; subst hy; subst hu; exact hx
        · simp at hu
      · simp at hy
    · simp only [hd, if_false] at hy hu
      exact h.val t y u hy hu

/-! Memory. -/
theorem cell_at {w : World} {c : Nat} {arr : Array Value} {T : TypeId} {fr : Nat × Nat} (h : w.heap[c]? = some (.cells arr T fr)) (p : Nat) : w.cell? ⟨c, p, none⟩ = arr[p]? := by
  simp [World.cell?, h]
theorem add_none (c o n : Nat) : (Addr.mk c o none).add n = ⟨c, o + n, none⟩ := by
  unfold Addr.add; split
  · rename_i h; subst h; rfl
  · rfl

theorem run_loadCells_at (P : Program) {w : World} {c : Nat} {arr : Array Value} {T : TypeId} {fr : Nat × Nat} (h : w.heap[c]? = some (.cells arr T fr)) (p n : Nat) (hn : p + n ≤ arr.size) :
    (loadCells ⟨c, p, none⟩ n).run P w = .ok (arr.extract p (p + n)) w := by
  rw [run_loadCells w ⟨c, p, none⟩ n (fun j => arr.getD (p + j) undef) (fun j hj => by
    rw [add_none, cell_at h, Array.getD_eq_getD_getElem?]
    simp [Array.getElem?_eq_getElem (show p + j < arr.size by omega)])]
  congr 1
  apply Array.ext
  · simp; omega
  · intro i h1 h2
    simp at h1
    simp [Array.getElem?_eq_getElem (show p + i < arr.size by omega)]

theorem run_loadVar_at {P : Program} {t : TypeId} {ti : TI} (ht : TyOK P t ti) {w : World} {c : Nat} {arr : Array Value} {T : TypeId} {fr : Nat × Nat}
    (h : w.heap[c]? = some (.cells arr T fr)) {p : Nat} (hp : p + ti.sz ≤ arr.size) (h1 : ti.agg = false → ti.sz = 1) :
    ∃ v, (loadVar t ⟨c, p, none⟩).run P w = .ok v w ∧ (ti.agg = true → v = .agg (arr.extract p (p + ti.sz))) ∧ (ti.agg = false → arr[p]? = some v) := by
  unfold loadVar
  simp only [Sem.run_bind, ht.isAgg, Result.andThen_ok]
  cases ha : ti.agg with
  | true =>
    refine ⟨.agg (arr.extract p (p + ti.sz)), ?_, fun _ => rfl, by simp⟩
    simp [ht.sizeOf, run_loadCells_at P h p ti.sz hp]
  | false =>
    have := h1 ha
    have hlt : p < arr.size := by omega
    refine ⟨arr[p], ?_, by simp, fun _ => Array.getElem?_eq_getElem hlt⟩
    simp [cell_at h, Array.getElem?_eq_getElem hlt]

theorem mkT_some {agg : Bool} {cs : List AV} {y : AV} (h : mkT agg cs = some y) : (agg = true ∧ y = .agg cs) ∨ (agg = false ∧ cs = [y]) := by
  cases agg with
  | true => simp [mkT] at h; exact .inl ⟨rfl, h.symm⟩
  | false =>
    simp only [mkT, Bool.false_eq_true, if_false] at h
    split at h
    · simp only [Option.some.injEq] at h; subst h; exact .inr ⟨rfl, rfl⟩
    · simp at h

/-- Reading an element out of memory. -/
theorem rdAt_load {P : Program} {t : TypeId} {ti : TI} (ht : TyOK P t ti) {w : World} {c : Nat} {arr : Array Value} {T : TypeId} {fr : Nat × Nat}
    (h : w.heap[c]? = some (.cells arr T fr)) {x y : AV} {off o : Nat} (hr : rdAt ti x off = some y) (ho : o + x.cells.length ≤ arr.size)
    {H : Heap} {φ : Phi} {A : Avoid} (hx : ∀ (j : Nat) (y : AV) (v : Value), x.cells[j]? = some y → arr[o + j]? = some v → R w H φ A y v)
    (h1c : ∀ (j : Nat) (v : Value), j < x.cells.length → arr[o + j]? = some v → v.oneCell' = true) :
    ∃ v, (loadVar t ⟨c, o + off, none⟩).run P w = .ok v w ∧ R w H φ A y v := by
  unfold rdAt at hr
  split at hr
  · rename_i hle
    have hsz : ti.agg = false → ti.sz = 1 := by
      intro ha
      rcases mkT_some hr with ⟨h1, _⟩ | ⟨_, h2⟩
      · simp [ha] at h1
      · have := congrArg List.length h2
        simp [subL] at this
        omega
    obtain ⟨v, hv, h1, h2⟩ := run_loadVar_at ht h (p := o + off) (by omega) hsz
    refine ⟨v, hv, ?_⟩
    rcases mkT_some hr with ⟨ha, rfl⟩ | ⟨ha, hcs⟩
    · rw [h1 ha]
      refine .agg _ _ (by simp [subL]; omega) (fun j u hu => ?_) fun i z u hz hu => ?_
      · simp only [Array.getElem?_extract] at hu
        split at hu
        · exact h1c (off + j) u (by omega) (by rw [← hu]; congr 1; omega)
        · simp at hu
      simp only [subL, List.getElem?_take, List.getElem?_drop, Array.getElem?_extract] at hz hu
      split at hz
      · split at hu
        · exact hx _ _ _ hz (by rw [← hu]; congr 1; omega)
        · simp at hu
      · simp at hz
    · have hu := h2 ha
      have : x.cells[off]? = some y := by
        have := congrArg (·[0]?) hcs
        simp only [subL, List.getElem?_take, List.getElem?_drop] at this
        have h1 := hsz ha
        simp [h1] at this
        exact this
      exact hx off y v this hu
  · simp at hr

/-- A part of an aggregate. -/
theorem rdAt_part {P : Program} {t : TypeId} {ti : TI} (ht : TyOK P t ti) (w : World) {xs : List AV} {vs : Array Value} {y : AV} {off : Nat}
    (hr : rdAt ti (.agg xs) off = some y) (hl : xs.length = vs.size) {H : Heap} {φ : Phi} {A : Avoid} {w0 : World}
    (hx : ∀ (i : Nat) (x : AV) (v : Value), xs[i]? = some x → vs[i]? = some v → R w0 H φ A x v)
    (h1c : ∀ (j : Nat) (v : Value), vs[j]? = some v → v.oneCell' = true) :
    ∃ v, (part t vs off).run P w = .ok v w ∧ R w0 H φ A y v := by
  unfold rdAt at hr
  by_cases hle : off + ti.sz ≤ (AV.agg xs).cells.length
  · rw [if_pos hle] at hr
    simp only [AV.cells] at hr hle
    unfold part
    simp only [Sem.run_bind, ht.isAgg, Result.andThen_ok]
    rcases mkT_some hr with ⟨ha, rfl⟩ | ⟨ha, hcs⟩
    · simp only [ha, if_true, Sem.run_bind, ht.sizeOf, Result.andThen_ok, Sem.run_pure]
      refine ⟨_, rfl, .agg _ _ (by simp [subL]; omega) (fun j u hu => ?_) fun i z u hz hu => ?_⟩
      · simp only [Array.getElem?_extract] at hu
        split at hu
        · exact h1c _ u hu
        · simp at hu
      simp only [subL, List.getElem?_take, List.getElem?_drop, Array.getElem?_extract] at hz hu
      split at hz
      · split at hu
        · exact hx _ _ _ hz hu
        · simp at hu
      · simp at hz
    · have hlen := congrArg List.length hcs
      simp [subL] at hlen
      have hoff : off < vs.size := by omega
      simp only [ha, Bool.false_eq_true, if_false, Array.getElem?_eq_getElem hoff, Sem.run_pure]
      refine ⟨_, rfl, hx off y _ ?_ (Array.getElem?_eq_getElem hoff)⟩
      have := congrArg (·[0]?) hcs
      simp only [subL, List.getElem?_take, List.getElem?_drop] at this
      split at this
      · simpa using this
      · simp at this
  · rw [if_neg hle] at hr; simp at hr

end Go.VS

/-
  VS, part 5: the quiet operations.
-/
namespace Go.VS

structure Out (w : World) (G : Heap) (φ : Phi) (A : Avoid) (w' : World) (G' : Heap) (φ' : Phi) (A' : Avoid) : Prop where
  st : St w' G' φ' A'
  post : Post w φ w' φ'
  evo : Evo w G φ A w' G' φ' A'
  keep : ∀ c, A c → ¬ Ow φ c → A' c

theorem Out.refl {w : World} {G : Heap} {φ : Phi} {A : Avoid} (h : St w G φ A) : Out w G φ A w G φ A := ⟨h, .refl _ _, .refl _ _ _ _, fun _ h _ => h⟩

theorem Ow.lt {w : World} {G : Heap} {φ : Phi} {A : Avoid} (h : St w G φ A) {c : Nat} (hc : Ow φ c) : c < w.heap.size := h.bnd c (h.own c hc)

theorem Out.trans {w w1 w2 : World} {G G1 G2 : Heap} {φ φ1 φ2 : Phi} {A A1 A2 : Avoid} (h0 : St w G φ A) (h : Out w G φ A w1 G1 φ1 A1) (k : Out w1 G1 φ1 A1 w2 G2 φ2 A2) : Out w G φ A w2 G2 φ2 A2 where
  st := k.st
  post := h.post.trans k.post
  evo := h.evo.trans k.evo fun c hc => by rw [(h.post.trans k.post).bsz c (Ow.lt h0 hc)]
  keep c hc hn := by
    refine k.keep c (h.keep c hc hn) fun ho => ?_
    rcases h.post.own c ho with h1 | h1
    · exact hn h1
    · exact absurd (h0.bnd c hc) (by omega)

/-- What a quiet operation comes to. -/
def QRes (w : World) (G : Heap) (φ : Phi) (A : Avoid) (H H' : Heap) (r : Result Next) (x : AV) : Prop :=
  ∃ n v w' φ' A', r = .ok n w' ∧ (n = .value v ∨ (n = .skip ∧ v = undef)) ∧ R w' G φ' A' x v ∧ Out w G φ A w' G φ' A' ∧
    ∀ id loc, φ' id = some loc → φ id = some loc ∨ (H.bs.length ≤ id ∧ id < H'.bs.length)

theorem QRes.val {w : World} {G : Heap} {φ : Phi} {A : Avoid} {H H' : Heap} {r : Result Next} {x : AV} {v : Value} (hs : St w G φ A) (hr : r = .ok (.value v) w) (hx : R w G φ A x v) : QRes w G φ A H H' r x :=
  ⟨_, v, w, φ, A, hr, .inl rfl, hx, .refl hs, fun _ _ h => .inl h⟩

def Ext (H G : Heap) : Prop := (∀ id b, H.get id = some b → G.get id = some b) ∧ H.st ≤ G.st

theorem Ext.blk {H G : Heap} (h : Ext H G) {id ver : Nat} {b : Blk} (hb : H.blk id ver = some b) : G.blk id ver = some b := by
  obtain ⟨hg, hv⟩ := Heap.blk_get hb
  have := Heap.blk_of_get (h.1 id b hg)
  rwa [hv] at this

theorem Ext.refl (H : Heap) : Ext H H := ⟨fun _ _ h => h, Nat.le_refl _⟩

/-! ints, bools, texts -/
theorem eqGuard_plain (P : Program) (w : World) (op : BinOp) (t : TypeId) (x y : Operand) (a b : Value) (h1 : a ≠ .nilIface) (h2 : isAggV a = false) :
    (eqGuard op t x y a b).run P w = .ok () w := by
  cases a with
  | nilIface => exact absurd rfl h1
  | agg cs => simp [isAggV] at h2
  | _ => cases op <;> rfl

theorem bin_int (P : Program) (w : World) {E : TEnv} {op : BinOp} {t : TypeId} {k yk : IntKind} {a b : Int} {z : AV} (h : binA E op t (.int k a) (.int yk b) = some z) :
    ∃ v, (binOp op t (.int k a) (.int yk b)).run P w = .ok v w ∧ FR w (fun _ => False) z v := by
  unfold binA at h
  cases op <;> simp only at h
  case shl =>
    split at h
    · simp at h
    · rename_i hb
      simp only [Option.some.injEq] at h; subst h
      exact ⟨_, by simp [binOp, Op.shift, hb], .int _ _⟩
  case shr =>
    split at h
    · simp at h
    · rename_i hb
      simp only [Option.some.injEq] at h; subst h
      exact ⟨_, by simp [binOp, Op.shift, hb], .int _ _⟩
  case quo =>
    split at h
    · rename_i hk; subst hk
      simp only [intBin] at h
      split at h
      · simp at h
      · rename_i hb
        simp only [Option.some.injEq] at h; subst h
        exact ⟨_, by simp [binOp, Op.intDiv, hb], .int _ _⟩
    · simp at h
  case rem =>
    split at h
    · rename_i hk; subst hk
      simp only [intBin] at h
      split at h
      · simp at h
      · rename_i hb
        simp only [Option.some.injEq] at h; subst h
        exact ⟨_, by simp [binOp, Op.intDiv, hb], .int _ _⟩
    · simp at h
  all_goals
    split at h
    · rename_i hk; subst hk
      simp only [intBin, Option.some.injEq] at h
      try subst h
      try (refine ⟨_, (by simp only [binOp, ne_eq, not_true_eq_false, if_false, Op.intArith, Op.intBits, Op.intCmp]; rfl), ?_⟩; first | exact .int _ _ | exact .bool _)
    · simp at h

theorem bin_str (P : Program) (w : World) {op : BinOp} {t : TypeId} {a b : ByteArray} {z : AV} (h : strBin op a.data.toList b.data.toList = some z) :
    ∃ v, (binOp op t (.string a) (.string b)).run P w = .ok v w ∧ FR w (fun _ => False) z v := by
  cases op <;> simp only [strBin, Option.some.injEq, reduceCtorEq] at h
  case add =>
    split at h
    · rename_i hl
      simp only [Option.some.injEq] at h; subst h
      have hl' : a.size + b.size ≤ 2 ^ 45 := by have := hl; simp only [Array.length_toList] at this; exact this
      refine ⟨.string (a ++ b), ?_, ?_⟩
      · have : ¬ (((a.size + b.size : Nat) : Int) > IntKind.i64.max) := by have : IntKind.i64.max = 9223372036854775807 := rfl; omega
        simp only [binOp, Op.stringOp, this, if_false, Sem.run_pure]
      · have := FR.str (w := w) (A := fun _ => False) (a ++ b)
        rwa [ByteArray.data_append, Array.toList_append] at this
    · simp at h
  all_goals
    subst h
    refine ⟨_, by simp only [binOp, Op.stringOp, ByteArray.toList_eq, Sem.run_pure], .bool _⟩

theorem un_ok (P : Program) {w : World} {H : Heap} {φ : Phi} {A : Avoid} {op : UnOp} {x z : AV} {a : Value} (hx : R w H φ A x a) (h : unA op x = some z) :
    ∃ v, (Op.unary op a).run P w = .ok v w ∧ R w H φ A z v := by
  unfold unA at h
  split at h
  · have := hx.int_inv; subst this
    simp only [Option.some.injEq] at h; subst h
    exact ⟨_, by simp [Op.unary, Op.intArith], .fr _ _ (.int _ _)⟩
  · have := hx.bool_inv; subst this
    simp only [Option.some.injEq] at h; subst h
    exact ⟨_, by simp [Op.unary], .fr _ _ (.bool _)⟩
  · simp at h

/-! Structs compared. -/
theorem part_cells {P : Program} {t : TypeId} {ti : TI} (ht : TyOK P t ti) (w : World) (vs : Array Value) (o : Nat) (ho : o + ti.sz ≤ vs.size) (h1 : ti.agg = false → ti.sz = 1)
    (h2 : ∀ (j : Nat) (v : Value), vs[j]? = some v → isAggV v = false) :
    ∃ v, (part t vs o).run P w = .ok v w ∧ v.cells = vs.extract o (o + ti.sz) ∧ isAggV v = ti.agg := by
  unfold part
  simp only [Sem.run_bind, ht.isAgg, Result.andThen_ok]
  cases ha : ti.agg with
  | true =>
    simp only [if_true, Sem.run_bind, ht.sizeOf, Result.andThen_ok, Sem.run_pure]
    exact ⟨_, rfl, rfl, rfl⟩
  | false =>
    have hs := h1 ha
    have hlt : o < vs.size := by omega
    simp only [Bool.false_eq_true, if_false, Array.getElem?_eq_getElem hlt, Sem.run_pure]
    refine ⟨_, rfl, ?_, ?_⟩
    · have hn := h2 o vs[o] (Array.getElem?_eq_getElem hlt)
      have : (vs[o]).cells = #[vs[o]] := by generalize vs[o] = u at hn ⊢; cases u <;> first | rfl | simp [isAggV] at hn
      rw [this, hs]
      apply Array.ext
      · simp; omega
      · intro i h1 h2
        simp at h1
        subst h1
        simp
    · exact h2 o vs[o] (Array.getElem?_eq_getElem hlt)

section equal
variable {P : Program} {E : TEnv} (hE : ∀ t ti, E t = some ti → TyOK P t ti)
include hE

structure CellsR (w : World) (H : Heap) (φ : Phi) (A : Avoid) (agg : Bool) (xs : List AV) (v : Value) : Prop where
  len : xs.length = v.cells.size
  agg : isAggV v = agg
  val : ∀ (i : Nat) (x : AV) (u : Value), xs[i]? = some x → v.cells[i]? = some u → R w H φ A x u

theorem eqT_scalar {d : Nat} {t : TypeId} {ti : TI} {xs ys : List AV} {r : Bool} (h1 : E t = some ti) (h : eqT E (d + 1) t xs ys = some r) (hn : ti.agg = false) : xs.length = 1 := by
  simp only [eqT, h1] at h
  split at h
  · split at h
    · rfl
    · simp at h
  · split at h
    · rfl
    · simp at h
  · split at h
    · rfl
    · simp at h
  · rename_i fs hu
    obtain ⟨gs, hg, _⟩ := (hE t ti h1).und_st default hu
    have := (hE t ti h1).isAgg default
    simp only [Go.isAgg, Sem.run_bind, hg, Result.andThen_ok, Sem.run_pure] at this
    simp [hn] at this
  · simp at h

/-- '==' as the type has it is the machine's. -/
theorem eqT_ok {w w0 : World} {H : Heap} {φ : Phi} {A : Avoid} : ∀ (d : Nat) (t : TypeId) (ti : TI) (xs ys : List AV) (r : Bool), E t = some ti → eqT E d t xs ys = some r →
    ∀ (m : Nat), d ≤ m → ∀ (x y : Value), CellsR w0 H φ A ti.agg xs x → CellsR w0 H φ A ti.agg ys y → (∀ (j : Nat) (v : Value), x.cells[j]? = some v → isAggV v = false) →
    (∀ (j : Nat) (v : Value), y.cells[j]? = some v → isAggV v = false) → (Op.equalIn m t x y).run P w = .ok r w
  | 0, _, _, _, _, _, _, h => by simp [eqT] at h
  | d + 1, t, ti, xs, ys, r, h1, h => by
    intro m hm x y hx hy ha hb
    obtain ⟨m, rfl⟩ : ∃ k, m = k + 1 := ⟨m - 1, by omega⟩
    have hT := hE t ti h1
    have hcell : ∀ {x : Value} {a : AV}, CellsR w0 H φ A ti.agg [a] x → ti.agg = false → R w0 H φ A a x := by
      intro x a hc hn
      have h2 := hc.agg
      rw [hn] at h2
      have : x.cells = #[x] := by cases x <;> first | rfl | simp [isAggV] at h2
      exact hc.val 0 a x rfl (by rw [this]; rfl)
    have hnag : ∀ {e : UD}, ti.und = e → (match e with | .it _ | .bl | .str => True | _ => False) → ti.agg = false := by
      intro e he hm
      have := hT.isAgg default
      obtain ⟨i, dd, z, _, hd, _, _, _, _, hag, _, _, _, hud, _⟩ := hT.out
      rw [← hag]
      rw [he] at hud
      cases dd with
      | array n e' => simp only [udOf] at hud; subst hud; simp at hm
      | struct gs => simp only [udOf] at hud; split at hud <;> (subst hud; simp at hm)
      | _ => rfl
    simp only [eqT, h1] at h
    split at h
    · rename_i k hu
      have hn := hnag hu trivial
      split at h
      · rename_i k a j b
        split at h
        · rename_i hk; subst hk
          simp only [Option.some.injEq] at h; subst h
          have e1 := (hcell hx hn).int_inv; have e2 := (hcell hy hn).int_inv
          subst e1; subst e2
          have := hT.und_it w hu
          simp [Op.equalIn, this]
        · simp at h
      · simp at h
    · rename_i hu
      have hn := hnag hu trivial
      split at h
      · rename_i a b
        simp only [Option.some.injEq] at h; subst h
        have e1 := (hcell hx hn).bool_inv; have e2 := (hcell hy hn).bool_inv
        subst e1; subst e2
        have := hT.und_bl w hu
        simp [Op.equalIn, this]
      · simp at h
    · rename_i hu
      have hn := hnag hu trivial
      split at h
      · rename_i a b
        simp only [Option.some.injEq] at h; subst h
        obtain ⟨s, rfl, e1⟩ := (hcell hx hn).str_inv
        obtain ⟨u, rfl, e2⟩ := (hcell hy hn).str_inv
        have := hT.und_str w hu
        simp only [Op.equalIn, Sem.run_bind, this, Result.andThen_ok, Sem.run_pure, beq_toListBytes, ByteArray.toList_eq, e1, e2]
      · simp at h
    · rename_i fs hu
      split at h
      · rename_i hok
        obtain ⟨gs, hg, hfs, hnm, hd⟩ := hT.und_st w hu
        have hag : ti.agg = true := by
          have := hT.isAgg w
          simp only [Go.isAgg, Sem.run_bind, hg, Result.andThen_ok, Sem.run_pure] at this
          simpa using this.symm
        obtain ⟨i0, d0, z0, _, _, _, _, _, _, _, _, _, _, _, heq⟩ := hT.out
        have hst := (heq hok).1
        rw [hag] at hx hy
        obtain ⟨vs, rfl⟩ : ∃ vs, x = .agg vs := by have := hx.agg; cases x <;> first | exact ⟨_, rfl⟩ | simp [isAggV] at this
        obtain ⟨us, rfl⟩ : ∃ us, y = .agg us := by have := hy.agg; cases y <;> first | exact ⟨_, rfl⟩ | simp [isAggV] at this
        have hfo : P.fieldsOf t = gs := by simp [Program.fieldsOf, hd]
        rw [run_equalIn_struct w m t vs us (by rw [hd, hfo]) hst, hfo]
        clear hg hu hd hfo
        generalize hgl : gs.toList = gl at hfs hnm ⊢
        clear hgl
        induction gl generalizing fs r with
        | nil =>
          subst hfs
          simp only [List.map_nil, eqFs, Option.some.injEq] at h; subst h
          simp [Op.eqFields]
        | cons g gl ih =>
          subst hfs
          simp only [List.map_cons, eqFs] at h
          cases hf : E g.type with
          | none => simp [hf] at h
          | some tf =>
            simp only [hf] at h
            split at h
            · rename_i hle
              cases hq : eqT E d g.type (subL xs g.offset tf.sz) (subL ys g.offset tf.sz) with
              | none => simp [hq] at h
              | some b =>
                simp only [hq] at h
                cases hr : eqFs E (eqT E d) (gl.map fun f => (f.offset, f.type)) xs ys with
                | none => simp [hr] at h
                | some r' =>
                  simp only [hr, Option.some.injEq] at h
                  have hF := hE _ _ hf
                  have hlx : xs.length = vs.size := hx.len
                  have hly : ys.length = us.size := hy.len
                  have hs1 : tf.agg = false → tf.sz = 1 := by
                    intro hn
                    cases d with
                    | zero => simp [eqT] at hq
                    | succ d =>
                      have := eqT_scalar hE hf hq hn
                      simp [subL] at this; omega
                  obtain ⟨v1, p1, c1, a1⟩ := part_cells hF w vs g.offset (by omega) hs1 ha
                  obtain ⟨v2, p2, c2, a2⟩ := part_cells hF w us g.offset (by omega) hs1 hb
                  have sub : ∀ {zs : List AV} {ws : Array Value} {v : Value}, zs.length = ws.size → g.offset + tf.sz ≤ zs.length →
                      (∀ (i : Nat) (x : AV) (u : Value), zs[i]? = some x → ws[i]? = some u → R w0 H φ A x u) → v.cells = ws.extract g.offset (g.offset + tf.sz) → isAggV v = tf.agg →
                      CellsR w0 H φ A tf.agg (subL zs g.offset tf.sz) v := by
                    intro zs ws v hl hle hval hc hag
                    refine ⟨by rw [hc]; simp [subL]; omega, hag, fun i x u hi hu => ?_⟩
                    rw [hc] at hu
                    simp only [subL, List.getElem?_take, List.getElem?_drop, Array.getElem?_extract] at hi hu
                    split at hi
                    · split at hu
                      · exact hval _ _ _ hi hu
                      · simp at hu
                    · simp at hi
                  have nag : ∀ {ws : Array Value} {v : Value}, v.cells = ws.extract g.offset (g.offset + tf.sz) → (∀ (j : Nat) (v : Value), ws[j]? = some v → isAggV v = false) →
                      ∀ (j : Nat) (u : Value), v.cells[j]? = some u → isAggV u = false := by
                    intro ws v hc hw j u hu
                    rw [hc] at hu
                    simp only [Array.getElem?_extract] at hu
                    split at hu
                    · exact hw _ _ hu
                    · simp at hu
                  have he := eqT_ok (w := w) d g.type tf _ _ b hf hq m (by omega) v1 v2 (sub hlx hle.1 hx.val c1 a1) (sub hly hle.2 hy.val c2 a2) (nag c1 ha) (nag c2 hb)
                  have hnm1 : g.name ≠ "_" := hnm g (by simp)
                  simp only [Op.eqFields, if_pos hnm1, Sem.run_bind, p1, p2, he, Result.andThen_ok]
                  have ih' := ih r' _ hr rfl (fun f hf => hnm f (by simp [hf]))
                  cases b with
                  | true => simp only [Bool.not_true, Bool.false_eq_true, if_false]; rw [ih', ← h]; simp
                  | false => simp [← h]
            · simp at h
      · simp at h
    · simp at h
end equal

end Go.VS

/-
  VS, part 6: the quiet operations, one by one.
-/
namespace Go.VS

theorem heap_alloc_old (w : World) (o : Obj) {c : Nat} (h : c < w.heap.size) : (w.alloc o).heap[c]? = w.heap[c]? := by
  show (w.heap.push o)[c]? = _
  rw [Array.getElem?_push, if_neg (by omega)]
theorem heap_alloc_new (w : World) (o : Obj) : (w.alloc o).heap[w.heap.size]? = some o := by
  show (w.heap.push o)[w.heap.size]? = _
  simp

theorem lt_of_heap {w : World} {c : Nat} {o : Obj} (h : w.heap[c]? = some o) : c < w.heap.size := by
  rcases Nat.lt_or_ge c w.heap.size with h1 | h1
  · exact h1
  · simp [Array.getElem?_eq_none h1] at h

/-- A block of the abstract heap that has just been made in memory. -/
theorem allocOutF (fr0 : Nat × Nat) {w : World} {G : Heap} {φ : Phi} {A : Avoid} (hst : St w G φ A) {id : Nat} {b : Blk} (hg : G.get id = some b) (hφ : φ id = none) (hver : b.ver < G.st)
    (hsz : ∀ (i : Nat) (x : AV), b.el[i]? = some x → x.cells.length = b.sz) (arr : Array Value) (T : TypeId) (hlen : b.el.length * b.sz ≤ arr.size) (hfr : ∀ j, j < arr.size → ¬ (fr0.1 ≤ j ∧ j < fr0.2))
    (hcells : ∀ (i : Nat) (x : AV) (j : Nat) (y : AV) (v : Value), b.el[i]? = some x → x.cells[j]? = some y → arr[i * b.sz + j]? = some v → R w G φ A y v ∧ v.oneCell' = true) :
    Out w G φ A (w.alloc (.cells arr T fr0)) G (fun i => if i = id then some (.at_ w.heap.size 0) else φ i) (fun c => A c ∨ c = w.heap.size) := by
  have hOw : ∀ c, Ow (fun i => if i = id then some (.at_ w.heap.size 0) else φ i) c → Ow φ c ∨ c = w.heap.size := by
    rintro c ⟨i, b0, h⟩
    try simp only at h
    split at h
    · simp only [Option.some.injEq, Loc.at_.injEq] at h; exact .inr h.1.symm
    · exact .inl ⟨i, b0, h⟩
  have hpost : Post w φ (w.alloc (.cells arr T fr0)) (fun i => if i = id then some (.at_ w.heap.size 0) else φ i) := by
    refine ⟨rfl, rfl, rfl, by simp, fun c hc _ => heap_alloc_old w _ hc, fun c hc => ?_, fun c hc => ?_⟩
    · unfold bsz; rw [heap_alloc_old w _ hc]
    · rcases hOw c hc with h | h
      · exact .inl h
      · exact .inr (by omega)
  have hevo : Evo w G φ A (w.alloc (.cells arr T fr0)) G (fun i => if i = id then some (.at_ w.heap.size 0) else φ i) (fun c => A c ∨ c = w.heap.size) := by
    refine ⟨fun c a t fr hc hn => ?_, Nat.le_refl _, fun i b' hb' _ => ⟨b', hb', rfl, rfl, rfl, rfl, fun loc hl => ?_⟩, fun c hc => hpost.bsz c (Ow.lt hst hc)⟩
    · have hlt := lt_of_heap hc
      exact ⟨⟨fr, by rw [heap_alloc_old w _ hlt]; exact hc⟩, fun h => by rcases h with h | h; exact hn h; omega⟩
    · try simp only
      split
      · rename_i h; subst h; rw [hφ] at hl; simp at hl
      · exact hl
  refine ⟨⟨fun i i' c b0 b1 h1 h2 => ?_, fun c hc => ?_, fun c hc => ?_, fun i loc hl => ?_⟩, hpost, hevo, fun c hc _ => .inl hc⟩
  · try simp only at h1 h2
    split at h1
    · rename_i hi
      split at h2
      · rename_i hi'; omega
      · simp only [Option.some.injEq, Loc.at_.injEq] at h1
        have := Ow.lt hst ⟨i', b1, h2⟩
        omega
    · split at h2
      · simp only [Option.some.injEq, Loc.at_.injEq] at h2
        have := Ow.lt hst ⟨i, b0, h1⟩
        omega
      · exact hst.inj i i' c b0 b1 h1 h2
  · rcases hOw c hc with h | h
    · exact .inl (hst.own c h)
    · exact .inr h
  · simp only [World.size_alloc]
    rcases hc with h | h
    · have := hst.bnd c h; omega
    · omega
  · try simp only at hl
    split at hl
    · rename_i hi; subst hi
      simp only [Option.some.injEq] at hl; subst hl
      refine ⟨b, hg, hver, hsz, by simp, fun c b0 h => ?_⟩
      simp only [Loc.at_.injEq] at h
      obtain ⟨rfl, rfl⟩ := h
      refine ⟨arr, T, fr0, heap_alloc_new w _, hfr, by omega, fun i x j y v hx hy hv => ?_⟩
      obtain ⟨h1, h2⟩ := hcells i x j y v hx hy (by simpa using hv)
      exact ⟨h1.mono hevo, h2⟩
    · obtain ⟨b', hg', hb'⟩ := hst.blk i loc hl
      refine ⟨b', hg', hb'.ver, hb'.sized, hb'.virt, fun c b0 h => ?_⟩
      obtain ⟨a, t, fr, h1, h2, h3, h4⟩ := hb'.here c b0 h
      exact ⟨a, t, fr, by rw [heap_alloc_old w _ (lt_of_heap h1)]; exact h1, h2, h3, fun i x j y v hx hy hv => ⟨(h4 i x j y v hx hy hv).1.mono hevo, (h4 i x j y v hx hy hv).2⟩⟩

/-- Where a new block's address reads. -/
theorem ptr_new {w : World} {G : Heap} {φ : Phi} {A : Avoid} {id ver c : Nat} (hv : ver < G.st) (hφ : φ id = some (.at_ c 0)) : R w G φ A (.ptr id ver 0 0) (.pointer (some ⟨c, 0, none⟩)) :=
  .ptr _ _ _ _ _ hv ⟨_, rfl⟩ fun b _ => ⟨c, 0, hφ, by simp⟩

section ops
variable {P : Program} {E : TEnv} (hE : ∀ t ti, E t = some ti → TyOK P t ti)
variable {w : World} {G : Heap} {φ : Phi} {A : Avoid} (hst : St w G φ A) {H H' : Heap} (hX : Ext H' G) (hnew : ∀ id, H.bs.length ≤ id → φ id = none)

theorem run_indexAddr_slice {t e : TypeId} {ti te : TI} (ht : TyOK P t ti) (hte : TyOK P e te) (hu : ti.und = .sl e) {k : IntKind} {n : Int} {c o len cap : Nat} (h0 : 0 ≤ n) (h1 : n < len) :
    (Instr.indexAt t (.slice (some ⟨c, o, none⟩) len cap) (.int k n)).run P w = .ok (.pointer (some ⟨c, o + n.toNat * te.sz, none⟩)) w := by
  unfold Instr.indexAt
  simp only [asIntOf, Sem.run_bind, Sem.run_pure, Result.andThen_ok, ht.sl w hu]
  simp [h0, h1, hte.sizeOf, add_none]

theorem run_indexAddr_arr {t e : TypeId} {ti te : TI} (ht : TyOK P t ti) (hte : TyOK P e te) {m : Nat} (hu : ti.und = .ar m e) {k : IntKind} {n : Int} {c o : Nat} (h0 : 0 ≤ n) (h1 : n < m) :
    (Instr.indexAt t (.pointer (some ⟨c, o, none⟩)) (.int k n)).run P w = .ok (.pointer (some ⟨c, o + n.toNat * te.sz, none⟩)) w := by
  unfold Instr.indexAt
  simp only [asIntOf, Sem.run_bind, Sem.run_pure, Result.andThen_ok, ht.und_ar w hu, Instr.sureAddr]
  simp [h0, h1, hte.sizeOf, add_none]

theorem run_fieldAddr {t ft : TypeId} {ti tf : TI} (ht : TyOK P t ti) {fs : List (Nat × TypeId)} (hu : ti.und = .st fs) {f o : Nat} (hf : fs[f]? = some (o, ft)) (htf : TyOK P ft tf) (hz : tf.sz ≠ 0) {c p : Nat} :
    (Instr.fieldAt t (.pointer (some ⟨c, p, none⟩)) f).run P w = .ok (.pointer (some ⟨c, p + o, none⟩)) w := by
  unfold Instr.fieldAt
  obtain ⟨gs, hg, hfs, _⟩ := ht.und_st w hu
  simp only [Sem.run_bind, hg, Result.andThen_ok]
  rw [hfs] at hf
  simp only [List.getElem?_map, Option.map_eq_some_iff, Prod.mk.injEq] at hf
  obtain ⟨g, hg1, hg2, hg3⟩ := hf
  have hg1' : gs[f]? = some g := by simpa using hg1
  simp only [hg1', Sem.run_bind, Instr.sureAddr, Sem.run_pure, Result.andThen_ok, fieldPlace, hg3, htf.sizeOf, hz, if_false, hg2, add_none]

theorem fe_inv {x : AV} {off : Nat} {v : Value} {A : Avoid} (h : FR w A (.fe x off) v) : ∃ c o arr T fr, v = .pointer (some ⟨c, o + off, none⟩) ∧ w.heap[c]? = some (.cells arr T fr) ∧ ¬ A c ∧ o + x.cells.length ≤ arr.size ∧
    (∀ (j : Nat) (v : Value), j < x.cells.length → arr[o + j]? = some v → v.oneCell' = true) ∧ (∀ (j : Nat) (y : AV) (v : Value), x.cells[j]? = some y → arr[o + j]? = some v → FR w A y v) := by
  cases h with
  | fe _ _ c o arr T fr h1 h2 h3 h4 h5 => exact ⟨c, o, arr, T, fr, rfl, h1, h2, h3, h4, h5⟩

theorem fe_mk {x : AV} {off c o : Nat} {arr : Array Value} {T : TypeId} {fr : Nat × Nat} {A : Avoid} (h1 : w.heap[c]? = some (.cells arr T fr)) (h2 : ¬ A c) (h3 : o + x.cells.length ≤ arr.size)
    (h4 : ∀ (j : Nat) (v : Value), j < x.cells.length → arr[o + j]? = some v → v.oneCell' = true) (h5 : ∀ (j : Nat) (y : AV) (v : Value), x.cells[j]? = some y → arr[o + j]? = some v → FR w A y v) :
    FR w A (.fe x off) (.pointer (some ⟨c, o + off, none⟩)) := .fe x off c o arr T fr h1 h2 h3 h4 h5

include hE in
theorem q_fieldAddr {H0 : Heap} (hX : Ext H0 G) {t : TypeId} {x : AV} {a : Value} {f : Nat} {z : AV} (hx : R w G φ A x a)
    (h : (match E t with
      | some ti => match ti.und with
        | .st fs => match fs[f]? with
          | some (o, ft) => match E ft with
            | some tf => if tf.sz = 0 then none else match (generalizing := false) x with
              | .ptr id ver idx off => match H0.blk id ver with
                | some _ => some (.ptr id ver idx (off + o), H0)
                | none => none
              | .fe y off => some (.fe y (off + o), H0)
              | _ => none
            | none => none
          | none => none
        | _ => none
      | none => none) = some (z, H')) : ∃ v, (Instr.fieldAt t a f).run P w = .ok v w ∧ R w G φ A z v := by
  cases h1 : E t with
  | none => simp [h1] at h
  | some ti =>
    simp only [h1] at h
    split at h
    · rename_i fs hu
      split at h
      · rename_i o ft hf
        cases h2 : E ft with
        | none => simp [h2] at h
        | some tf =>
          simp only [h2] at h
          split at h
          · simp at h
          · rename_i hz
            split at h
            · rename_i id ver idx off
              split at h
              · rename_i b hb
                simp only [Option.some.injEq, Prod.mk.injEq] at h
                obtain ⟨rfl, rfl⟩ := h
                obtain ⟨hv, _, hp⟩ := hx.ptr_inv
                obtain ⟨c, b0, hφ, rfl⟩ := hp b (hX.blk hb)
                refine ⟨_, run_fieldAddr (hE _ _ h1) hu hf (hE _ _ h2) hz, .ptr _ _ _ _ _ hv ⟨_, rfl⟩ fun b' hb' => ⟨c, b0, hφ, ?_⟩⟩
                rw [hX.blk hb] at hb'
                simp only [Option.some.injEq] at hb'; subst hb'
                rw [Nat.add_assoc]
              · simp at h
            · rename_i y off
              simp only [Option.some.injEq, Prod.mk.injEq] at h
              obtain ⟨rfl, rfl⟩ := h
              obtain ⟨c, p, arr, T, fr, rfl, k1, k2, k3, k4, k5⟩ := fe_inv hx.fe_inv
              refine ⟨_, run_fieldAddr (hE _ _ h1) hu hf (hE _ _ h2) hz, .fr _ _ ?_⟩
              rw [Nat.add_assoc]
              exact fe_mk k1 k2 k3 k4 k5
            · simp at h
      · simp at h
    · simp at h

theorem equalIn_nil1 {t e : TypeId} (h : (underlying t).run P w = .ok (.slice e) w) (d : Nat) : (Op.equalIn (d + 1) t (.slice none 0 0) (.slice none 0 0)).run P w = .ok true w := by
  simp [Op.equalIn, h]
theorem equalIn_nil2 {t e : TypeId} {a : Addr} {l c : Nat} (h : (underlying t).run P w = .ok (.slice e) w) (d : Nat) : (Op.equalIn (d + 1) t (.slice (some a) l c) (.slice none 0 0)).run P w = .ok false w := by
  simp [Op.equalIn, h]
theorem equalIn_noerr {t : TypeId} {ms : Array (String × TypeId)} (h : (underlying t).run P w = .ok (.interface ms) w) (d : Nat) : (Op.equalIn (d + 1) t .nilIface .nilIface).run P w = .ok true w := by
  simp [Op.equalIn, h]
theorem equalIn_err {t t' : TypeId} {u : Value} {ms : Array (String × TypeId)} (h : (underlying t).run P w = .ok (.interface ms) w) (d : Nat) : (Op.equalIn (d + 1) t (.iface t' u) .nilIface).run P w = .ok false w := by
  simp [Op.equalIn, h]
theorem equalIn_bool {t : TypeId} {a b : Bool} (h : (underlying t).run P w = .ok .bool w) (d : Nat) : (Op.equalIn (d + 1) t (.bool a) (.bool b)).run P w = .ok (a == b) w := by
  simp [Op.equalIn, h]
theorem equal_def (t : TypeId) (a b : Value) : Op.equal t a b = Op.equalIn (9999 + 1) t a b := rfl

theorem bin_nil {t : TypeId} {ti : TI} (ht : TyOK P t ti) {op : BinOp} {x y z : AV} {a b : Value} (hx : R w G φ A x a) (hy : R w G φ A y b) {r : Bool} (h : isNil ti.und x y = some r) (ox oy : Operand) (hc : (∃ u, oy = .const u) ∨ ∀ e, y ≠ .errv e)
    (hop : (op = .eql ∧ z = .bool r) ∨ (op = .neq ∧ z = .bool (!r))) :
    ∃ v, (do eqGuard op t ox oy a b; binOp op t a b : Sem Value).run P w = .ok v w ∧ R w G φ A z v := by
  have key : (eqGuard op t ox oy a b).run P w = .ok () w ∧ (Op.equal t a b).run P w = .ok r w ∧ (∀ f : BinOp → Value → Value → Sem Value, True) ∧
      (binOp .eql t a b = do pure (.bool (← Op.equal t a b))) ∧ (binOp .neq t a b = do pure (.bool (!(← Op.equal t a b)))) := by
    unfold isNil at h
    split at h
    · rename_i e hu
      have e1 := hx.nil_inv; have e2 := hy.nil_inv; subst e1; subst e2
      simp only [Option.some.injEq] at h; subst h
      refine ⟨eqGuard_plain P w _ _ _ _ _ _ (by simp) rfl, ?_, fun _ => trivial, rfl, rfl⟩
      exact equalIn_nil1 (ht.sl w hu) 9999
    · rename_i e y ys hu
      have e2 := hy.nil_inv; subst e2
      simp only [Option.some.injEq] at h; subst h
      have hf := hx.fz_inv
      cases hf with
      | fz _ c off cap n arr T fr =>
        refine ⟨eqGuard_plain P w _ _ _ _ _ _ (by simp) rfl, ?_, fun _ => trivial, rfl, rfl⟩
        exact equalIn_nil2 (ht.sl w hu) 9999
    · rename_i b hu
      simp only [Option.some.injEq] at h; subst h
      rcases hy.errv_inv with ⟨_, rfl⟩ | ⟨hb, _⟩
      · obtain ⟨ms, hms⟩ := ht.und_ifc w hu
        rcases hx.errv_inv with ⟨rfl, rfl⟩ | ⟨rfl, t', u, rfl⟩
        · rcases hc with ⟨u, rfl⟩ | hc
          · refine ⟨?_, equalIn_noerr hms 9999, fun _ => trivial, rfl, rfl⟩
            cases op <;> cases ox <;> rfl
          · exact absurd rfl (hc _)
        · exact ⟨eqGuard_plain P w _ _ _ _ _ _ (by simp) rfl, equalIn_err hms 9999, fun _ => trivial, rfl, rfl⟩
      · simp at hb
    · simp at h
  obtain ⟨k1, k2, _, k3, k4⟩ := key
  rcases hop with ⟨rfl, rfl⟩ | ⟨rfl, rfl⟩
  · exact ⟨_, by simp [k1, k3, k2], .fr _ _ (.bool _)⟩
  · exact ⟨_, by simp [k1, k4, k2], .fr _ _ (.bool _)⟩

set_option maxHeartbeats 1000000 in
include hE in
theorem bin_ok {op : BinOp} {t : TypeId} {x y z : AV} {a b : Value} (hx : R w G φ A x a) (hy : R w G φ A y b) (ox oy : Operand) (hc : (∃ u, oy = .const u) ∨ ∀ e, y ≠ .errv e) (h : binA E op t x y = some z) :
    ∃ v, (do eqGuard op t ox oy a b; binOp op t a b : Sem Value).run P w = .ok v w ∧ R w G φ A z v := by
  have lift : ∀ {v : Value}, FR w (fun _ => False) z v → FR w A z v ∨ True := fun _ => .inr trivial
  have shr : ∀ {z : AV} {v : Value}, FR w (fun _ => False) z v → (∃ k n, z = .int k n) ∨ (∃ b, z = .bool b) ∨ (∃ s, z = .str s) → R w G φ A z v := by
    intro z v hf hz
    rcases hz with ⟨k, n, rfl⟩ | ⟨b, rfl⟩ | ⟨s, rfl⟩
    · cases hf; exact .fr _ _ (.int _ _)
    · cases hf; exact .fr _ _ (.bool _)
    · cases hf; exact .fr _ _ (.str _)
  clear lift
  cases x with
  | int k n =>
    cases y with
    | int k2 n2 =>
      have e1 := hx.int_inv; have e2 := hy.int_inv; subst e1; subst e2
      obtain ⟨v, hv, hr⟩ := bin_int P w h
      refine ⟨v, by simp [eqGuard_plain P w op t ox oy (.int k n) (.int k2 n2) (by simp) rfl, hv], shr hr ?_⟩
      unfold binA at h
      have : ∀ op, (if k = k2 then intBin op k n n2 else none) = some z → (∃ k n, z = .int k n) ∨ (∃ b, z = .bool b) ∨ (∃ s, z = .str s) := by
        intro op h
        split at h
        · cases op <;> simp only [intBin, Option.some.injEq, reduceCtorEq] at h <;> first
            | (subst h; first | exact .inl ⟨_, _, rfl⟩ | exact .inr (.inl ⟨_, rfl⟩))
            | (split at h; · (simp at h)
               · simp only [Option.some.injEq] at h; subst h; exact .inl ⟨_, _, rfl⟩)
        · simp at h
      cases op <;> simp only at h <;> first
        | exact this _ h
        | (split at h; · (simp at h)
           · simp only [Option.some.injEq] at h; subst h; exact .inl ⟨_, _, rfl⟩)
    | _ =>
      simp only [binA] at h
      cases he : E t with
      | none => simp [he] at h
      | some ti => simp only [he] at h; cases op <;> simp [isNil] at h
  | str l =>
    cases y with
    | str l2 =>
      obtain ⟨s, rfl, rfl⟩ := hx.str_inv
      obtain ⟨s2, rfl, rfl⟩ := hy.str_inv
      simp only [binA] at h
      obtain ⟨v, hv, hr⟩ := bin_str P w (t := t) h
      refine ⟨v, by simp [eqGuard_plain P w op t ox oy (.string s) (.string s2) (by simp) rfl, hv], shr hr ?_⟩
      cases op <;> simp only [strBin, Option.some.injEq, reduceCtorEq] at h <;> first
        | (subst h; exact .inr (.inl ⟨_, rfl⟩))
        | (split at h
           · simp only [Option.some.injEq] at h; subst h; exact .inr (.inr ⟨_, rfl⟩)
           · simp at h)
    | _ =>
      simp only [binA] at h
      cases he : E t with
      | none => simp [he] at h
      | some ti => simp only [he] at h; cases op <;> simp [isNil] at h
  | bool p =>
    cases y with
    | bool q =>
      have e1 := hx.bool_inv; have e2 := hy.bool_inv; subst e1; subst e2
      simp only [binA] at h
      cases he : E t with
      | none => simp [he] at h
      | some ti =>
        simp only [he] at h
        split at h
        · rename_i hu
          simp only [Option.some.injEq] at h; subst h
          have := equalIn_bool (a := p) (b := q) ((hE _ _ he).und_bl w hu) 9999
          exact ⟨.bool (p == q), by simp [eqGuard_plain P w _ t ox oy (.bool p) (.bool q) (by simp) rfl, binOp, equal_def, this], .fr _ _ (.bool _)⟩
        · rename_i hu
          simp only [Option.some.injEq] at h; subst h
          have := equalIn_bool (a := p) (b := q) ((hE _ _ he).und_bl w hu) 9999
          exact ⟨.bool (!(p == q)), by simp [eqGuard_plain P w _ t ox oy (.bool p) (.bool q) (by simp) rfl, binOp, equal_def, this], .fr _ _ (.bool _)⟩
        · simp at h
    | _ =>
      simp only [binA] at h
      cases he : E t with
      | none => simp [he] at h
      | some ti => simp only [he] at h; cases op <;> simp [isNil] at h
  | agg xs =>
    cases y with
    | agg ys =>
      obtain ⟨vs, rfl, hlx, hox, hpx⟩ := hx.agg_inv
      obtain ⟨us, rfl, hly, hoy, hpy⟩ := hy.agg_inv
      have nag : ∀ {ws : Array Value}, (∀ (j : Nat) (v : Value), ws[j]? = some v → v.oneCell' = true) → ∀ (j : Nat) (v : Value), (Value.agg ws).cells[j]? = some v → isAggV v = false := by
        intro ws hw j v hv
        have := hw j v hv
        cases v <;> first | rfl | simp [Value.oneCell'] at this
      simp only [binA] at h
      cases he : E t with
      | none => simp [he] at h
      | some ti =>
      simp only [he] at h
      by_cases hag0 : ti.agg = false
      · simp [hag0] at h
      have hag : ti.agg = true := by simpa using hag0
      simp only [hag, if_true] at h
      have main : ∀ r, eqT E 8 t xs ys = some r → (eqGuard op t ox oy (.agg vs) (.agg us)).run P w = .ok () w ∧ (Op.equalIn 10000 t (.agg vs) (.agg us)).run P w = .ok r w := by
        intro r hr
        have hT := hE _ _ he
        have hok : ti.eqok = true := by
          obtain ⟨i0, d0, z0, _, _, _, _, _, _, hagd, _, _, _, hud, _⟩ := hT.out
          rw [hag] at hagd
          have hr0 := hr
          simp only [eqT, he] at hr0
          rw [← hud] at hr0
          cases d0 with
          | struct gs =>
            simp only [udOf] at hr0
            split at hr0
            · rename_i heq; split at heq <;> simp at heq
            · rename_i heq; split at heq <;> simp at heq
            · rename_i heq; split at heq <;> simp at heq
            · split at hr0
              · assumption
              · simp at hr0
            · simp at hr0
          | array n e => simp [udOf] at hr0
          | _ => simp [isAggD] at hagd
        obtain ⟨i0, d0, z0, _, _, _, _, _, _, _, _, _, _, _, heq⟩ := hT.out
        refine ⟨run_eqGuard_agg w op t ox oy vs us (heq hok).2, ?_⟩
        refine eqT_ok (w0 := w) (H := G) (φ := φ) (A := A) hE 8 t ti xs ys r he hr 10000 (by omega) _ _ ?_ ?_ (nag hox) (nag hoy)
        · rw [hag]; exact ⟨hlx, rfl, hpx⟩
        · rw [hag]; exact ⟨hly, rfl, hpy⟩
      cases op <;> simp only [reduceCtorEq] at h
      case eql =>
        split at h
        · rename_i r hr
          simp only [Option.some.injEq] at h; subst h
          obtain ⟨m1, m2⟩ := main r hr
          exact ⟨.bool r, by simp only [Sem.run_bind, m1, Result.andThen_ok]; rw [run_eql_struct, m2]; rfl, .fr _ _ (.bool _)⟩
        · simp at h
      case neq =>
        split at h
        · rename_i r hr
          simp only [Option.some.injEq] at h; subst h
          obtain ⟨m1, m2⟩ := main r hr
          exact ⟨.bool (!r), by simp only [Sem.run_bind, m1, Result.andThen_ok]; rw [run_neq_struct, m2]; rfl, .fr _ _ (.bool _)⟩
        · simp at h
    | _ =>
      simp only [binA] at h
      cases he : E t with
      | none => simp [he] at h
      | some ti => simp only [he] at h; cases op <;> simp [isNil] at h
  | _ =>
    simp only [binA] at h
    cases he : E t with
    | none => simp [he] at h
    | some ti =>
      simp only [he] at h
      cases op <;> simp only [reduceCtorEq] at h
      case eql =>
        split at h
        · rename_i r hr
          simp only [Option.some.injEq] at h; subst h
          refine bin_nil (hE _ _ he) hx hy hr ox oy hc (.inl ⟨rfl, rfl⟩)
        · simp at h
      case neq =>
        split at h
        · rename_i r hr
          simp only [Option.some.injEq] at h; subst h
          refine bin_nil (hE _ _ he) hx hy hr ox oy hc (.inr ⟨rfl, rfl⟩)
        · simp at h
end ops

end Go.VS

/-
  VS, part 7: the quiet operations, one by one, go on.
-/
namespace Go.VS

section ops
variable {P : Program} {E : TEnv} (hE : ∀ t ti, E t = some ti → TyOK P t ti)
variable {w : World} {G : Heap} {φ : Phi} {A : Avoid}

theorem fz_inv {xs : List AV} {v : Value} {A : Avoid} (h : FR w A (.fz xs) v) (hne : xs ≠ []) : ∃ c off cap n arr T fr, v = .slice (some ⟨c, off, none⟩) xs.length cap ∧
    w.heap[c]? = some (.cells arr T fr) ∧ ¬ A c ∧ xs.length ≤ cap ∧ off + xs.length * n ≤ arr.size ∧ (∀ (i : Nat) (x : AV), xs[i]? = some x → x.cells.length = n) ∧
    (∀ (j : Nat) (v : Value), j < xs.length * n → arr[off + j]? = some v → v.oneCell' = true) ∧
    (∀ (i : Nat) (x : AV) (j : Nat) (y : AV) (v : Value), xs[i]? = some x → x.cells[j]? = some y → arr[off + i * n + j]? = some v → FR w A y v) := by
  cases h with
  | fz0 => exact absurd rfl hne
  | fz _ c off cap n arr T fr h1 h2 h3 h4 h5 h6 h7 => exact ⟨c, off, cap, n, arr, T, fr, rfl, h1, h2, h3, h4, h5, h6, h7⟩

theorem mul_lt_le {i n m : Nat} (h : i < m) : i * n + n ≤ m * n := by
  have : (i + 1) * n ≤ m * n := Nat.mul_le_mul_right n h
  rw [Nat.add_mul] at this; omega

/-- An element of a slice that nobody writes. -/
theorem fz_elem {xs : List AV} {v : Value} {A : Avoid} (h : FR w A (.fz xs) v) {i : Nat} {y : AV} (hy : xs[i]? = some y) :
    ∃ c off cap, v = .slice (some ⟨c, off, none⟩) xs.length cap ∧ FR w A (.fe y 0) (.pointer (some ⟨c, off + i * y.cells.length, none⟩)) := by
  obtain ⟨c, off, cap, n, arr, T, fr, rfl, h1, h2, h3, h4, h5, h6, h7⟩ := fz_inv h (by intro h; simp [h] at hy)
  have hn := h5 i y hy
  have hi : i < xs.length := (List.getElem?_eq_some_iff.1 hy).1
  have hle := mul_lt_le (n := n) hi
  refine ⟨c, off, cap, rfl, ?_⟩
  rw [hn]
  have := fe_mk (w := w) (A := A) (x := y) (off := 0) (o := off + i * n) h1 h2 (by omega) (fun j v hj hv => h6 (i * n + j) v (by omega) (by rw [← hv]; congr 1; omega))
    (fun j z v hz hv => h7 i y j z v hy hz hv)
  simpa using this

/-- What is known of a slice in the heap of which an element is asked. -/
theorem ref_at {id ver off len : Nat} {v : Value} (hx : R w G φ A (.ref id ver off len) v) {b : Blk} (hb : G.blk id ver = some b) (hl : 0 < len) :
    ∃ c b0 cap, φ id = some (.at_ c b0) ∧ v = .slice (some ⟨c, b0 + off * b.sz, none⟩) len cap ∧ off + len ≤ b.el.length ∧ len ≤ cap ∧ b.el.length ≤ off + cap ∧ b0 + (off + cap) * b.sz ≤ bsz w c := by
  obtain ⟨hv, _, hr⟩ := hx.ref_inv
  obtain ⟨loc, a, cap, h1, h2, h3, h4, h5, h6⟩ := (hr b hb).out
  cases loc with
  | virt => simp only at h6; rw [h6.1] at h3; simp at h3; omega
  | at_ c b0 =>
    simp only at h6
    rcases h6 with h6 | ⟨rfl, h7⟩
    · omega
    · exact ⟨c, b0, cap, h1, h2, h3, h4, h5, h7⟩

include hE in
theorem q_indexAddr {H0 H' : Heap} (hX : Ext H0 G) {t : TypeId} {x i : AV} {a ai : Value} {z : AV} (hx : R w G φ A x a) (hi : R w G φ A i ai)
    (h : (match (generalizing := false) E t, i with
    | some ti, .int _ n => match ti.und with
      | .sl e => match E e with
        | some te => match (generalizing := false) x with
          | .fz xs => if 0 ≤ n then match xs[n.toNat]? with
              | some y => if y.cells.length = te.sz then some (.fe y 0, H0) else none
              | none => none
            else none
          | .ref id ver off len => match H0.blk id ver with
            | some b => if b.sz = te.sz ∧ 0 ≤ n ∧ n < len ∧ off + len ≤ b.el.length then some (.ptr id ver (off + n.toNat) 0, H0) else none
            | none => none
          | _ => none
        | none => none
      | .ar m e => match E e with
        | some te => if 0 ≤ n ∧ n < m then match (generalizing := false) x with
            | .ptr id ver idx off => match H0.blk id ver with
              | some _ => some (.ptr id ver idx (off + n.toNat * te.sz), H0)
              | none => none
            | .fe y off => some (.fe y (off + n.toNat * te.sz), H0)
            | _ => none
          else none
        | none => none
      | _ => none
    | _, _ => none) = some (z, H')) : ∃ v, (Instr.indexAt t a ai).run P w = .ok v w ∧ R w G φ A z v := by
  split at h
  · rename_i ti k n h1
    have e1 := hi.int_inv; subst e1
    split at h
    · rename_i e hu
      cases h2 : E e with
      | none => simp [h2] at h
      | some te =>
        simp only [h2] at h
        split at h
        · rename_i xs
          split at h
          · rename_i h0
            split at h
            · rename_i y hy
              split at h
              · rename_i hs
                simp only [Option.some.injEq, Prod.mk.injEq] at h
                obtain ⟨rfl, rfl⟩ := h
                obtain ⟨c, off, cap, rfl, hf⟩ := fz_elem hx.fz_inv hy
                have hlt : n.toNat < xs.length := (List.getElem?_eq_some_iff.1 hy).1
                rw [hs] at hf
                exact ⟨_, run_indexAddr_slice (hE _ _ h1) (hE _ _ h2) hu h0 (by omega), .fr _ _ hf⟩
              · simp at h
            · simp at h
          · simp at h
        · rename_i id ver off len
          split at h
          · rename_i b hb
            split at h
            · rename_i hc
              obtain ⟨hs, h0, hl, hle⟩ := hc
              simp only [Option.some.injEq, Prod.mk.injEq] at h
              obtain ⟨rfl, rfl⟩ := h
              obtain ⟨c, b0, cap, hφ, rfl, _⟩ := ref_at hx (hX.blk hb) (by omega)
              refine ⟨_, run_indexAddr_slice (hE _ _ h1) (hE _ _ h2) hu h0 hl, .ptr _ _ _ _ _ hx.ref_inv.1 ⟨_, rfl⟩ fun b' hb' => ⟨c, b0, hφ, ?_⟩⟩
              rw [hX.blk hb] at hb'
              simp only [Option.some.injEq] at hb'; subst hb'
              rw [← hs, Nat.add_mul]
              congr 3; omega
            · simp at h
          · simp at h
        · simp at h
    · rename_i m e hu
      cases h2 : E e with
      | none => simp [h2] at h
      | some te =>
        simp only [h2] at h
        split at h
        · rename_i hc
          split at h
          · rename_i id ver idx off
            split at h
            · rename_i b hb
              simp only [Option.some.injEq, Prod.mk.injEq] at h
              obtain ⟨rfl, rfl⟩ := h
              obtain ⟨hv, _, hp⟩ := hx.ptr_inv
              obtain ⟨c, b0, hφ, rfl⟩ := hp b (hX.blk hb)
              refine ⟨_, run_indexAddr_arr (hE _ _ h1) (hE _ _ h2) hu hc.1 hc.2, .ptr _ _ _ _ _ hv ⟨_, rfl⟩ fun b' hb' => ⟨c, b0, hφ, ?_⟩⟩
              rw [hX.blk hb] at hb'
              simp only [Option.some.injEq] at hb'; subst hb'
              rw [Nat.add_assoc]
            · simp at h
          · rename_i y off
            simp only [Option.some.injEq, Prod.mk.injEq] at h
            obtain ⟨rfl, rfl⟩ := h
            obtain ⟨c, p, arr, T, fr, rfl, k1, k2, k3, k4, k5⟩ := fe_inv hx.fe_inv
            refine ⟨_, run_indexAddr_arr (hE _ _ h1) (hE _ _ h2) hu hc.1 hc.2, .fr _ _ ?_⟩
            rw [Nat.add_assoc]
            exact fe_mk k1 k2 k3 k4 k5
          · simp at h
        · simp at h
    · simp at h
  · simp at h

include hE in
theorem q_load {H0 H' : Heap} (hst : St w G φ A) (hX : Ext H0 G) {t : TypeId} {x : AV} {a : Value} {z : AV} (hx : R w G φ A x a)
    (h : (match E t with
    | some ti => match (generalizing := false) x with
      | .fe y off => (match rdAt ti y off with | some v => some (v, H0) | none => none)
      | .ptr id ver idx off => match H0.blk id ver with
        | some b => match b.el[idx]? with
          | some y => (match rdAt ti y off with | some v => some (v, H0) | none => none)
          | none => none
        | none => none
      | _ => none
    | none => none) = some (z, H')) : ∃ v, (Instr.loadAt t a).run P w = .ok v w ∧ R w G φ A z v := by
  split at h
  · rename_i ti h1
    split at h
    · rename_i y off
      split at h
      · rename_i v hv
        simp only [Option.some.injEq, Prod.mk.injEq] at h
        obtain ⟨rfl, rfl⟩ := h
        obtain ⟨c, p, arr, T, fr, rfl, k1, k2, k3, k4, k5⟩ := fe_inv hx.fe_inv
        obtain ⟨u, hu, hr⟩ := rdAt_load (hE _ _ h1) k1 hv k3 (H := G) (φ := φ) (A := A) (fun j z v hz hv => .fr _ _ (k5 j z v hz hv)) k4
        exact ⟨u, by simp [Instr.loadAt, Instr.sureAddr, hu], hr⟩
      · simp at h
    · rename_i id ver idx off
      split at h
      · rename_i b hb
        split at h
        · rename_i y hy
          split at h
          · rename_i v hv
            simp only [Option.some.injEq, Prod.mk.injEq] at h
            obtain ⟨rfl, rfl⟩ := h
            obtain ⟨_, _, hp⟩ := hx.ptr_inv
            obtain ⟨c, b0, hφ, rfl⟩ := hp b (hX.blk hb)
            obtain ⟨b', hb', hok⟩ := hst.blk id _ hφ
            have := (Heap.blk_get (hX.blk hb)).1
            rw [this] at hb'
            simp only [Option.some.injEq] at hb'; subst hb'
            obtain ⟨arr, T, fr, k1, _, k3, k4⟩ := hok.here c b0 rfl
            have hlt : idx < b.el.length := (List.getElem?_eq_some_iff.1 hy).1
            have hle := mul_lt_le (n := b.sz) hlt
            have hs := hok.sized idx y hy
            have hone : ∀ (j : Nat) (v : Value), j < y.cells.length → arr[b0 + idx * b.sz + j]? = some v → v.oneCell' = true := fun j v hj hv =>
              (k4 idx y j (y.cells[j]) v hy (List.getElem?_eq_getElem hj) hv).2
            obtain ⟨u, hu, hr⟩ := rdAt_load (hE _ _ h1) k1 hv (o := b0 + idx * b.sz) (by omega) (H := G) (φ := φ) (A := A) (fun j z v hz hv => (k4 idx y j z v hy hz hv).1) hone
            exact ⟨u, by simp [Instr.loadAt, Instr.sureAddr, hu], hr⟩
          · simp at h
        · simp at h
      · simp at h
    · simp at h
  · simp at h

include hE in
theorem q_field {t : TypeId} {x : AV} {a : Value} {f : Nat} {z : AV} {H0 H' : Heap} (hx : R w G φ A x a)
    (h : (match (generalizing := false) E t, x with
    | some ti, .agg cs => match ti.und with
      | .st fs => match fs[f]? with
        | some (o, ft) => match E ft with
          | some tf => (match rdAt tf (.agg cs) o with | some v => some (v, H0) | none => none)
          | none => none
        | none => none
      | _ => none
    | _, _ => none) = some (z, H')) : ∃ v, (Instr.field t a f).run P w = .ok v w ∧ R w G φ A z v := by
  split at h
  · rename_i ti cs h1
    split at h
    · rename_i fs hu
      split at h
      · rename_i o ft hf
        split at h
        · rename_i tf h2
          split at h
          · rename_i v hv
            simp only [Option.some.injEq, Prod.mk.injEq] at h
            obtain ⟨rfl, rfl⟩ := h
            obtain ⟨vs, rfl, hl, ho, hp⟩ := hx.agg_inv
            obtain ⟨u, hu2, hr⟩ := rdAt_part (hE _ _ h2) w hv hl hp ho
            obtain ⟨gs, hg, hfs, _⟩ := (hE _ _ h1).und_st w hu
            rw [hfs] at hf
            simp only [List.getElem?_map, Option.map_eq_some_iff, Prod.mk.injEq] at hf
            obtain ⟨g, hg1, hg2, hg3⟩ := hf
            have hg1' : gs[f]? = some g := by simpa using hg1
            exact ⟨u, by simp [Instr.field, hg, hg1', asAgg, hg2, hg3, hu2], hr⟩
          · simp at h
        · simp at h
      · simp at h
    · simp at h
  · simp at h

include hE in
theorem q_index {t : TypeId} {x i : AV} {a ai : Value} {z : AV} {H0 H' : Heap} (hx : R w G φ A x a) (hi : R w G φ A i ai)
    (h : (match (generalizing := false) E t, i with
    | some ti, .int _ n => match (generalizing := false) ti.und, x with
      | .str, .str l => if 0 ≤ n then match l[n.toNat]? with | some b => some (.int .u8 b.toNat, H0) | none => none else none
      | .ar m e, .agg cs => match E e with
        | some te => if 0 ≤ n ∧ n < m then (match rdAt te (.agg cs) (n.toNat * te.sz) with | some v => some (v, H0) | none => none) else none
        | none => none
      | _, _ => none
    | _, _ => none) = some (z, H')) : ∃ v, (Instr.index t a ai).run P w = .ok v w ∧ R w G φ A z v := by
  split at h
  · rename_i ti k n h1
    have e1 := hi.int_inv; subst e1
    split at h
    · rename_i l hu
      obtain ⟨s, rfl, rfl⟩ := hx.str_inv
      split at h
      · rename_i h0
        split at h
        · rename_i b hb
          simp only [Option.some.injEq, Prod.mk.injEq] at h
          obtain ⟨rfl, rfl⟩ := h
          refine ⟨.int .u8 b.toNat, ?_, .fr _ _ (.int _ _)⟩
          have hs : s[n.toNat]? = some b := by
            have : s.data[n.toNat]? = some b := by simpa using hb
            simp only [getElem?_def] at this ⊢
            split at this
            · rename_i hlt
              rw [dif_pos (by exact hlt)]
              exact this
            · simp at this
          simp [Instr.index, asIntOf, (hE _ _ h1).und_str w hu, h0, hs]
        · simp at h
      · simp at h
    · rename_i m e cs hu
      split at h
      · rename_i te h2
        split at h
        · rename_i hc
          split at h
          · rename_i v hv
            simp only [Option.some.injEq, Prod.mk.injEq] at h
            obtain ⟨rfl, rfl⟩ := h
            obtain ⟨vs, rfl, hl, ho, hp⟩ := hx.agg_inv
            obtain ⟨u, hu2, hr⟩ := rdAt_part (hE _ _ h2) w hv hl hp ho
            exact ⟨u, by simp [Instr.index, asIntOf, (hE _ _ h1).und_ar w hu, hc.1, hc.2, (hE _ _ h2).sizeOf, hu2], hr⟩
          · simp at h
        · simp at h
      · simp at h
    · simp at h
  · simp at h
end ops
end Go.VS

/-
  VS, part 8: the operations that slice, and those that make memory.
-/
namespace Go.VS

/-! slicing -/

section ops
variable {P : Program} {E : TEnv} (hE : ∀ t ti, E t = some ti → TyOK P t ti)
variable {w : World} {G : Heap} {φ : Phi} {A : Avoid}

theorem run_sliceBound (k : IntKind) {i : Int} {y : Nat} (h0 : 0 ≤ i) (h1 : i ≤ y) (code : BoundsCode) : (Instr.sliceBound (.int k i) y code).run P w = .ok i.toNat w := by
  simp [Instr.sliceBound, asIntOf, h0, h1]

/-- A bound as it lies among the operands. -/
structure BOK (x : Option Int) (v : Option Value) : Prop where
  out : (x = none ∧ v = none) ∨ ∃ k i, x = some i ∧ v = some (.int k i)

theorem bok_of {x : Option AV} {v : Option Value} {r : Option Int} (h : intOp x = some r) (hv : (x = none ∧ v = none) ∨ ∃ y u, x = some y ∧ v = some u ∧ R w G φ A y u) : BOK r v := by
  rcases hv with ⟨rfl, rfl⟩ | ⟨y, u, rfl, rfl, hr⟩
  · simp [intOp] at h; exact ⟨.inl ⟨h.symm, rfl⟩⟩
  · cases y with
    | int k n => simp [intOp] at h; have := hr.int_inv; subst this; exact ⟨.inr ⟨k, n, h.symm, rfl⟩⟩
    | _ => simp [intOp] at h

theorem run_sliceBounds {isSlice : Bool} {len cap : Nat} {lo hi : Option Int} {vlo vhi : Option Value} (hlo : BOK lo vlo) (hhi : BOK hi vhi)
    (h0 : 0 ≤ lo.getD 0) (h1 : lo.getD 0 ≤ hi.getD len) (h2 : hi.getD len ≤ cap) :
    (Instr.sliceBounds isSlice len cap vlo vhi none).run P w = .ok ((lo.getD 0).toNat, (hi.getD len).toNat, cap) w := by
  unfold Instr.sliceBounds
  rcases hhi.out with ⟨rfl, rfl⟩ | ⟨k, i, rfl, rfl⟩
  · rcases hlo.out with ⟨rfl, rfl⟩ | ⟨j, l, rfl, rfl⟩
    · simp
    · simp only [Option.getD_some, Option.getD_none] at *
      simp [run_sliceBound (P := P) (w := w) j h0 (show l ≤ (len : Int) from h1)]
  · simp only [Option.getD_some] at *
    have e1 := run_sliceBound (P := P) (w := w) k (i := i) (y := cap) (by omega) h2
    rcases hlo.out with ⟨rfl, rfl⟩ | ⟨j, l, rfl, rfl⟩
    · simp [e1]
    · simp only [Option.getD_some] at *
      have e2 := run_sliceBound (P := P) (w := w) j (i := l) (y := i.toNat) h0 (by omega)
      simp [e1, e2]

theorem run_sliceBounds3 {len cap : Nat} {lo hi mx : Option Int} {vlo vhi vmx : Option Value} (hlo : BOK lo vlo) (hhi : BOK hi vhi) (hmx : BOK mx vmx) {m : Int} (hm : mx = some m) (hh : hi.isSome)
    (h0 : 0 ≤ lo.getD 0) (h1 : lo.getD 0 ≤ hi.getD len) (h2 : hi.getD len ≤ m) (h3 : m ≤ cap) :
    (Instr.sliceBounds true len cap vlo vhi vmx).run P w = .ok ((lo.getD 0).toNat, (hi.getD len).toNat, m.toNat) w := by
  unfold Instr.sliceBounds
  subst hm
  rcases hmx.out with ⟨h, _⟩ | ⟨km, im, he, rfl⟩
  · simp at h
  simp only [Option.some.injEq] at he; subst he
  have e0 := run_sliceBound (P := P) (w := w) km (i := m) (y := cap) (by omega) h3
  rcases hhi.out with ⟨rfl, rfl⟩ | ⟨k, i, rfl, rfl⟩
  · simp at hh
  · simp only [Option.getD_some] at *
    have e1 := run_sliceBound (P := P) (w := w) k (i := i) (y := m.toNat) (by omega) (by omega)
    rcases hlo.out with ⟨rfl, rfl⟩ | ⟨j, l, rfl, rfl⟩
    · simp [e0, e1]
    · simp only [Option.getD_some] at *
      have e2 := run_sliceBound (P := P) (w := w) j (i := l) (y := i.toNat) h0 (by omega)
      simp [e0, e1, e2]

theorem sliceAt_slice {t e : TypeId} {ti : TI} (ht : TyOK P t ti) (hu : ti.und = .sl e) (x : Value) (lo hi mx : Option Value) : (Instr.sliceAt t x lo hi mx).run P w = (Instr.slice t x lo hi mx).run P w := by
  unfold Instr.sliceAt; simp [ht.sl w hu]
theorem sliceAt_str {t : TypeId} {ti : TI} (ht : TyOK P t ti) (hu : ti.und = .str) (x : Value) (lo hi mx : Option Value) : (Instr.sliceAt t x lo hi mx).run P w = (Instr.slice t x lo hi mx).run P w := by
  unfold Instr.sliceAt; simp [ht.und_str w hu]

/-- A cut of a slice that nobody writes. -/
theorem fz_cut {xs : List AV} {v : Value} {A : Avoid} (h : FR w A (.fz xs) v) {l n sz : Nat} (hl : l + n ≤ xs.length) (hsz : szAll sz xs = true) :
    ∃ a cap, v = .slice a xs.length cap ∧ xs.length ≤ cap ∧ ∀ a' cap', n ≤ cap' → (cap' ≠ 0 → a' = a.map (·.add (l * sz))) → FR w A (.fz ((xs.drop l).take n)) (.slice a' n cap') := by
  by_cases hne : xs = []
  · subst hne
    cases h with
    | fz0 a cap => 
      refine ⟨a, cap, rfl, by simp, fun a' cap' hc _ => ?_⟩
      simp at hl
      obtain ⟨rfl, rfl⟩ := hl
      simpa using FR.fz0 a' cap'
    | fz _ c off cap n arr T fr h1 h2 h3 h4 h5 h6 h7 => 
      refine ⟨_, cap, rfl, by simp, fun a' cap' hc _ => ?_⟩
      simp at hl
      obtain ⟨rfl, rfl⟩ := hl
      simpa using FR.fz0 a' cap'
  · obtain ⟨c, off, cap, m, arr, T, fr, rfl, h1, h2, h3, h4, h5, h6, h7⟩ := fz_inv h hne
    refine ⟨_, cap, rfl, h3, fun a' cap' hc ha => ?_⟩
    have hm : m = sz := by
      obtain ⟨x, xs', rfl⟩ := List.exists_cons_of_ne_nil hne
      have e1 := h5 0 x rfl
      simp only [szAll, List.all_cons, Bool.and_eq_true, beq_iff_eq] at hsz
      omega
    subst hm
    have hlen : ((xs.drop l).take n).length = n := by simp; omega
    by_cases hn : n = 0
    · subst hn; simpa using FR.fz0 a' cap'
    · have ha' := ha (by omega)
      subst ha'
      simp only [Option.map_some, add_none]
      have hle : l * m + n * m ≤ xs.length * m := by rw [← Nat.add_mul]; exact Nat.mul_le_mul_right m hl
      have := FR.fz (w := w) (A := A) ((xs.drop l).take n) c (off + l * m) cap' m arr T fr h1 h2 (by omega) (by rw [hlen]; omega) (fun i x hx => ?_) (fun j v hj hv => ?_) (fun i x j y v hx hy hv => ?_)
      · rwa [hlen] at this
      · simp only [List.getElem?_take, List.getElem?_drop] at hx
        split at hx
        · exact h5 _ _ hx
        · simp at hx
      · rw [hlen] at hj
        exact h6 (l * m + j) v (by omega) (by rw [← hv]; congr 1; omega)
      · simp only [List.getElem?_take, List.getElem?_drop] at hx
        split at hx
        · exact h7 _ _ j y v hx hy (by rw [← hv]; congr 1; rw [Nat.add_mul]; omega)
        · simp at hx

theorem zero_cut {t e : TypeId} {ti : TI} (hT : TyOK P t ti) (hu : ti.und = .sl e) {a : Option Addr} {lo hi mx : Option Int} {vlo vhi vmx : Option Value} (hlo : BOK lo vlo) (hhi : BOK hi vhi) (hmx : BOK mx vmx)
    (h0 : lo.getD 0 = 0) (h1 : hi.getD 0 = 0) (h2 : mx.getD 0 = 0) (hhm : mx.isSome → hi.isSome) (hsz : ∃ n, (sizeOf e).run P w = .ok n w) : ∃ a', (Instr.sliceAt t (.slice a 0 0) vlo vhi vmx).run P w = .ok (.slice a' 0 0) w ∧ (a = none → a' = none) := by
  obtain ⟨n, hn⟩ := hsz
  rw [sliceAt_slice hT hu]
  rcases hmx.out with ⟨rfl, rfl⟩ | ⟨km, im, rfl, rfl⟩
  · have := run_sliceBounds (P := P) (w := w) (isSlice := true) (len := 0) (cap := 0) hlo hhi (by omega) (by simp; omega) (by simp; omega)
    have e0 : (lo.getD 0).toNat = 0 := by omega
    have e1 : (hi.getD ((0 : Nat) : Int)).toNat = 0 := by simp; omega
    rw [e0, e1] at this
    exact ⟨a, by simp [Instr.slice, hT.sl w hu, this, hn], fun h => h⟩
  · simp only [Option.getD_some] at h2
    subst h2
    have := run_sliceBounds3 (P := P) (w := w) (len := 0) (cap := 0) hlo hhi hmx rfl (hhm rfl) (by omega) (by simp; omega) (by simp; omega) (by simp)
    have e0 : (lo.getD 0).toNat = 0 := by omega
    have e1 : (hi.getD ((0 : Nat) : Int)).toNat = 0 := by simp; omega
    rw [e0, e1] at this
    exact ⟨a, by simp [Instr.slice, hT.sl w hu, this, hn], fun h => h⟩

include hE in
theorem q_slice {H0 : Heap} (hX : Ext H0 G) {t : TypeId} {x : AV} {a : Value} {lo hi mx : Option Int} {vlo vhi vmx : Option Value} {z : AV} (hx : R w G φ A x a) (hlo : BOK lo vlo) (hhi : BOK hi vhi) (hmx : BOK mx vmx)
    (h : sliceA E t x lo hi mx H0 = some z) : ∃ v, (Instr.sliceAt t a vlo vhi vmx).run P w = .ok v w ∧ R w G φ A z v := by
  unfold sliceA at h
  cases h1 : E t with
  | none => simp [h1] at h
  | some ti =>
    simp only [h1] at h
    have hT := hE _ _ h1
    split at h
    · rename_i s
      split at h
      · rename_i hu
        obtain ⟨bs, rfl, hs⟩ := hx.str_inv
        split at h
        · rename_i hc
          simp only [Option.some.injEq] at h; subst h
          obtain ⟨c0, c1, c2⟩ := hc
          have hlen : s.length = bs.size := by rw [← hs]; exact Array.length_toList
          rw [hlen] at c1 c2 ⊢
          have hm : vmx = none := by rcases hmx.out with ⟨_, h⟩ | ⟨_, _, h, _⟩; exact h; simp at h
          subst hm
          rw [sliceAt_str hT hu]
          refine ⟨.string (bs.extract (lo.getD 0).toNat (hi.getD bs.size).toNat), ?_, ?_⟩
          · have e := run_sliceBounds (P := P) (w := w) (isSlice := false) (len := bs.size) (cap := bs.size) hlo hhi c0 c1 c2
            simp only [Instr.slice, Sem.run_bind, hT.und_str w hu, Result.andThen_ok, Option.isSome_none, Bool.false_eq_true, if_false, e, Sem.run_pure]
          · have := FR.str (w := w) (A := A) (bs.extract (lo.getD 0).toNat (hi.getD bs.size).toNat)
            have e : (bs.extract (lo.getD 0).toNat (hi.getD bs.size).toNat).data.toList = (s.drop (lo.getD 0).toNat).take ((hi.getD bs.size).toNat - (lo.getD 0).toNat) := by
              rw [ByteArray.data_extract, Array.toList_extract, ← hs, List.extract_eq_take_drop]
            rw [e] at this
            exact .fr _ _ this
        · simp at h
      · simp at h
    · rename_i xs
      split at h
      · rename_i e hu
        cases h2 : E e with
        | none => simp [h2] at h
        | some te =>
          simp only [h2] at h
          split at h
          · simp at h
          · rename_i hsz
            simp only [Bool.not_eq_true, Bool.not_eq_false'] at hsz
            have hsz : szAll te.sz xs = true := by simpa using hsz
            rw [sliceAt_slice hT hu]
            split at h
            · rename_i hm0
              split at h
              · rename_i hc
                simp only [Option.some.injEq] at h; subst h
                obtain ⟨c0, c1, c2⟩ := hc
                have hm : vmx = none := by rcases hmx.out with ⟨_, h⟩ | ⟨_, _, h, _⟩; exact h; simp at h
                subst hm
                obtain ⟨a0, cap, rfl, hcap, hcut⟩ := fz_cut hx.fz_inv (l := (lo.getD 0).toNat) (n := (hi.getD xs.length).toNat - (lo.getD 0).toNat) (by omega) hsz
                refine ⟨.slice (if cap = (lo.getD 0).toNat then a0 else a0.map (·.add ((lo.getD 0).toNat * te.sz))) ((hi.getD xs.length).toNat - (lo.getD 0).toNat) (cap - (lo.getD 0).toNat), ?_, .fr _ _ (hcut _ _ (by omega) fun hne => by rw [if_neg (by omega)])⟩
                simp [Instr.slice, hT.sl w hu, run_sliceBounds (P := P) (w := w) (isSlice := true) (len := xs.length) (cap := cap) hlo hhi c0 c1 (by omega), (hE _ _ h2).sizeOf]
              · simp at h
            · rename_i m
              split at h
              · rename_i hc
                simp only [Option.some.injEq] at h; subst h
                obtain ⟨c0, c1, c2, c3, c4⟩ := hc
                obtain ⟨a0, cap, rfl, hcap, _⟩ := fz_cut hx.fz_inv (l := 0) (n := 0) (by omega) hsz
                have e3 := run_sliceBounds3 (P := P) (w := w) (len := xs.length) (cap := cap) hlo hhi hmx rfl c0 c1 (by omega) (by omega) (by omega)
                have e4 : (hi.getD xs.length).toNat - (lo.getD 0).toNat = 0 := by omega
                have e5 : m.toNat - (lo.getD 0).toNat = 0 := by omega
                refine ⟨_, by simp [Instr.slice, hT.sl w hu, e3, (hE _ _ h2).sizeOf, e4, e5]; rfl, .fr _ _ (.e0 _)⟩
              · simp at h
      · simp at h
    · rename_i id ver off len
      split at h
      · rename_i e b hu hb
        cases h2 : E e with
        | none => simp [h2] at h
        | some te =>
          simp only [h2] at h
          split at h
          · simp at h
          · rename_i hsz
            simp only [ne_eq, Decidable.not_not] at hsz
            obtain ⟨hv, _, hr⟩ := hx.ref_inv
            obtain ⟨loc, a0, cap, k1, rfl, k3, k4, k5, k6⟩ := (hr b (hX.blk hb)).out
            rw [sliceAt_slice hT hu]
            split at h
            · rename_i hm0
              split at h
              · rename_i hc
                simp only [Option.some.injEq] at h; subst h
                obtain ⟨c0, c1, c2⟩ := hc
                have hm : vmx = none := by rcases hmx.out with ⟨_, h⟩ | ⟨_, _, h, _⟩; exact h; simp at h
                subst hm
                refine ⟨.slice (if cap = (lo.getD 0).toNat then a0 else a0.map (·.add ((lo.getD 0).toNat * te.sz))) ((hi.getD len).toNat - (lo.getD 0).toNat) (cap - (lo.getD 0).toNat), ?_, ?_⟩
                · simp [Instr.slice, hT.sl w hu, run_sliceBounds (P := P) (w := w) (isSlice := true) (len := len) (cap := cap) hlo hhi c0 c1 (by omega), (hE _ _ h2).sizeOf]
                · refine .ref _ _ _ _ _ hv ⟨_, _, rfl⟩ fun b' hb' => ?_
                  rw [hX.blk hb] at hb'
                  simp only [Option.some.injEq] at hb'; subst hb'
                  refine ⟨loc, _, _, k1, rfl, by omega, by omega, by omega, ?_⟩
                  cases loc with
                  | virt => simp only at k6 ⊢; exact ⟨k6.1, fun hf => by have := k6.2 hf; omega⟩
                  | at_ c b0 =>
                    simp only at k6 ⊢
                    rcases k6 with k6 | ⟨rfl, k7⟩
                    · left; omega
                    · by_cases hz : cap = (lo.getD 0).toNat
                      · left; omega
                      · right
                        rw [if_neg hz]
                        simp only [Option.map_some, add_none]
                        refine ⟨by rw [Nat.add_mul, hsz]; congr 2; omega, ?_⟩
                        have : off + (lo.getD 0).toNat + (cap - (lo.getD 0).toNat) = off + cap := by omega
                        rw [this]; exact k7
              · simp at h
            · rename_i m
              split at h
              · rename_i hc
                simp only [Option.some.injEq] at h; subst h
                obtain ⟨c0, c1, c2, c3, c4⟩ := hc
                have e3 := run_sliceBounds3 (P := P) (w := w) (len := len) (cap := cap) hlo hhi hmx rfl c0 c1 (by omega) (by omega) (by omega)
                have e4 : (hi.getD len).toNat - (lo.getD 0).toNat = 0 := by omega
                have e5 : m.toNat - (lo.getD 0).toNat = 0 := by omega
                refine ⟨_, by simp [Instr.slice, hT.sl w hu, e3, (hE _ _ h2).sizeOf, e4, e5]; rfl, .fr _ _ (.e0 _)⟩
              · split at h
                · rename_i hc
                  simp only [Option.some.injEq] at h; subst h
                  obtain ⟨c0, c1, c2, c3, c4⟩ := hc
                  have e3 := run_sliceBounds3 (P := P) (w := w) (len := len) (cap := cap) hlo hhi hmx rfl c0 c1 (by omega) (by omega) (by omega)
                  exact ⟨_, by simp [Instr.slice, hT.sl w hu, e3, (hE _ _ h2).sizeOf]; rfl, .fr _ _ (.undef _)⟩
                · simp at h
      · simp at h
    · split at h
      · rename_i e hu
        split at h
        rotate_left
        · simp at h
        rename_i te h2
        split at h
        · rename_i hc
          simp only [Option.some.injEq] at h; subst h
          have := hx.nil_inv; subst this
          obtain ⟨a', hr⟩ := zero_cut hT hu (a := none) hlo hhi hmx hc.1 hc.2.1 hc.2.2.1 hc.2.2.2 ⟨_, (hE _ _ h2).sizeOf w⟩
          exact ⟨_, hr.1, by rw [hr.2 rfl]; exact .fr _ _ .nil⟩
        · simp at h
      · simp at h
    · split at h
      · rename_i e hu
        split at h
        rotate_left
        · simp at h
        rename_i te h2
        split at h
        · rename_i hc
          simp only [Option.some.injEq] at h; subst h
          obtain ⟨a0, rfl⟩ := hx.e0_inv
          obtain ⟨a', hr⟩ := zero_cut hT hu (a := a0) hlo hhi hmx hc.1 hc.2.1 hc.2.2.1 hc.2.2.2 ⟨_, (hE _ _ h2).sizeOf w⟩
          exact ⟨_, hr.1, .fr _ _ (.e0 _)⟩
        · simp at h
      · simp at h
    · simp at h
end ops
end Go.VS

/-
  VS, part 9: the operations that make memory, and 'build'.
-/
namespace Go.VS

theorem Heap.get_new (H : Heap) (sz : Nat) (fx : Bool) (el : List AV) : (H.new sz fx el).get H.bs.length = some ⟨H.st, sz, fx, el⟩ := by
  simp [Heap.new, Heap.get]
theorem Heap.get_new_old (H : Heap) (sz : Nat) (fx : Bool) (el : List AV) {id : Nat} (h : id < H.bs.length) : (H.new sz fx el).get id = H.get id := by
  simp [Heap.new, Heap.get, List.getElem?_append_left h]
theorem Heap.ext_new (H : Heap) (sz : Nat) (fx : Bool) (el : List AV) : Ext H (H.new sz fx el) :=
  ⟨fun id b h => by rw [Heap.get_new_old H sz fx el (Heap.get_lt h)]; exact h, Nat.le_succ _⟩

/-- Writing cells into an array, one by one. -/
theorem foldl_set (l : List Value) : ∀ (off k : Nat) (cs : Array Value), off + k + l.length ≤ cs.size →
    ((l.zipIdx k).foldl (fun cs (p : Value × Nat) => cs.setIfInBounds (off + p.2) p.1) cs).size = cs.size ∧
    ∀ m, ((l.zipIdx k).foldl (fun cs (p : Value × Nat) => cs.setIfInBounds (off + p.2) p.1) cs)[m]? = if off + k ≤ m ∧ m < off + k + l.length then l[m - (off + k)]? else cs[m]? := by
  induction l with
  | nil => intro off k cs _; exact ⟨rfl, fun m => by simp; intro h1 h2; omega⟩
  | cons x l ih =>
    intro off k cs h
    simp only [List.length_cons] at h
    obtain ⟨h1, h2⟩ := ih off (k + 1) (cs.setIfInBounds (off + k) x) (by simp; omega)
    simp only [List.zipIdx_cons, List.foldl_cons]
    refine ⟨by rw [h1]; simp, fun m => ?_⟩
    rw [h2, Array.getElem?_setIfInBounds]
    simp only [List.length_cons]
    by_cases hm : m = off + k
    · subst hm
      rw [if_neg (by omega)]
      simp only [if_true]
      rw [if_pos (by omega), if_pos (by omega)]
      simp
    · by_cases hm2 : off + (k + 1) ≤ m ∧ m < off + (k + 1) + l.length
      · rw [if_pos hm2, if_pos (by omega)]
        obtain ⟨q, rfl⟩ : ∃ q, m = off + k + 1 + q := ⟨m - (off + k + 1), by omega⟩
        have e1 : off + k + 1 + q - (off + (k + 1)) = q := by omega
        have e2 : off + k + 1 + q - (off + k) = q + 1 := by omega
        rw [e1, e2]; rfl
      · rw [if_neg hm2, if_neg (by omega), if_neg (by omega)]

theorem foldl_set_arr (vs : Array Value) (off : Nat) (cs : Array Value) (h : off + vs.size ≤ cs.size) :
    (vs.zipIdx.foldl (fun cs (c, j) => cs.setIfInBounds (off + j) c) cs).size = cs.size ∧
    ∀ m, (vs.zipIdx.foldl (fun cs (c, j) => cs.setIfInBounds (off + j) c) cs)[m]? = if off ≤ m ∧ m < off + vs.size then vs[m - off]? else cs[m]? := by
  have e : vs.zipIdx.foldl (fun cs (c, j) => cs.setIfInBounds (off + j) c) cs = (vs.toList.zipIdx 0).foldl (fun cs (p : Value × Nat) => cs.setIfInBounds (off + p.2) p.1) cs := by
    rw [← Array.foldl_toList, Array.toList_zipIdx]
  rw [e]
  have := foldl_set vs.toList off 0 cs (by simpa using h)
  simpa using this

theorem splice_get (cs : List AV) (off : Nat) (vs : List AV) (h : off + vs.length ≤ cs.length) (m : Nat) :
    (splice cs off vs)[m]? = if off ≤ m ∧ m < off + vs.length then vs[m - off]? else cs[m]? := by
  unfold splice
  rw [List.append_assoc, List.getElem?_append]
  have hl : (cs.take off).length = off := by simp; omega
  rw [hl]
  by_cases h1 : m < off
  · rw [if_pos h1, if_neg (by omega), List.getElem?_take, if_pos h1]
  · rw [if_neg h1, List.getElem?_append]
    by_cases h2 : m - off < vs.length
    · rw [if_pos h2, if_pos (by omega)]
    · rw [if_neg h2, if_neg (by omega), List.getElem?_drop]
      congr 1; omega
theorem splice_len (cs : List AV) (off : Nat) (vs : List AV) (h : off + vs.length ≤ cs.length) : (splice cs off vs).length = cs.length := by
  unfold splice; simp; omega

section ops
variable {P : Program} {E : TEnv} (hE : ∀ t ti, E t = some ti → TyOK P t ti)
variable {w : World} {G : Heap} {φ : Phi} {A : Avoid}

theorem newOutF (fr0 : Nat × Nat) {H0 : Heap} {sz : Nat} {el : List AV} {arr : Array Value} (T : TypeId) (hst : St w G φ A) (hX : Ext (H0.new sz false el) G) (hnew : φ H0.bs.length = none)
    (hsz : ∀ (i : Nat) (x : AV), el[i]? = some x → x.cells.length = sz) (hlen : el.length * sz ≤ arr.size) (hfr : ∀ j, j < arr.size → ¬ (fr0.1 ≤ j ∧ j < fr0.2))
    (hcells : ∀ (i : Nat) (x : AV) (j : Nat) (y : AV) (v : Value), el[i]? = some x → x.cells[j]? = some y → arr[i * sz + j]? = some v → R w G φ A y v ∧ v.oneCell' = true) :
    ∃ φ' A', Out w G φ A (w.alloc (.cells arr T fr0)) G φ' A' ∧ φ' H0.bs.length = some (.at_ w.heap.size 0) ∧
      ∀ id loc, φ' id = some loc → φ id = some loc ∨ (H0.bs.length ≤ id ∧ id < (H0.new sz false el).bs.length) := by
  have hg := hX.1 _ _ (Heap.get_new H0 sz false el)
  have hv : H0.st < G.st := Nat.lt_of_lt_of_le (Nat.lt_succ_self _) hX.2
  refine ⟨_, _, allocOutF fr0 hst hg hnew hv hsz arr T hlen hfr hcells, by simp, fun id loc h => ?_⟩
  try simp only at h
  split at h
  · rename_i hi; subst hi; exact .inr ⟨Nat.le_refl _, by simp [Heap.new]⟩
  · exact .inl h

theorem newOut {H0 : Heap} {sz : Nat} {el : List AV} {arr : Array Value} (T : TypeId) (hst : St w G φ A) (hX : Ext (H0.new sz false el) G) (hnew : φ H0.bs.length = none)
    (hsz : ∀ (i : Nat) (x : AV), el[i]? = some x → x.cells.length = sz) (hlen : el.length * sz ≤ arr.size)
    (hcells : ∀ (i : Nat) (x : AV) (j : Nat) (y : AV) (v : Value), el[i]? = some x → x.cells[j]? = some y → arr[i * sz + j]? = some v → R w G φ A y v ∧ v.oneCell' = true) :
    ∃ φ' A', Out w G φ A (w.alloc (.cells arr T)) G φ' A' ∧ φ' H0.bs.length = some (.at_ w.heap.size 0) ∧
      ∀ id loc, φ' id = some loc → φ id = some loc ∨ (H0.bs.length ≤ id ∧ id < (H0.new sz false el).bs.length) :=
  newOutF (0, 0) T hst hX hnew hsz hlen (fun j _ h => absurd h.2 (Nat.not_lt_zero j)) hcells

/-- A block that nothing of ours lies in. -/
theorem allocOut0 (hst : St w G φ A) (o : Obj) : Out w G φ A (w.alloc o) G φ A := by
  have hevo : Evo w G φ A (w.alloc o) G φ A := ⟨fun c a t fr hc hn => ⟨⟨fr, by rw [heap_alloc_old w _ (lt_of_heap hc)]; exact hc⟩, hn⟩, Nat.le_refl _,
    fun i b' hb' _ => ⟨b', hb', rfl, rfl, rfl, rfl, fun loc hl => hl⟩, fun c hc => by unfold bsz; rw [heap_alloc_old w _ (Ow.lt hst hc)]⟩
  refine ⟨⟨hst.inj, hst.own, fun c hc => by have := hst.bnd c hc; simp; omega, fun i loc hl => ?_⟩,
    ⟨rfl, rfl, rfl, by simp, fun c hc _ => heap_alloc_old w _ hc, fun c hc => by unfold bsz; rw [heap_alloc_old w _ hc], fun c hc => .inl hc⟩, hevo, fun c hc _ => hc⟩
  obtain ⟨b', hg', hb'⟩ := hst.blk i loc hl
  refine ⟨b', hg', hb'.ver, hb'.sized, hb'.virt, fun c b0 h => ?_⟩
  obtain ⟨a, t, fr, h1, h2, h3, h4⟩ := hb'.here c b0 h
  exact ⟨a, t, fr, by rw [heap_alloc_old w _ (lt_of_heap h1)]; exact h1, h2, h3, fun i x j y v hx hy hv => ⟨(h4 i x j y v hx hy hv).1.mono hevo, (h4 i x j y v hx hy hv).2⟩⟩

theorem ref_new {id : Nat} {b : Blk} {c len cap : Nat} (hg : G.get id = some b) (hv : b.ver < G.st) (hφ : φ id = some (.at_ c 0)) (h1 : len ≤ b.el.length) (h2 : len ≤ cap) (h3 : b.el.length ≤ cap) (h4 : cap * b.sz ≤ bsz w c) :
    R w G φ A (.ref id b.ver 0 len) (.slice (some ⟨c, 0, none⟩) len cap) := by
  refine .ref _ _ _ _ _ hv ⟨_, _, rfl⟩ fun b' hb' => ?_
  have := (Heap.blk_get hb').1
  rw [hg] at this
  simp only [Option.some.injEq] at this; subst this
  exact ⟨.at_ c 0, _, _, hφ, rfl, by omega, h2, by omega, .inr ⟨by simp, by simpa using h4⟩⟩

theorem bsz_new (w : World) (arr : Array Value) (T : TypeId) : bsz (w.alloc (.cells arr T)) w.heap.size = arr.size := by
  unfold bsz; rw [heap_alloc_new]

/-- A type's zero value. -/
theorem zero_ok {t : TypeId} {ti : TI} (ht : TyOK P t ti) {zA : AV} (h : zeroA ti = some zA) (w : World) :
    ∃ z, (zeroValue t).run P w = .ok z w ∧ z.cells.size = ti.sz ∧ zA.cells = ti.zero ∧ ti.zero.length = ti.sz ∧ isAggV z = ti.agg ∧
      (∀ (w : World) (A : Avoid) (j : Nat) (y : AV) (v : Value), ti.zero[j]? = some y → z.cells[j]? = some v → FR w A y v ∧ v.oneCell' = true) := by
  obtain ⟨z, h1, h2, h3, h4, h5⟩ := ht.zeroValue w
  unfold zeroA at h
  split at h
  · rename_i hc
    refine ⟨z, h1, h2, ?_, hc.2, h3, fun w A j y v hy hv => ⟨?_, h4 j v hv⟩⟩
    · rcases mkT_some h with ⟨_, rfl⟩ | ⟨_, he⟩
      · rfl
      · rw [he]
        have := hc.1
        rw [he] at this
        simp at this
        cases zA <;> first | rfl | simp [stor1] at this
    · rw [h5] at hy
      simp only [List.getElem?_map, Option.map_eq_some_iff, Array.getElem?_toList] at hy
      obtain ⟨u, hu, rfl⟩ := hy
      rw [hv] at hu
      simp only [Option.some.injEq] at hu; subst hu
      exact FR.ofValue w A v
  · simp at h

include hE in
theorem q_alloc {H0 H' : Heap} (hst : St w G φ A) (hX : Ext H' G) (hnew : H0.bs.length < H'.bs.length → φ H0.bs.length = none) {t : TypeId} {z : AV}
    (h : (match E t with
    | some ti => match zeroA ti with
      | some z => some (AV.ptr H0.bs.length H0.st 0 0, H0.new ti.sz false [z])
      | none => none
    | none => none) = some (z, H')) : QRes w G φ A H0 H' ((do pure (.value (← Instr.alloc t true (.tuple #[]))) : Sem Next).run P w) z := by
  split at h
  · rename_i ti h1
    split at h
    · rename_i zA hz
      simp only [Option.some.injEq, Prod.mk.injEq] at h
      obtain ⟨rfl, rfl⟩ := h
      obtain ⟨zv, e1, e2, e3, e4, _, e5⟩ := zero_ok (hE _ _ h1) hz w
      have hs1 : ∀ (i : Nat) (x : AV), [zA][i]? = some x → x.cells.length = ti.sz := by
        intro i x hx
        cases i with
        | zero => simp at hx; subst hx; rw [e3, e4]
        | succ i => simp at hx
      have hs2 : ∀ (i : Nat) (x : AV) (j : Nat) (y : AV) (v : Value), [zA][i]? = some x → x.cells[j]? = some y → zv.cells[i * ti.sz + j]? = some v → R w G φ A y v ∧ v.oneCell' = true := by
        intro i x j y v hx hy hv
        cases i with
        | zero =>
          simp only [List.getElem?_cons_zero, Option.some.injEq, Nat.zero_mul, Nat.zero_add] at hx hv; subst hx
          rw [e3] at hy
          have := e5 w A j y v hy hv
          exact ⟨.fr _ _ this.1, this.2⟩
        | succ i => simp at hx
      obtain ⟨φ', A', hout, hφ, hid⟩ := newOut (arr := zv.cells) t hst hX (hnew (by simp [Heap.new])) hs1 (by simp [e2]) hs2
      · refine ⟨_, .pointer (some ⟨w.heap.size, 0, none⟩), _, φ', A', by simp [Instr.alloc, e1, newVar, newRow], .inl rfl, ptr_new (Nat.lt_of_lt_of_le (Nat.lt_succ_self _) hX.2) hφ, hout, hid⟩
    · simp at h
  · simp at h

include hE in
theorem q_box {H0 H' : Heap} (hst : St w G φ A) (hX : Ext H' G) (hnew : H0.bs.length < H'.bs.length → φ H0.bs.length = none) {t : TypeId} {x z : AV} {a : Value} (hx : R w G φ A x a)
    (h : (match E t with
    | some ti => if x.cells.length = ti.sz ∧ storA x then some (AV.ptr H0.bs.length H0.st 0 0, H0.new ti.sz false [x]) else none
    | none => none) = some (z, H')) : QRes w G φ A H0 H' ((do pure (.value (← Instr.box t a)) : Sem Next).run P w) z := by
  have _ := @hE
  split at h
  · rename_i ti h1
    split at h
    · rename_i hc
      simp only [Option.some.injEq, Prod.mk.injEq] at h
      obtain ⟨rfl, rfl⟩ := h
      have hu : x ≠ .undef := by rintro rfl; simp [storA, stor1] at hc
      obtain ⟨k1, k2⟩ := hx.cells hu
      have k3 := hx.ones hc.2
      have hs1 : ∀ (i : Nat) (y : AV), [x][i]? = some y → y.cells.length = ti.sz := by
        intro i y hy
        cases i with
        | zero => simp at hy; subst hy; exact hc.1
        | succ i => simp at hy
      have hs2 : ∀ (i : Nat) (x' : AV) (j : Nat) (y : AV) (v : Value), [x][i]? = some x' → x'.cells[j]? = some y → a.cells[i * ti.sz + j]? = some v → R w G φ A y v ∧ v.oneCell' = true := by
        intro i x' j y v hx' hy hv
        cases i with
        | zero =>
          simp only [List.getElem?_cons_zero, Option.some.injEq, Nat.zero_mul, Nat.zero_add] at hx' hv; subst hx'
          exact ⟨k2 j y v hy hv, k3 j v hv⟩
        | succ i => simp at hx'
      obtain ⟨φ', A', hout, hφ, hid⟩ := newOut (arr := a.cells) t hst hX (hnew (by simp [Heap.new])) hs1 (by simp; omega) hs2
      · refine ⟨_, .pointer (some ⟨w.heap.size, 0, none⟩), _, φ', A', by simp [Instr.box, newVar, newRow], .inl rfl, ptr_new (Nat.lt_of_lt_of_le (Nat.lt_succ_self _) hX.2) hφ, hout, hid⟩
    · simp at h
  · simp at h

theorem rep_cells {sz m : Nat} {zero : Array Value} (hz : zero.size = sz) {i j : Nat} {v : Value} (hi : i < m) (hj : j < sz) (hv : ((Array.range (m * sz)).map (fun k => zero[k % zero.size]!))[i * sz + j]? = some v) : zero[j]? = some v := by
  have hle := mul_lt_le (n := sz) hi
  have hk : i * sz + j < m * sz := by omega
  rw [Array.getElem?_map, Array.getElem?_range, if_pos hk] at hv
  simp only [Option.map_some, Option.some.injEq] at hv
  rw [hz, Nat.add_comm, Nat.add_mul_mod_self_right, Nat.mod_eq_of_lt hj] at hv
  rw [← hv]
  have : j < zero.size := by omega
  simp [this]

theorem wkA_cells (x : AV) : (wkA x).cells = x.cells.map wk1 := by
  cases x <;> rfl
theorem wk1_fr {w : World} {A : Avoid} {x : AV} {v : Value} (h : FR w A x v) : FR w A (wk1 x) v := by
  cases x with
  | nil => cases h; exact .fz0 none 0
  | e0 => cases h; exact .fz0 _ 0
  | _ => exact h
theorem zeroE_ok {t : TypeId} {ti : TI} (ht : TyOK P t ti) {zA : AV} (h : zeroE ti = some zA) (w : World) :
    ∃ z, (zeroValue t).run P w = .ok z w ∧ z.cells.size = ti.sz ∧ zA.cells.length = ti.sz ∧
      (∀ (w : World) (A : Avoid) (j : Nat) (y : AV) (v : Value), zA.cells[j]? = some y → z.cells[j]? = some v → FR w A y v ∧ v.oneCell' = true) := by
  unfold zeroE at h
  split at h
  · rename_i z0 hz0
    obtain ⟨z, h1, h2, h3, h4, _, h5⟩ := zero_ok ht hz0 w
    simp only [Option.some.injEq] at h
    refine ⟨z, h1, h2, ?_, fun w A j y v hy hv => ?_⟩
    · subst h
      split
      · rw [wkA_cells, List.length_map, h3, h4]
      · rw [h3, h4]
    · subst h
      split at hy
      · rw [wkA_cells, h3] at hy
        simp only [List.getElem?_map, Option.map_eq_some_iff] at hy
        obtain ⟨y', hy', rfl⟩ := hy
        have := h5 w A j y' v hy' hv
        exact ⟨wk1_fr this.1, this.2⟩
      · rw [h3] at hy
        exact h5 w A j y v hy hv
  · simp at h

include hE in
theorem q_makeSlice {H0 H' : Heap} (hst : St w G φ A) (hX : Ext H' G) (hnew : H0.bs.length < H'.bs.length → φ H0.bs.length = none) {t : TypeId} {l c z : AV} {al ac : Value} (hl : R w G φ A l al) (hc : R w G φ A c ac)
    (h : (match (generalizing := false) elTI E t, l, c with
    | some te, .int .i64 n, .int .i64 m =>
      match zeroE te with
      | some z => if 0 ≤ n ∧ n ≤ m ∧ roomy m.toNat te.bytes ∧ te.sz ≠ 0 then some (AV.ref H0.bs.length H0.st 0 n.toNat, H0.new te.sz false (List.replicate m.toNat z)) else none
      | none => none
    | _, _, _ => none) = some (z, H')) : QRes w G φ A H0 H' ((do pure (.value (← Instr.makeSlice t al ac)) : Sem Next).run P w) z := by
  split at h
  · rename_i te n m hte
    have e1 := hl.int_inv; have e2 := hc.int_inv; subst e1; subst e2
    split at h
    · rename_i zA hz
      split at h
      · rename_i hcnd
        obtain ⟨c0, c1, c2, c3⟩ := hcnd
        simp only [Option.some.injEq, Prod.mk.injEq] at h
        obtain ⟨rfl, rfl⟩ := h
        obtain ⟨ti, e, ht, hu, hee⟩ : ∃ ti e, E t = some ti ∧ ti.und = .sl e ∧ E e = some te := by
          unfold elTI at hte
          split at hte
          · rename_i ti ht
            split at hte
            · rename_i e hu; exact ⟨ti, e, ht, hu, hte⟩
            · simp at hte
          · simp at hte
        obtain ⟨zv, z1, z2, z3, z5⟩ := zeroE_ok (hE _ _ hee) hz w
        obtain ⟨inf, i1, i2, _⟩ := (hE _ _ hee).typeInfo w
        simp only [roomy, Bool.and_eq_true, decide_eq_true_eq] at c2
        obtain ⟨r1, r2⟩ := c2
        have hm : IntKind.i64.wrap m = m := IntWalk.i64_in m (by omega)
        have hn : IntKind.i64.wrap n = n := IntWalk.i64_in n (by omega)
        have hb : ¬ ((inf.bytes : Int) * m > 2 ^ 48) := by
          rw [i2]
          have e1 : (m.toNat + 512) * te.bytes = m.toNat * te.bytes + 512 * te.bytes := Nat.add_mul _ _ _
          have e2 : ((te.bytes : Int)) * m = ((m.toNat * te.bytes : Nat) : Int) := by
            rw [Int.natCast_mul, Int.toNat_of_nonneg (by omega), Int.mul_comm]
          rw [e2]; omega
        have hu1 := (hE _ _ ht).sl w hu
        let zc : Array Value := if m.toNat * te.sz = 0 then #[] else zv.cells
        let arr : Array Value := (Array.range (m.toNat * te.sz)).map (fun k => zc[k % zc.size]!)
        have hrun : (Instr.makeSlice t (.int .i64 n) (.int .i64 m)).run P w = .ok (.slice (some ⟨w.heap.size, 0, none⟩) n.toNat m.toNat) (w.alloc (.cells arr e)) := by
          unfold Instr.makeSlice
          simp only [Sem.run_bind, hu1, Result.andThen_ok, asInt, asIntOf, Sem.run_pure, i1, hn, hm]
          have t1 : (decide (m < 0) || decide ((inf.bytes : Int) * m > 2 ^ 48)) = false := by simp; omega
          have t2 : decide (n < 0) = false := by simp; omega
          have t3 : decide (n > m) = false := by simp; omega
          simp only [t1, t2, t3, Bool.or_self, Bool.false_eq_true, if_false, Result.andThen_ok, Sem.run_bind, run_askRoom, (hE _ _ hee).sizeOf]
          by_cases hz0 : m.toNat * te.sz = 0
          · simp [hz0, newRow, arr, zc]
          · simp [hz0, z1, newRow, arr, zc]
        have harr : arr.size = m.toNat * te.sz := by simp [arr]
        have hs1 : ∀ (i : Nat) (x : AV), (List.replicate m.toNat zA)[i]? = some x → x.cells.length = te.sz := by
          intro i x hx
          simp only [List.getElem?_replicate] at hx
          split at hx
          · simp only [Option.some.injEq] at hx; subst hx; exact z3
          · simp at hx
        have hs2 : ∀ (i : Nat) (x : AV) (j : Nat) (y : AV) (v : Value), (List.replicate m.toNat zA)[i]? = some x → x.cells[j]? = some y → arr[i * te.sz + j]? = some v → R w G φ A y v ∧ v.oneCell' = true := by
          intro i x j y v hx hy hv
          simp only [List.getElem?_replicate] at hx
          split at hx
          · rename_i hi
            simp only [Option.some.injEq] at hx; subst hx
            have hj : j < te.sz := by rw [← z3]; exact (List.getElem?_eq_some_iff.1 hy).1
            have hne : ¬ (m.toNat * te.sz = 0) := by
              intro h0
              rcases Nat.mul_eq_zero.1 h0 with h0 | h0 <;> omega
            have hv' : zv.cells[j]? = some v := by
              have hzc : zc = zv.cells := by simp only [zc]; rw [if_neg hne]
              refine rep_cells z2 hi hj ?_
              rw [← hv]; simp only [arr, hzc]
            have := z5 w A j y v hy hv'
            exact ⟨.fr _ _ this.1, this.2⟩
          · simp at hx
        obtain ⟨φ', A', hout, hφ, hid⟩ := newOut (arr := arr) e hst hX (hnew (by simp [Heap.new])) hs1 (by simp [harr]) hs2
        · have hg := hX.1 _ _ (Heap.get_new H0 te.sz false (List.replicate m.toNat zA))
          refine ⟨_, _, _, φ', A', by simp only [Sem.run_bind, hrun, Result.andThen_ok, Sem.run_pure]; rfl, .inl rfl,
            ref_new hg (Nat.lt_of_lt_of_le (Nat.lt_succ_self _) hX.2) hφ (by simp; omega) (by omega) (by simp) (by rw [bsz_new, harr]; exact Nat.le_refl _), hout, hid⟩
      · simp at h
    · simp at h
  · simp at h
end ops
end Go.VS

/-
  VS, part 10: literals, conversions, builtins that are quiet; all quiet operations in one theorem.
-/
namespace Go.VS

section ops
variable {P : Program} {E : TEnv} (hE : ∀ t ti, E t = some ti → TyOK P t ti)
variable {w : World} {G : Heap} {φ : Phi} {A : Avoid}

theorem storA_ne {x : AV} (h : storA x = true) : x ≠ .undef := by rintro rfl; simp [storA, stor1] at h

/-- Filling the cells of a struct or an array. -/
theorem fill_ok {placeA placeC : Nat → Option (Nat × Nat)} (hp : ∀ i o s, placeA i = some (o, s) → placeC i = some (o, s)) :
    ∀ (ps : List (Nat × AV)) (qs : List (Nat × Value)) (cs : List AV) (vs : Array Value) (cs' : List AV), ps.length = qs.length →
    (∀ (k : Nat) (p : Nat × AV) (q : Nat × Value), ps[k]? = some p → qs[k]? = some q → p.1 = q.1 ∧ R w G φ A p.2 q.2) → cs.length = vs.size →
    (∀ (j : Nat) (y : AV) (v : Value), cs[j]? = some y → vs[j]? = some v → R w G φ A y v ∧ v.oneCell' = true) → fillA placeA cs ps = some cs' →
    ∃ vs', Instr.fill placeC vs qs = some vs' ∧ cs'.length = vs'.size ∧ vs'.size = vs.size ∧ ∀ (j : Nat) (y : AV) (v : Value), cs'[j]? = some y → vs'[j]? = some v → R w G φ A y v ∧ v.oneCell' = true
  | [], [], cs, vs, cs', _, _, hl, hc, h => by
    simp only [fillA, Option.some.injEq] at h; subst h
    exact ⟨vs, rfl, hl, rfl, hc⟩
  | [], _ :: _, _, _, _, h, _, _, _, _ => by simp at h
  | _ :: _, [], _, _, _, h, _, _, _, _ => by simp at h
  | (i, x) :: ps, (i', v) :: qs, cs, vs, cs', hlen, hr, hl, hc, h => by
    obtain ⟨hi, hx⟩ := hr 0 _ _ rfl rfl
    simp only at hi hx; subst hi
    simp only [fillA] at h
    split at h
    · simp at h
    · rename_i off size hpl
      split at h
      · rename_i hcnd
        obtain ⟨c1, c2, c3⟩ := hcnd
        obtain ⟨k1, k2⟩ := hx.cells (storA_ne c3)
        have k3 := hx.ones c3
        have hsz : v.cells.size = size := by omega
        have hle : off + v.cells.size ≤ vs.size := by omega
        obtain ⟨f1, f2⟩ := foldl_set_arr v.cells off vs hle
        have ih := fill_ok hp ps qs (splice cs off x.cells) (v.cells.zipIdx.foldl (fun cs (c, j) => cs.setIfInBounds (off + j) c) vs) cs' (by simpa using hlen) (fun k p q hpk hqk => hr (k + 1) p q hpk hqk)
          (by rw [f1, splice_len _ _ _ (by omega)]; exact hl)
          (fun j y u hy hu => by
            rw [splice_get _ _ _ (by omega)] at hy
            rw [f2] at hu
            rw [k1] at hy
            split at hy
            · rename_i hj; rw [if_pos hj] at hu; exact ⟨k2 _ _ _ hy hu, k3 _ _ hu⟩
            · rename_i hj; rw [if_neg hj] at hu; exact hc _ _ _ hy hu) h
        obtain ⟨vs', g1, g2, g3, g4⟩ := ih
        refine ⟨vs', ?_, g2, by rw [g3, f1], g4⟩
        simp only [Instr.fill, hp _ _ _ hpl]
        rw [if_neg (by simp; omega)]
        exact g1
      · simp at h

/-- Filling a slice literal. -/
theorem fillE_ok {sz : Nat} (hz : sz ≠ 0) :
    ∀ (ps : List (Nat × AV)) (qs : List (Nat × Value)) (el : List AV) (vs : Array Value) (el' : List AV), ps.length = qs.length →
    (∀ (k : Nat) (p : Nat × AV) (q : Nat × Value), ps[k]? = some p → qs[k]? = some q → p.1 = q.1 ∧ R w G φ A p.2 q.2) → vs.size = el.length * sz →
    (∀ (i : Nat) (x : AV), el[i]? = some x → x.cells.length = sz) →
    (∀ (i : Nat) (x : AV) (j : Nat) (y : AV) (v : Value), el[i]? = some x → x.cells[j]? = some y → vs[i * sz + j]? = some v → R w G φ A y v ∧ v.oneCell' = true) → fillE sz el ps = some el' →
    ∃ vs', Instr.fill (fun i => some (i * sz, sz)) vs qs = some vs' ∧ vs'.size = el'.length * sz ∧ el'.length = el.length ∧ (∀ (i : Nat) (x : AV), el'[i]? = some x → x.cells.length = sz) ∧
      (∀ (i : Nat) (x : AV) (j : Nat) (y : AV) (v : Value), el'[i]? = some x → x.cells[j]? = some y → vs'[i * sz + j]? = some v → R w G φ A y v ∧ v.oneCell' = true)
  | [], [], el, vs, el', _, _, hl, hs, hc, h => by
    simp only [fillE, Option.some.injEq] at h; subst h
    exact ⟨vs, rfl, hl, rfl, hs, hc⟩
  | [], _ :: _, _, _, _, h, _, _, _, _, _ => by simp at h
  | _ :: _, [], _, _, _, h, _, _, _, _, _ => by simp at h
  | (i, x) :: ps, (i', v) :: qs, el, vs, el', hlen, hr, hl, hs, hc, h => by
    obtain ⟨hi, hx⟩ := hr 0 _ _ rfl rfl
    simp only at hi hx; subst hi
    simp only [fillE] at h
    split at h
    · rename_i hcnd
      obtain ⟨c1, c2, c3⟩ := hcnd
      obtain ⟨k1, k2⟩ := hx.cells (storA_ne c3)
      have k3 := hx.ones c3
      have hle0 := mul_lt_le (n := sz) c1
      have hle : i * sz + v.cells.size ≤ vs.size := by omega
      obtain ⟨f1, f2⟩ := foldl_set_arr v.cells (i * sz) vs hle
      have ih := fillE_ok hz ps qs (el.set i x) (v.cells.zipIdx.foldl (fun cs (c, j) => cs.setIfInBounds (i * sz + j) c) vs) el' (by simpa using hlen) (fun k p q hpk hqk => hr (k + 1) p q hpk hqk)
        (by rw [f1, List.length_set]; exact hl)
        (fun k y hy => by
          rw [List.getElem?_set] at hy
          split at hy
          · simp only [Option.some.injEq] at hy
            first | (rw [← hy.2]; exact c2) | (rw [← hy]; exact c2)
          · exact hs _ _ hy)
        (fun k y j u z hy hu hz' => by
          rw [f2] at hz'
          have hjlt : j < y.cells.length := (List.getElem?_eq_some_iff.1 hu).1
          rw [List.getElem?_set] at hy
          split at hy
          · rename_i hk; subst hk
            simp only [Option.some.injEq] at hy
            have hxy : x = y := by first | exact hy.2 | exact hy
            subst hxy
            rw [if_pos (by omega)] at hz'
            have : i * sz + j - i * sz = j := by omega
            rw [this] at hz'
            exact ⟨k2 _ _ _ hu hz', k3 _ _ hz'⟩
          · rename_i hk
            have hj2 : j < sz := by rw [← hs k y hy]; exact hjlt
            rw [if_neg (by
              intro hh
              rcases Nat.lt_or_gt_of_ne hk with h1 | h1
              · have := mul_lt_le (n := sz) h1; omega
              · have := mul_lt_le (n := sz) h1; omega)] at hz'
            exact hc _ _ _ _ _ hy hu hz') h
      obtain ⟨vs', g1, g2, g3, g4, g5⟩ := ih
      refine ⟨vs', ?_, g2, by rw [g3, List.length_set], g4, g5⟩
      simp only [Instr.fill]
      rw [if_neg (by simp; omega)]
      exact g1
    · simp at h

theorem parts_ok {_E : TEnv} {s : Frm} {ρ : Operand → Value} {parts : Array (Nat × Operand)} (hρ : ∀ p ∈ parts.toList, R w G φ A (ev s p.2) (ρ p.2)) :
    (parts.toList.map fun p => (p.1, ev s p.2)).length = ((parts.map fun (i, x) => (i, ρ x)).toList).length ∧
    ∀ (k : Nat) (p : Nat × AV) (q : Nat × Value), (parts.toList.map fun p => (p.1, ev s p.2))[k]? = some p → ((parts.map fun (i, x) => (i, ρ x)).toList)[k]? = some q → p.1 = q.1 ∧ R w G φ A p.2 q.2 := by
  refine ⟨by simp, fun k p q hp hq => ?_⟩
  simp only [Array.toList_map, List.getElem?_map, Option.map_eq_some_iff] at hp hq
  obtain ⟨a, ha, rfl⟩ := hp
  obtain ⟨b, hb, rfl⟩ := hq
  rw [ha] at hb
  simp only [Option.some.injEq] at hb; subst hb
  exact ⟨rfl, hρ a (List.mem_of_getElem? ha)⟩

theorem run_mapM {α β : Type} (f : α → Sem β) (g : α → β) (xs : Array α) (h : ∀ x ∈ xs.toList, (f x).run P w = .ok (g x) w) : (xs.mapM f).run P w = .ok (xs.map g) w := by
  rw [Array.mapM_eq_mapM_toList, Sem.run_map]
  have : ∀ l : List α, (∀ x ∈ l, (f x).run P w = .ok (g x) w) → (l.mapM f).run P w = .ok (l.map g) w := by
    intro l
    induction l with
    | nil => intro _; simp
    | cons x l ih =>
      intro h
      simp [h x (by simp), ih (fun y hy => h y (by simp [hy]))]
  rw [this _ h]
  simp only [Result.andThen_ok]
  congr 1
  apply Array.ext'; simp

include hE in
theorem q_build {H0 H' : Heap} {t : TypeId} {parts : Array (Nat × Operand)} {s : Frm} {ρ : Operand → Value} {z : AV} (hρ : ∀ p ∈ parts.toList, R w G φ A (ev s p.2) (ρ p.2))
    (h : (match E t with
    | some ti => match ti.und with
      | .st fs => if !(fs.all fun f => (E f.2).isSome) || !(ti.zero.all stor1) then none else
          (match ((fillA (fun i => match fs[i]? with | some (o, ft) => (E ft).map fun tf => (o, tf.sz) | none => none) ti.zero (parts.toList.map fun p => (p.1, ev s p.2))).map AV.agg) with | some v => some (v, H0) | none => none)
      | .ar n e => match E e with
        | some te => if !(ti.zero.all stor1) then none else
          (match ((fillA (fun i => if i < n then some (i * te.sz, te.sz) else none) ti.zero (parts.toList.map fun p => (p.1, ev s p.2))).map AV.agg) with | some v => some (v, H0) | none => none)
        | none => none
      | _ => none
    | none => none) = some (z, H')) : ∃ v, (Instr.build t (parts.map fun (i, x) => (i, ρ x))).run P w = .ok v w ∧ R w G φ A z v := by
  obtain ⟨p1, p2⟩ := parts_ok (_E := E) hρ
  split at h
  · rename_i ti h1
    have hT := hE _ _ h1
    obtain ⟨zv, z1, z2, z3, z4, z5⟩ := hT.zeroValue w
    have hzl : ti.zero.length = zv.cells.size := by rw [z5]; simp
    have hzr : ∀ (j : Nat) (y : AV) (v : Value), ti.zero[j]? = some y → zv.cells[j]? = some v → R w G φ A y v ∧ v.oneCell' = true := by
      intro j y v hy hv
      rw [z5] at hy
      simp only [List.getElem?_map, Option.map_eq_some_iff, Array.getElem?_toList] at hy
      obtain ⟨u, hu, rfl⟩ := hy
      rw [hv] at hu
      simp only [Option.some.injEq] at hu; subst hu
      exact ⟨.fr _ _ (FR.ofValue w A v), z4 j v hv⟩
    split at h
    · rename_i fs hu
      split at h
      · simp at h
      · rename_i hall
        simp only [Bool.or_eq_true, Bool.not_eq_true', not_or, Bool.not_eq_false] at hall
        split at h
        · rename_i v hv
          simp only [Option.some.injEq, Prod.mk.injEq] at h
          obtain ⟨rfl, rfl⟩ := h
          simp only [Option.map_eq_some_iff] at hv
          obtain ⟨cs', hcs, rfl⟩ := hv
          obtain ⟨gs, hg, hfs, _, _⟩ := hT.und_st w hu
          let sizeF : Field → Nat := fun f => ((E f.type).map (·.sz)).getD 0
          have hsz : ∀ f ∈ gs.toList, (E f.type).isSome := by
            intro f hf
            have := List.all_eq_true.1 hall.1 (f.offset, f.type) (by rw [hfs]; exact List.mem_map.2 ⟨f, hf, rfl⟩)
            exact this
          have hm : (gs.mapM fun f => (do pure (f.offset, ← sizeOf f.type) : Sem (Nat × Nat))).run P w = .ok (gs.map fun f => (f.offset, sizeF f)) w := by
            refine run_mapM _ _ _ fun f hf => ?_
            obtain ⟨tf, htf⟩ := Option.isSome_iff_exists.1 (hsz f hf)
            simp [(hE _ _ htf).sizeOf, sizeF, htf]
          obtain ⟨vs', f1, f2, f3, f4⟩ := fill_ok (placeC := ((gs.map fun f => (f.offset, sizeF f))[·]?)) (fun i o sz hpl => by
            split at hpl
            · rename_i o' ft hfi
              simp only [Option.map_eq_some_iff, Prod.mk.injEq] at hpl
              obtain ⟨tf, htf, rfl, rfl⟩ := hpl
              rw [hfs] at hfi
              simp only [List.getElem?_map, Option.map_eq_some_iff, Prod.mk.injEq, Array.getElem?_toList] at hfi
              obtain ⟨g, hg1, rfl, rfl⟩ := hfi
              simp [hg1, sizeF, htf]
            · simp at hpl) _ _ _ zv.cells _ p1 p2 hzl hzr hcs
          refine ⟨.agg vs', ?_, .agg _ _ f2 (fun j v hv => ?_) fun i x v hx hv => (f4 i x v hx hv).1⟩
          · simp only [Instr.build, Sem.run_bind, z1, Result.andThen_ok, hg, hm, f1, Sem.run_pure]
          · have hj : j < cs'.length := by rw [f2]; exact (Array.getElem?_eq_some_iff.1 hv).1
            exact (f4 j _ v (List.getElem?_eq_getElem hj) hv).2
        · simp at h
    · rename_i n e hu
      split at h
      · rename_i te h2
        split at h
        · simp at h
        · split at h
          · rename_i v hv
            simp only [Option.some.injEq, Prod.mk.injEq] at h
            obtain ⟨rfl, rfl⟩ := h
            simp only [Option.map_eq_some_iff] at hv
            obtain ⟨cs', hcs, rfl⟩ := hv
            obtain ⟨vs', f1, f2, f3, f4⟩ := fill_ok (placeC := fun i => some (i * te.sz, te.sz)) (fun i o sz hpl => by
              split at hpl
              · exact hpl
              · simp at hpl) _ _ _ zv.cells _ p1 p2 hzl hzr hcs
            refine ⟨.agg vs', ?_, .agg _ _ f2 (fun j v hv => ?_) fun i x v hx hv => (f4 i x v hx hv).1⟩
            · simp only [Instr.build, Sem.run_bind, z1, Result.andThen_ok, hT.und_ar w hu, (hE _ _ h2).sizeOf, f1, Sem.run_pure]
            · have hj : j < cs'.length := by rw [f2]; exact (Array.getElem?_eq_some_iff.1 hv).1
              exact (f4 j _ v (List.getElem?_eq_getElem hj) hv).2
          · simp at h
      · simp at h
    · simp at h
  · simp at h

theorem elTI_inv {t : TypeId} {te : TI} (h : elTI E t = some te) : ∃ ti e, E t = some ti ∧ ti.und = .sl e ∧ E e = some te := by
  unfold elTI at h
  split at h
  · rename_i ti ht
    split at h
    · rename_i e hu; exact ⟨ti, e, ht, hu, h⟩
    · simp at h
  · simp at h

include hE in
theorem q_buildSlice {H0 H' : Heap} (hst : St w G φ A) (hX : Ext H' G) (hnew : H0.bs.length < H'.bs.length → φ H0.bs.length = none) {t : TypeId} {len : Nat} {parts : Array (Nat × Operand)} {s : Frm} {ρ : Operand → Value} {z : AV}
    (hρ : ∀ p ∈ parts.toList, R w G φ A (ev s p.2) (ρ p.2))
    (h : (match elTI E t with
    | some te => if len = 0 then (if parts.size = 0 then some (AV.e0, H0) else none) else
      match zeroA te with
      | some z => if len * te.sz ≤ 1000000 ∧ te.sz ≠ 0 then
          match fillE te.sz (List.replicate len z) (parts.toList.map fun p => (p.1, ev s p.2)) with
          | some el => some (.ref H0.bs.length H0.st 0 len, H0.new te.sz false el)
          | none => none
        else none
      | none => none
    | none => none) = some (z, H')) : QRes w G φ A H0 H' ((do pure (.value (← Instr.buildSlice t len (parts.map fun (i, x) => (i, ρ x)))) : Sem Next).run P w) z := by
  obtain ⟨p1, p2⟩ := parts_ok (_E := E) hρ
  split at h
  · rename_i te hte
    obtain ⟨ti, e, ht, hu, hee⟩ := elTI_inv hte
    have hu1 := (hE _ _ ht).sl w hu
    split at h
    · rename_i hl0
      subst hl0
      split at h
      · rename_i hps
        simp only [Option.some.injEq, Prod.mk.injEq] at h
        obtain ⟨rfl, rfl⟩ := h
        have hpe : parts = #[] := Array.eq_empty_of_size_eq_zero hps
        subst hpe
        refine ⟨_, .slice (some ⟨w.heap.size, 0, none⟩) 0 0, w.alloc (.cells #[] e), φ, A, ?_, .inl rfl, .fr _ _ (.e0 _), allocOut0 hst _, fun _ _ h => .inl h⟩
        have hr0 : Array.range 0 = #[] := by simp
        simp [Instr.buildSlice, hu1, (hE _ _ hee).sizeOf, Instr.fill, newRow, hr0]
      · simp at h
    · rename_i hl0
      split at h
      · rename_i zA hz
        split at h
        · rename_i hc
          split at h
          · rename_i el hel
            simp only [Option.some.injEq, Prod.mk.injEq] at h
            obtain ⟨rfl, rfl⟩ := h
            obtain ⟨zv, z1, z2, z3, z4, _, z5⟩ := zero_ok (hE _ _ hee) hz w
            have hne : ¬ (len * te.sz = 0) := by
              intro h0
              rcases Nat.mul_eq_zero.1 h0 with h0 | h0 <;> omega
            obtain ⟨vs', f1, f2, f3, f4, f5⟩ := fillE_ok (w := w) (G := G) (φ := φ) (A := A) hc.2 _ _ (List.replicate len zA) ((Array.range (len * te.sz)).map (fun k => zv.cells[k % zv.cells.size]!)) _ p1 p2
              (by simp) (fun i x hx => by
                simp only [List.getElem?_replicate] at hx
                split at hx
                · simp only [Option.some.injEq] at hx; subst hx; rw [z3, z4]
                · simp at hx)
              (fun i x j y v hx hy hv => by
                simp only [List.getElem?_replicate] at hx
                split at hx
                · rename_i hi
                  simp only [Option.some.injEq] at hx; subst hx
                  rw [z3] at hy
                  have hj : j < te.sz := by rw [← z4]; exact (List.getElem?_eq_some_iff.1 hy).1
                  have := z5 w A j y v hy (rep_cells z2 hi hj hv)
                  exact ⟨.fr _ _ this.1, this.2⟩
                · simp at hx) hel
            have hlen : el.length = len := by rw [f3]; simp
            obtain ⟨φ', A', hout, hφ, hid⟩ := newOut (arr := vs') e hst hX (hnew (by simp [Heap.new])) f4 (by rw [f2]; exact Nat.le_refl _) f5
            have hg := hX.1 _ _ (Heap.get_new H0 te.sz false el)
            refine ⟨_, .slice (some ⟨w.heap.size, 0, none⟩) len len, w.alloc (.cells vs' e), φ', A', ?_, .inl rfl,
              ref_new hg (Nat.lt_of_lt_of_le (Nat.lt_succ_self _) hX.2) hφ (by simp [hlen]) (Nat.le_refl _) (by simp [hlen]) (by rw [bsz_new, f2, hlen]; exact Nat.le_refl _), hout, hid⟩
            have h24 : ¬ (len * te.sz > 2 ^ 24) := by omega
            simp only [Instr.buildSlice, Sem.run_bind, hu1, Result.andThen_ok, (hE _ _ hee).sizeOf, h24, hne, if_false, z1, f1, Sem.run_pure, newRow, run_newObj, World.alloc_eq]
          · simp at h
        · simp at h
      · simp at h
  · simp at h
end ops
end Go.VS

/-
  VS, part 11: conversions; all quiet operations in one theorem.
-/
namespace Go.VS

section ops
variable {P : Program} {E : TEnv} (hE : ∀ t ti, E t = some ti → TyOK P t ti)
variable {w : World} {G : Heap} {φ : Phi} {A : Avoid}

/-- What the elements of a slice hold: where they lie. -/
structure ElemsAt (w : World) (G : Heap) (φ : Phi) (A : Avoid) (xs : List AV) (v : Value) (sz : Nat) : Prop where
  out : (xs = [] ∧ ∃ a cap, v = .slice a 0 cap) ∨ ∃ c o cap arr T fr, v = .slice (some ⟨c, o, none⟩) xs.length cap ∧ w.heap[c]? = some (.cells arr T fr) ∧ o + xs.length * sz ≤ arr.size ∧
    (∀ (i : Nat) (x : AV), xs[i]? = some x → x.cells.length = sz) ∧
    ∀ (i : Nat) (x : AV) (j : Nat) (y : AV) (u : Value), xs[i]? = some x → x.cells[j]? = some y → arr[o + i * sz + j]? = some u → R w G φ A y u ∧ u.oneCell' = true

theorem szAll_get {sz : Nat} {xs : List AV} (h : szAll sz xs = true) {i : Nat} {x : AV} (hx : xs[i]? = some x) : x.cells.length = sz := by
  have := List.all_eq_true.1 h x (List.mem_of_getElem? hx)
  simpa using this

theorem div_lt_of {k sz n : Nat} (hk : k < n * sz) (hs : 0 < sz) : k / sz < n := (Nat.div_lt_iff_lt_mul hs).2 hk

/-- The elements of what is appended, copied or turned into a text: never of a text. -/
theorem elems_at {H0 : Heap} (hst : St w G φ A) (hX : Ext H0 G) {x : AV} {v : Value} {xs : List AV} {sz : Nat} (hx : R w G φ A x v) (h : elemsOf H0 x = some xs) (hs : szAll sz xs = true) (hn : ∀ s, x ≠ .str s) :
    ElemsAt w G φ A xs v sz := by
  cases x with
  | nil => simp [elemsOf] at h; subst h; have := hx.nil_inv; subst this; exact ⟨.inl ⟨rfl, _, _, rfl⟩⟩
  | e0 => simp [elemsOf] at h; subst h; obtain ⟨a, rfl⟩ := hx.e0_inv; exact ⟨.inl ⟨rfl, _, _, rfl⟩⟩
  | fz ys =>
    simp only [elemsOf, Option.some.injEq] at h; subst h
    by_cases hne : ys = []
    · subst hne
      have := hx.fz_inv
      cases this with
      | fz0 a cap => exact ⟨.inl ⟨rfl, _, _, rfl⟩⟩
      | fz => exact ⟨.inl ⟨rfl, _, _, rfl⟩⟩
    · obtain ⟨c, off, cap, n, arr, T, fr, rfl, h1, h2, h3, h4, h5, h6, h7⟩ := fz_inv hx.fz_inv hne
      have hm : n = sz := by
        obtain ⟨y, ys', rfl⟩ := List.exists_cons_of_ne_nil hne
        exact (h5 0 y rfl).symm.trans (szAll_get (i := 0) hs rfl)
      subst hm
      refine ⟨.inr ⟨c, off, cap, arr, T, fr, rfl, h1, h4, h5, fun i x j y u hx hy hu => ⟨.fr _ _ (h7 i x j y u hx hy hu), ?_⟩⟩⟩
      have hi : i < ys.length := (List.getElem?_eq_some_iff.1 hx).1
      have hj : j < x.cells.length := (List.getElem?_eq_some_iff.1 hy).1
      have hle := mul_lt_le (n := n) hi
      have := h5 i x hx
      exact h6 (i * n + j) u (by omega) (by rw [← hu]; congr 1; omega)
  | ref id ver off len =>
    simp only [elemsOf] at h
    split at h
    · rename_i b hb
      split at h
      · rename_i hle
        simp only [Option.some.injEq] at h
        have hlen : xs.length = len := by rw [← h]; simp [subL]; omega
        by_cases hl0 : len = 0
        · subst hl0
          obtain ⟨hv, _, hr⟩ := hx.ref_inv
          obtain ⟨loc, a0, cap, k1, rfl, _⟩ := (hr b (hX.blk hb)).out
          exact ⟨.inl ⟨List.eq_nil_of_length_eq_zero hlen, _, _, rfl⟩⟩
        · obtain ⟨c, b0, cap, hφ, rfl, k1, k2, k3, k4⟩ := ref_at hx (hX.blk hb) (by omega)
          obtain ⟨b', hb', hok⟩ := hst.blk id _ hφ
          rw [(Heap.blk_get (hX.blk hb)).1] at hb'
          simp only [Option.some.injEq] at hb'; subst hb'
          obtain ⟨arr, T, fr, m1, _, m3, m4⟩ := hok.here c b0 rfl
          have hget : ∀ (i : Nat) (x : AV), xs[i]? = some x → b.el[off + i]? = some x := by
            intro i x hi
            rw [← h] at hi
            simp only [subL, List.getElem?_take, List.getElem?_drop] at hi
            split at hi
            · exact hi
            · simp at hi
          have hbs : b.sz = sz := by
            obtain ⟨y, ys', rfl⟩ := List.exists_cons_of_ne_nil (l := xs) (by intro h0; rw [h0] at hlen; simp at hlen; omega)
            exact (hok.sized _ _ (hget 0 y rfl)).symm.trans (szAll_get (i := 0) hs rfl)
          subst hbs
          refine ⟨.inr ⟨c, b0 + off * b.sz, cap, arr, T, fr, by rw [hlen], m1, ?_, fun i x hi => szAll_get hs hi, fun i x j y u hi hy hu => m4 (off + i) x j y u (hget i x hi) hy (by rw [← hu]; congr 1; rw [Nat.add_mul]; omega)⟩⟩
          rw [hlen]
          have : off * b.sz + len * b.sz ≤ b.el.length * b.sz := by rw [← Nat.add_mul]; exact Nat.mul_le_mul_right _ hle
          omega
      · simp at h
    · simp at h
  | str s => exact absurd rfl (hn s)
  | _ => simp [elemsOf] at h

/-- The cells that lie there. -/
theorem ElemsAt.cells {xs : List AV} {v : Value} {sz : Nat} (h : ElemsAt w G φ A xs v sz) (hs : 0 < sz) : ∃ cs : Array Value, (Builtin.firstCells sz xs.length v).run P w = .ok cs w ∧ cs.size = xs.length * sz ∧
    (∀ (i : Nat) (x : AV) (j : Nat) (y : AV) (u : Value), xs[i]? = some x → x.cells[j]? = some y → cs[i * sz + j]? = some u → R w G φ A y u ∧ u.oneCell' = true) ∧ ∀ u ∈ cs.toList, u.oneCell' = true := by
  rcases h.out with ⟨rfl, a, cap, rfl⟩ | ⟨c, o, cap, arr, T, fr, rfl, h1, h2, h3, h4⟩
  · refine ⟨#[], ?_, by simp, by simp, by simp⟩
    cases a with
    | none => simp [Builtin.firstCells]
    | some a => simp [Builtin.firstCells, loadCells, loadCellsFrom]
  · refine ⟨arr.extract o (o + xs.length * sz), by simp [Builtin.firstCells, run_loadCells_at P h1 o (xs.length * sz) h2], by simp; omega, fun i x j y u hx hy hu => ?_, fun u hu => ?_⟩
    · simp only [Array.getElem?_extract] at hu
      split at hu
      · exact h4 i x j y u hx hy (by rw [← hu]; congr 1; omega)
      · simp at hu
    · obtain ⟨k, hk⟩ := List.getElem?_of_mem hu
      rw [Array.getElem?_toList, Array.getElem?_extract] at hk
      split at hk
      · rename_i hk2
        have hk3 : k < xs.length * sz := by omega
        have hq := div_lt_of hk3 hs
        have hr := Nat.mod_lt k hs
        have hx : xs[k / sz]? = some (xs[k / sz]) := List.getElem?_eq_getElem hq
        have hxl := h3 _ _ hx
        have hdm : k / sz * sz + k % sz = k := by rw [Nat.mul_comm]; exact Nat.div_add_mod k sz
        have e : o + k / sz * sz + k % sz = o + k := by omega
        exact (h4 (k / sz) _ (k % sz) _ u hx (List.getElem?_eq_getElem (by omega)) (by rw [e]; exact hk)).2
      · simp at hk

theorem run_bytes (f : Value → ByteArray → Sem (ForInStep ByteArray)) (hf : ∀ n s, (f (.int .u8 n) s).run P w = .ok (.yield (s.push (UInt8.ofNat n.toNat))) w) (l : List Int) : ∀ (acc : ByteArray),
    (forIn (l.map fun n => Value.int .u8 n) acc f).run P w = .ok ⟨(acc.data.toList ++ l.map fun n => UInt8.ofNat n.toNat).toArray⟩ w := by
  induction l with
  | nil => intro acc; simp
  | cons n l ih =>
    intro acc
    simp only [List.map_cons, List.forIn_cons, Sem.run_bind, hf, Result.andThen_ok]
    rw [ih]
    congr 2
    apply Array.ext'
    simp [ByteArray.push]

theorem bytesOf_map {xs : List AV} {l : List UInt8} (h : bytesOf xs = some l) : ∃ ns : List Int, xs = ns.map (fun n => AV.int .u8 n) ∧ l = ns.map fun n => UInt8.ofNat n.toNat := by
  induction xs generalizing l with
  | nil => simp [bytesOf] at h; subst h; exact ⟨[], rfl, rfl⟩
  | cons x xs ih =>
    cases x with
    | int k n =>
      cases k <;> simp only [bytesOf, Option.map_eq_some_iff, reduceCtorEq] at h
      obtain ⟨l', hl, rfl⟩ := h
      obtain ⟨ns, rfl, rfl⟩ := ih hl
      exact ⟨n :: ns, rfl, rfl⟩
    | _ => simp [bytesOf] at h

theorem str_of (l : List UInt8) (w : World) (A : Avoid) : FR w A (.str l) (.string ⟨l.toArray⟩) := by
  have := FR.str (w := w) (A := A) ⟨l.toArray⟩
  simpa using this

include hE in
theorem q_toString {H0 : Heap} (hst : St w G φ A) (hX : Ext H0 G) {x : AV} {v : Value} {xs : List AV} {l : List UInt8} (hx : R w G φ A x v) (h : elemsOf H0 x = some xs) (hb : bytesOf xs = some l) (hn : ∀ s, x ≠ .str s) :
    ∃ u, (Conv.bytesToString v).run P w = .ok u w ∧ R w G φ A (.str l) u := by
  have _ := @hE
  obtain ⟨ns, rfl, rfl⟩ := bytesOf_map hb
  have hs : szAll 1 (ns.map fun n => AV.int .u8 n) = true := by simp [szAll, AV.cells]
  have hel := elems_at hst hX hx h hs hn
  refine ⟨.string ⟨(ns.map fun n => UInt8.ofNat n.toNat).toArray⟩, ?_, .fr _ _ (str_of _ _ _)⟩
  rcases hel.out with ⟨he, a, cap, rfl⟩ | ⟨c, o, cap, arr, T, fr, rfl, h1, h2, h3, h4⟩
  · have : ns = [] := by simpa using he
    subst this
    cases a with
    | none => simp [Conv.bytesToString]; rfl
    | some a => simp [Conv.bytesToString, loadCells, loadCellsFrom]; rfl
  · simp only [List.length_map, Nat.mul_one] at h2 ⊢
    have hcs : (arr.extract o (o + ns.length)).toList = ns.map fun n => Value.int .u8 n := by
      apply List.ext_getElem?
      intro k
      rw [Array.getElem?_toList, Array.getElem?_extract]
      by_cases hk : k < ns.length
      · rw [if_pos (by omega)]
        have hlt : o + k < arr.size := by omega
        rw [Array.getElem?_eq_getElem hlt]
        have := (h4 k (.int .u8 ns[k]) 0 (.int .u8 ns[k]) _ (by simp [hk]) rfl (by simp; exact Array.getElem?_eq_getElem hlt)).1.int_inv
        rw [this]; simp [hk]
      · rw [if_neg (by omega), List.getElem?_map, List.getElem?_eq_none (by omega)]; rfl
    simp only [Conv.bytesToString, Sem.run_bind, run_loadCells_at P h1 o ns.length h2, Result.andThen_ok]
    rw [← Array.forIn_toList, hcs, run_bytes _ (fun n s => rfl)]
    simp
end ops
end Go.VS
