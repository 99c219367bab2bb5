import Derived.Orders
import Derived.Below
import Derived.Laws.Strings
import Derived.Laws.StructEq
import Derived.IntWalk
namespace Go.VS
inductive AV where
 |undef
 |int (k:IntKind) (n:Int)
 |bool (b:Bool)
 |str (s:List UInt8)
 |agg (xs:List AV)
 |aD (xs:List AV)
 |nil
 |e0
 |fz (xs:List AV)
 |ref (id ad off len:Nat)
 |own (sz:Nat) (xs:List AV)
 |ptr (id ad idx off:Nat)
 |fe (x:AV) (off:Nat)
 |dQ (sz:Nat) (x:AV)
 |fn (f:FuncId) (cap:List AV)
 |cB (b:Bool)
 |eb
 deriving Inhabited
def AV.cells:AV→List AV
 | .agg xs=>xs
 | .undef=>[]
 |v=>[v]
structure bu where
 ad:Nat
 sz:Nat
 fix:Bool
 el:List AV
 deriving Inhabited
structure J where
 st:Nat
 bs:List (Option bu)
 deriving Inhabited
namespace J
def get (H:J) (id:Nat):Option bu:=(H.bs[id]?).join
def ap (H:J) (id ad:Nat):Option bu:=
 match H.bs[id]? with
 |some (some b)=>if b.ad=ad then some b else none
 |_=>none
def new (H:J) (sz:Nat) (fix:Bool) (el:List AV):J:=⟨H.st+1,H.bs ++ [some ⟨H.st,sz,fix,el⟩]⟩
def aZ (H:J) (id:Nat) (b:bu):J:=⟨H.st,H.bs.set id (some b)⟩
def del (H:J) (id:Nat):J:=⟨H.st,H.bs.set id none⟩
def trim (H:J) (n:Nat):J:=⟨H.st,H.bs.take n⟩
end J
inductive UD where
 |sl (e:TypeId)
 |st (fs:List (Nat×TypeId))
 |ar (n:Nat) (e:TypeId)
 |str
 |it (k:IntKind)
 |bl
 |pq
 |pt
 |ot
 deriving Inhabited
structure TI where
 sz:Nat
 agg:Bool
 zero:List AV
 bytes:Nat
 aw:UD
 lP:Bool:=false
 deriving Inhabited
abbrev aK:=TypeId→Option TI
abbrev ah:=List AV
def ofValue:Value→AV
 | .int k n=> .int k n
 | .bool b=> .bool b
 | .string s=> .str s.data.toList
 | .slice none 0 0=> .nil
 | .nilIface=> .cB false
 | .pointer none=> .eb
 |_=> .undef
def ev (s:ah):Operand→AV
 | .tmp t=>s.getD t .undef
 | .const v=>ofValue v
 | .global _=> .undef
 | .func f=> .fn f []
def kR (agg:Bool) (cs:List AV):Option AV:=
 if agg then some (.agg cs) else match cs with|[x]=>some x|_=>none
def aB (cs:List AV) (off n:Nat):List AV:=(cs.drop off).take n
def bY (ti:TI) (x:AV) (off:Nat):Option AV:=
 if off+ti.sz≤x.cells.length then kR ti.agg (aB x.cells off ti.sz) else none
def splice (cs:List AV) (off:Nat) (vs:List AV):List AV:=cs.take off ++ vs ++ cs.drop (off+vs.length)
def hG (x:AV) (off:Nat) (v:AV):Option AV:=
 match x with
 | .agg cs=>if off+v.cells.length≤cs.length then some (.agg (splice cs off v.cells)) else none
 | .undef=>none
 |_=>match v with
  | .agg _=>none
  |v=>if off=0 then some v else none
def db:AV→Bool
 | .undef| .agg _| .aD _| .own .. | .dQ .. =>false
 |_=>true
def en:AV→Bool
 | .agg cs=>cs.all db
 |v=>db v
def bD (sz:Nat) (xs:List AV):Bool:=xs.all fun x=>x.cells.length==sz
def cC (H:J):AV→Option (List AV)
 | .nil| .e0=>some []
 | .fz xs=>some xs
 | .ref id ad off len=>match H.ap id ad with
  |some b=>if off+len≤b.el.length then some (aB b.el off len) else none
  |none=>none
 | .str s=>some (s.map fun b=> .int .u8 b.toNat)
 |_=>none
def lenOf (_H:J):AV→Option Nat
 | .nil| .e0=>some 0
 | .fz xs=>some xs.length
 | .ref _ _ _ len=>some len
 | .str s=>some s.length
 |_=>none
def roomy (n bytes:Nat):Bool:=(n+512)*bytes≤2^45&&n≤2^45
def dG (op:BinOp) (k:IntKind) (a b:Int):Option AV:=
 match op with
 | .add=>some (.int k (k.wrap (a+b)))
 | .sub=>some (.int k (k.wrap (a-b)))
 | .mul=>some (.int k (k.wrap (a*b)))
 | .quo=>if b=0 then none else some (.int k (k.wrap (a.tdiv b)))
 | .rem=>if b=0 then none else some (.int k (a.tmod b))
 | .and=>some (.int k (k.wrap (BitVec.ofInt k.bits a&&&BitVec.ofInt k.bits b).toNat))
 | .or=>some (.int k (k.wrap (BitVec.ofInt k.bits a|||BitVec.ofInt k.bits b).toNat))
 | .xor=>some (.int k (k.wrap (BitVec.ofInt k.bits a^^^BitVec.ofInt k.bits b).toNat))
 | .andNot=>some (.int k (k.wrap (BitVec.ofInt k.bits a&&& ~~~ BitVec.ofInt k.bits b).toNat))
 | .eql=>some (.bool (a==b))
 | .neq=>some (.bool (a !=b))
 | .lss=>some (.bool (a<b))
 | .leq=>some (.bool (a≤b))
 | .gtr=>some (.bool (a>b))
 | .geq=>some (.bool (a≥b))
 |_=>none
def jY (op:BinOp) (a b:List UInt8):Option AV:=
 match op with
 | .add=>if a.length+b.length≤2^45 then some (.str (a ++ b)) else none
 | .eql=>some (.bool (a==b))
 | .neq=>some (.bool (!(a==b)))
 | .lss=>some (.bool (Op.bytesLess a b))
 | .leq=>some (.bool (Op.bytesLess a b||a==b))
 | .gtr=>some (.bool (!(Op.bytesLess a b||a==b)))
 | .geq=>some (.bool (!(Op.bytesLess a b)))
 |_=>none
def isNil (u:UD) (x y:AV):Option Bool:=
 match u,x,y with
 | .sl _,.nil,.nil=>some true
 | .sl _,.fz (_::_),.nil=>some false
 | .pq,.cB b,.cB false=>some (!b)
 |_,_,_=>none
def iL (E:aK) (f:TypeId→List AV→List AV→Option Bool):List (Nat×TypeId)→List AV→List AV→Option Bool
 |[],_,_=>some true
 |(o,ft)::fs,xs,ys=>match E ft with
  |none=>none
  |some tf=>
   if o+tf.sz≤xs.length∧o+tf.sz≤ys.length then
    match f ft (aB xs o tf.sz) (aB ys o tf.sz) with
    |some b=>match iL E f fs xs ys with
     |some r=>some (b&&r)
     |none=>none
    |none=>none
   else none
def eo (E:aK):Nat→TypeId→List AV→List AV→Option Bool
 |0,_,_,_=>none
 |d+1,t,xs,ys=>match E t with
  |none=>none
  |some ti=>match ti.aw with
   | .it _=>match xs,ys with
    |[.int k a],[.int j b]=>if k=j then some (a==b) else none
    |_,_=>none
   | .bl=>match xs,ys with
    |[.bool a],[.bool b]=>some (a==b)
    |_,_=>none
   | .str=>match xs,ys with
    |[.str a],[.str b]=>some (a==b)
    |_,_=>none
   | .st fs=>if ti.lP then iL E (eo E d) fs xs ys else none
   |_=>none
def aN (E:aK) (op:BinOp) (t:TypeId) (x y:AV):Option AV:=
 match x,y with
 | .int k a,.int yk b=>
  match op with
  | .shl=>if b<0 then none else some (.int k (k.wrap (a*2^(min b.toNat k.bits))))
  | .shr=>if b<0 then none else some (.int k (a.fdiv (2^(min b.toNat k.bits))))
  |op=>if k=yk then dG op k a b else none
 | .str a,.str b=>jY op a b
 | .bool a,.bool b=>match E t with
  |some ti=>match ti.aw,op with
   | .bl,.eql=>some (.bool (a==b))
   | .bl,.neq=>some (.bool (!(a==b)))
   |_,_=>none
  |none=>none
 | .agg xs,.agg ys=>
  match E t with
  |none=>none
  |some ti=>
   if ti.agg then
    match op with
    | .eql=>match eo E 8 t xs ys with|some b=>some (.bool b)|none=>none
    | .neq=>match eo E 8 t xs ys with|some b=>some (.bool (!b))|none=>none
    |_=>none
   else none
 |x,y=>
  match E t with
  |none=>none
  |some ti=>
   match op with
   | .eql=>match isNil ti.aw x y with|some b=>some (.bool b)|none=>none
   | .neq=>match isNil ti.aw x y with|some b=>some (.bool (!b))|none=>none
   |_=>none
def jZ (op:UnOp) (x:AV):Option AV:=
 match op,x with
 | .neg,.int k n=>some (.int k (k.wrap (0-n)))
 | .not,.bool b=>some (.bool !b)
 |_,_=>none
def bytesOf:List AV→Option (List UInt8)
 |[]=>some []
 | .int .u8 n::xs=>(bytesOf xs).map (UInt8.ofNat n.toNat:: ·)
 |_=>none
def eK:Option AV→Option (Option Int)
 |none=>some none
 |some (.int _ n)=>some (some n)
 |_=>none
def gy (place:Nat→Option (Nat×Nat)) (cs:List AV):List (Nat×AV)→Option (List AV)
 |[]=>some cs
 |(i,v)::rest=>match place i with
  |none=>none
  |some (off,size)=>if v.cells.length=size∧off+size≤cs.length∧en v then gy place (splice cs off v.cells) rest else none
def jr (sz:Nat) (el:List AV):List (Nat×AV)→Option (List AV)
 |[]=>some el
 |(i,v)::rest=>if i<el.length∧v.cells.length=sz∧en v then jr sz (el.set i v) rest else none
def eL (ti:TI):Option AV:=if ti.zero.all db∧ti.zero.length=ti.sz then kR ti.agg ti.zero else none
def lQ:AV→AV
 | .nil=> .fz []
 | .e0=> .fz []
 |v=>v
def ep:AV→AV
 | .agg cs=> .agg (cs.map lQ)
 |v=>lQ v
def iM (ti:TI):Option AV:=match eL ti with|some z=>some (if ti.agg then ep z else z)|none=>none
def dR (E:aK) (t:TypeId) (x:AV) (lo hi mx:Option Int) (H:J):Option AV:=
 match E t with
 |none=>none
 |some ti=>
  match x with
  | .str s=>
   match ti.aw,mx with
   | .str,none=>
    let h:=hi.getD s.length
    let l:=lo.getD 0
    if 0≤l∧l≤h∧h≤s.length then some (.str ((s.drop l.toNat).take (h.toNat-l.toNat))) else none
   |_,_=>none
  | .fz xs=>
   match ti.aw with
   | .sl e=>
    match E e with
    |none=>none
    |some te=>
     if !bD te.sz xs then none else
     let h:=hi.getD xs.length
     let l:=lo.getD 0
     match mx with
     |none=>if 0≤l∧l≤h∧h≤xs.length then some (.fz ((xs.drop l.toNat).take (h.toNat-l.toNat))) else none
     |some m=>if hi.isSome∧0≤l∧l=h∧h=m∧h≤xs.length then some .e0 else none
   |_=>none
  | .ref id ad off len=>
   match ti.aw,H.ap id ad with
   | .sl e,some b=>
    match E e with
    |none=>none
    |some te=>
     if b.sz≠te.sz then none else
     let h:=hi.getD len
     let l:=lo.getD 0
     match mx with
     |none=>if 0≤l∧l≤h∧off+h.toNat≤b.el.length then some (.ref id ad (off+l.toNat) (h.toNat-l.toNat)) else none
     |some m=>if hi.isSome∧0≤l∧l=h∧h=m∧off+h.toNat≤b.el.length then some .e0
      else if hi.isSome∧0≤l∧l≤h∧h≤m∧off+m.toNat≤b.el.length then some .undef else none
   |_,_=>none
  | .nil=>
   match ti.aw with
   | .sl e=>match E e with
    |some _=>if lo.getD 0=0∧hi.getD 0=0∧mx.getD 0=0∧(mx.isSome→hi.isSome) then some .nil else none
    |none=>none
   |_=>none
  | .e0=>
   match ti.aw with
   | .sl e=>match E e with
    |some _=>if lo.getD 0=0∧hi.getD 0=0∧mx.getD 0=0∧(mx.isSome→hi.isSome) then some .e0 else none
    |none=>none
   |_=>none
  |_=>none
def ec (te:TI) (s x:AV) (H:J):Option (AV×J):=
 match cC H x with
 |none=>none
 |some xs=>
  if !bD te.sz xs then none else
  if te.sz=0 then none else
  match s with
  | .nil=>if xs.length=0 then some (s,H) else if roomy xs.length te.bytes then some (.ref H.bs.length H.st 0 xs.length,H.new te.sz false xs) else none
  | .e0=>if xs.length=0 then some (s,H) else if roomy xs.length te.bytes then some (.ref H.bs.length H.st 0 xs.length,H.new te.sz false xs) else none
  | .ref id ad off len=>
   match H.ap id ad with
   |none=>none
   |some b=>
    if b.sz≠te.sz then none else
    if off+len+xs.length≤b.el.length then
     some (.ref id ad off (len+xs.length),H.aZ id {b with el:=splice b.el (off+len) xs})
    else if b.fix then none
    else if off+len≤b.el.length∧roomy (len+xs.length) te.bytes then
     some (.ref id H.st 0 (len+xs.length),⟨H.st+1,H.bs.set id (some ⟨H.st,b.sz,false,aB b.el off len ++ xs⟩)⟩)
    else none
  |_=>none
def lR (te:TI) (n:Int) (H:J):Option (AV×J):=
 match iM te with
 |some z=>if 0≤n∧roomy n.toNat te.bytes∧te.sz≠0 then (if n=0 then some (.nil,H) else some (.ref H.bs.length H.st 0 n.toNat,H.new te.sz false (List.replicate n.toNat z))) else none
 |none=>none
def pr (te:TI) (d x:AV) (H:J):Option (AV×J):=
 match cC H x with
 |none=>none
 |some xs=>
  if !bD te.sz xs||te.sz==0 then none else
  match d with
  | .nil=>some (.int .i64 0,H)
  | .e0=>some (.int .i64 0,H)
  | .ref id ad off len=>
   match H.ap id ad with
   |none=>none
   |some b=>
    if b.sz=te.sz∧off+len≤b.el.length then
     some (.int .i64 (min xs.length len:Nat),H.aZ id {b with el:=splice b.el off (xs.take len)})
    else none
  |_=>none
def kS (te:TI) (d:AV) (H:J):Option (AV×J):=
 match d with
 | .nil=>some (.aD [],H)
 | .e0=>some (.aD [],H)
 | .ref id ad off len=>
  match H.ap id ad,eL te with
  |some b,some z=>
   if b.sz=te.sz∧off+len≤b.el.length∧te.sz≠0 then
    some (.aD [],H.aZ id {b with el:=splice b.el off (List.replicate len z)})
   else none
  |_,_=>none
 |_=>none
def kT:List AV→Option AV
 |[]=>none
 |x::rest=>rest.foldlM (fun a b=>match a,b with| .int k x,.int _ y=>some (.int k (if y<x then y else x))|_,_=>none) x
def kU:List AV→Option AV
 |[]=>none
 |x::rest=>rest.foldlM (fun a b=>match a,b with| .int k x,.int _ y=>some (.int k (if y>x then y else x))|_,_=>none) x
def cD (E:aK) (t:TypeId):Option TI:=
 match E t with
 |some ti=>match ti.aw with| .sl e=>E e|_=>none
 |none=>none
def aQ (E:aK) (o:Op) (s:ah) (H:J):Option (AV×J):=
 let fS (v:Option AV):Option (AV×J):=match v with|some v=>some (v,H)|none=>none
 match o with
 | .move x=>some (ev s x,H)
 | .assign x=>some (ev s x,H)
 | .pick c a b=>match ev s c with
  | .bool t=>some (if t then ev s a else ev s b,H)
  |_=>none
 | .binOp op t x y _=>match y with
  | .const _=>fS (aN E op t (ev s x) (ev s y))
  |_=>match ev s y with
   | .cB _=>none
   |y=>fS (aN E op t (ev s x) y)
 | .unOp op _ x=>fS (jZ op (ev s x))
 | .extract x i=>match ev s x with
  | .aD vs=>fS vs[i]?
  |_=>none
 | .nilCheck x=>match ev s x with
  | .ptr a b c d=>match H.ap a b with
   |some _=>some (.ptr a b c d,H)
   |none=>none
  | .fe x o=>some (.fe x o,H)
  |_=>none
 | .convert src dst x=>match E src,E dst,ev s x with
  |some _,some td,.int _ n=>match td.aw with
   | .it k=>some (.int k (k.wrap n),H)
   |_=>none
  |some _,some td,.str l=>match td.aw with
   | .str=>some (.str l,H)
   | .sl e=>match E e with
    |some te=>match te.aw with
     | .it .u8=>if te.sz=1∧te.bytes=1∧l.length≤2^45 then some (.ref H.bs.length H.st 0 l.length,H.new 1 false (l.map fun b=> .int .u8 b.toNat)) else none
     |_=>none
    |none=>none
   |_=>none
  |some ts,some td,x=>match ts.aw,td.aw with
   | .sl e,.str=>match E e with
    |some te=>match te.aw with
     | .it .u8=>match cC H x with
      |some xs=>if te.sz=1 then fS ((bytesOf xs).map .str) else none
      |none=>none
     |_=>none
    |none=>none
   |_,_=>none
  |_,_,_=>none
 | .field t x f=>match E t,ev s x with
  |some ti,.agg cs=>match ti.aw with
   | .st fs=>match fs[f]? with
    |some (o,ft)=>match E ft with
     |some tf=>fS (bY tf (.agg cs) o)
     |none=>none
    |none=>none
   |_=>none
  |_,_=>none
 | .fieldAddr t x f=>match E t with
  |some ti=>match ti.aw with
   | .st fs=>match fs[f]? with
    |some (o,ft)=>match E ft with
     |some tf=>if tf.sz=0 then none else match ev s x with
      | .ptr id ad idx off=>match H.ap id ad with
       |some _=>some (.ptr id ad idx (off+o),H)
       |none=>none
      | .fe y off=>some (.fe y (off+o),H)
      |_=>none
     |none=>none
    |none=>none
   |_=>none
  |none=>none
 | .indexAddr t x i=>match E t,ev s i with
  |some ti,.int _ n=>match ti.aw with
   | .sl e=>match E e with
    |some te=>match ev s x with
     | .fz xs=>if 0≤n then match xs[n.toNat]? with
      |some y=>if y.cells.length=te.sz then some (.fe y 0,H) else none
      |none=>none
      else none
     | .ref id ad off len=>match H.ap id ad with
      |some b=>if b.sz=te.sz∧0≤n∧n<len∧off+len≤b.el.length then some (.ptr id ad (off+n.toNat) 0,H) else none
      |none=>none
     |_=>none
    |none=>none
   | .ar m e=>match E e with
    |some te=>if 0≤n∧n<m then match ev s x with
     | .ptr id ad idx off=>match H.ap id ad with
      |some _=>some (.ptr id ad idx (off+n.toNat*te.sz),H)
      |none=>none
     | .fe y off=>some (.fe y (off+n.toNat*te.sz),H)
     |_=>none
     else none
    |none=>none
   |_=>none
  |_,_=>none
 | .index t x i=>match E t,ev s i with
  |some ti,.int _ n=>match ti.aw,ev s x with
   | .str,.str l=>if 0≤n then match l[n.toNat]? with|some b=>some (.int .u8 b.toNat,H)|none=>none else none
   | .ar m e,.agg cs=>match E e with
    |some te=>if 0≤n∧n<m then fS (bY te (.agg cs) (n.toNat*te.sz)) else none
    |none=>none
   |_,_=>none
  |_,_=>none
 | .load t x=>match E t with
  |some ti=>match ev s x with
   | .fe y off=>fS (bY ti y off)
   | .ptr id ad idx off=>match H.ap id ad with
    |some b=>match b.el[idx]? with
     |some y=>fS (bY ti y off)
     |none=>none
    |none=>none
   |_=>none
  |none=>none
 | .store t x v=>match E t with
  |some ti=>match ev s x with
   | .ptr id ad idx off=>match H.ap id ad with
    |some b=>match b.el[idx]? with
     |some y=>if (ev s v).cells.length=ti.sz∧en (ev s v) then match hG y off (ev s v) with
      |some y' =>some (.aD [],H.aZ id {b with el:=b.el.set idx y' })
      |none=>none
      else none
     |none=>none
    |none=>none
   |_=>none
  |none=>none
 | .alloc t=>match E t with
  |some ti=>match eL ti with
   |some z=>some (.ptr H.bs.length H.st 0 0,H.new ti.sz false [z])
   |none=>none
  |none=>none
 | .box t x=>match E t with
  |some ti=>if (ev s x).cells.length=ti.sz∧en (ev s x) then some (.ptr H.bs.length H.st 0 0,H.new ti.sz false [ev s x]) else none
  |none=>none
 | .build t parts=>match E t with
  |some ti=>match ti.aw with
   | .st fs=>if !(fs.all fun f=>(E f.2).isSome)|| !(ti.zero.all db) then none else fS ((gy (fun i=>match fs[i]? with|some (o,ft)=>(E ft).map fun tf=>(o,tf.sz)|none=>none) ti.zero (parts.toList.map fun p=>(p.1,ev s p.2))).map .agg)
   | .ar n e=>match E e with
    |some te=>if !(ti.zero.all db) then none else fS ((gy (fun i=>if i<n then some (i*te.sz,te.sz) else none) ti.zero (parts.toList.map fun p=>(p.1,ev s p.2))).map .agg)
    |none=>none
   |_=>none
  |none=>none
 | .buildSlice t len parts=>match cD E t with
  |some te=>if len=0 then (if parts.size=0 then some (.e0,H) else none) else
   match eL te with
   |some z=>if len*te.sz≤1000000∧te.sz≠0 then
    match jr te.sz (List.replicate len z) (parts.toList.map fun p=>(p.1,ev s p.2)) with
    |some el=>some (.ref H.bs.length H.st 0 len,H.new te.sz false el)
    |none=>none
    else none
   |none=>none
  |none=>none
 | .makeSlice t l c=>match cD E t,ev s l,ev s c with
  |some te,.int .i64 n,.int .i64 m=>
   match iM te with
   |some z=>if 0≤n∧n≤m∧roomy m.toNat te.bytes∧te.sz≠0 then some (.ref H.bs.length H.st 0 n.toNat,H.new te.sz false (List.replicate m.toNat z)) else none
   |none=>none
  |_,_,_=>none
 | .slice t x lo hi mx=>
  match eK (lo.map (ev s)),eK (hi.map (ev s)),eK (mx.map (ev s)) with
  |some lo,some hi,some mx=>fS (dR E t (ev s x) lo hi mx H)
  |_,_,_=>none
 | .makeFunc (.func f) first cap=>if first.size=0 then some (.fn f (cap.toList.map (ev s)),H) else none
 |_=>none
def cS (E:aK) (b:Builtin) (tys:Array TypeId) (args:List AV) (H:J):Option (AV×J):=
 match b,args with
 | .len,[x]=>match (tys[0]?).bind E,lenOf H x with
  |some ti,some n=>match ti.aw,x with
   | .str,.str _=>some (.int .i64 n,H)
   | .sl _,.str _=>none
   | .sl _,_=>some (.int .i64 n,H)
   |_,_=>none
  |_,_=>none
 | .append,[s,x]=>match tys[0]? with
  |some t=>match cD E t,(tys[1]?).bind E with
   |some te,some tx=>match tx.aw with
    | .it _=>match s,x with
     | .nil,.int .i64 n=>lR te n H
     |_,_=>none
    |_=>ec te s x H
   |_,_=>none
  |none=>none
 | .copy,[d,x]=>match (tys[0]?).bind (cD E) with|some te=>pr te d x H|none=>none
 | .clear,[d]=>match (tys[0]?).bind (cD E) with|some te=>kS te d H|none=>none
 | .min,xs=>match kT xs with|some v=>some (v,H)|none=>none
 | .max,xs=>match kU xs with|some v=>some (v,H)|none=>none
 | .cap,[.nil]=>match (tys[0]?).bind E with
  |some ti=>match ti.aw with
   | .sl _=>some (.int .i64 0,H)
   |_=>none
  |none=>none
 |_,_=>none
end Go.VS
namespace Go.VS
inductive Sh where
 |sc
 |sl (es:List Sh)
 |pt (es:List Sh)
 deriving Inhabited
def dS (f:AV→J→Option (AV×J)):List AV→J→Option (List AV×J)
 |[],H=>some ([],H)
 |x::xs,H=>match f x H with
  |some (y,H1)=>match dS f xs H1 with
   |some (ys,H2)=>some (y::ys,H2)
   |none=>none
  |none=>none
def dT:AV→Bool
 | .undef| .int .. | .bool _| .str _| .cB _| .eb=>true
 |_=>false
mutual
def aT:Sh→AV→J→Option (AV×J)
 | .sc,v,H=>if dT v then some (v,H) else none
 | .sl es,v,H=>match v with
  | .nil| .e0=>some (.own es.length [],H)
  | .fz xs=>some (.fz xs,H)
  | .ref id ad off len=>match H.ap id ad with
   |some b=>
    if b.sz=es.length∧off+len≤b.el.length∧(b.fix=false∨0<len) then
     match dS (a8 es) (aB b.el off len) (H.del id) with
     |some (ys,H')=>some (.own es.length ys,H')
     |none=>none
    else none
   |none=>none
  |_=>none
 | .pt es,v,H=>match v with
  | .fe x o=>some (.fe x o,H)
  | .ptr id ad 0 0=>match H.ap id ad with
   |some ⟨_,sz,_,[x]⟩=>
    match a8 es x (H.del id) with
    |some (y,H')=>some (.dQ sz y,H')
    |none=>none
   |_=>none
  |_=>none
def a8:List Sh→AV→J→Option (AV×J)
 |es,.agg cs,H=>match cE es cs H with
  |some (a7,H')=>some (.agg a7,H')
  |none=>none
 |[e],v,H=>aT e v H
 |_,_,_=>none
def cE:List Sh→List AV→J→Option (List AV×J)
 |[],[],H=>some ([],H)
 |e::es,v::vs,H=>match aT e v H with
  |some (y,H1)=>match cE es vs H1 with
   |some (ys,H2)=>some (y::ys,H2)
   |none=>none
  |none=>none
 |_,_,_=>none
end
def aY:Nat→J→AV→Option AV
 |0,_,_=>none
 |n+1,H,v=>match v with
  | .nil| .e0=>some (.fz [])
  | .ref id ad off len=>match H.ap id ad with
   |some b=>if off+len≤b.el.length then ((aB b.el off len).mapM (aY n H)).map .fz else none
   |none=>none
  | .ptr id ad idx off=>match H.ap id ad with
   |some b=>match b.el[idx]? with
    |some x=>(aY n H x).map fun y=> .fe y off
    |none=>none
   |none=>none
  | .agg xs=>(xs.mapM (aY n H)).map .agg
  | .fn f bP=>(bP.mapM (aY n H)).map (.fn f)
  | .own .. | .dQ .. | .aD _=>none
  |v=>some v
mutual
def aL:AV→J→AV×J
 | .own sz xs,H=>let (ys,H1):=aM xs H;(.ref H1.bs.length H1.st 0 ys.length,H1.new sz false ys)
 | .dQ sz x,H=>let (y,H1):=aL x H;(.ptr H1.bs.length H1.st 0 0,H1.new sz false [y])
 | .agg xs,H=>let (ys,H1):=aM xs H;(.agg ys,H1)
 | .aD xs,H=>let (ys,H1):=aM xs H;(.aD ys,H1)
 |v,H=>(v,H)
def aM:List AV→J→List AV×J
 |[],H=>([],H)
 |x::xs,H=>let (y,H1):=aL x H;let (ys,H2):=aM xs H1;(y::ys,H2)
end
mutual
def bE:AV→AV
 | .own _ xs=> .fz (bU xs)
 | .dQ _ x=> .fe (bE x) 0
 | .agg xs=> .agg (bU xs)
 | .aD xs=> .aD (bU xs)
 |v=>v
def bU:List AV→List AV
 |[]=>[]
 |x::xs=>bE x::bU xs
end
mutual
def cZ:AV→Bool
 | .fz _| .fe .. | .fn .. =>false
 | .own _ xs=>hI xs
 | .dQ _ x=>cZ x
 | .agg xs=>hI xs
 | .aD xs=>hI xs
 |_=>true
def hI:List AV→Bool
 |[]=>true
 |x::xs=>cZ x&&hI xs
end
inductive Mode where
 |val
 |fH
 |io
 deriving DecidableEq,Inhabited
structure lS where
 keep:List Nat:=[]
 trim:Bool:=false
 deriving Inhabited
structure hJ where
 D7:List Mode:=[]
 gA:List (List Sh):=[]
 bS:List (List Sh):=[]
 loops:List (Nat×lS):=[]
 blocks:List (Nat×List Nat):=[]
 pu:List (Nat×List Nat×List Nat):=[]
 gB:List (Nat×List (List Nat×List Sh)×Option (List Nat)):=[]
 fz:List (Nat×List (Nat×List (List Nat×List Sh))):=[]
 zm:List (Nat×List Nat):=[]
 hM:List (Nat×List Nat):=[]
 zn:List Nat:=[]
 deriving Inhabited
inductive AC where
 |skip
 |ret
 |exit (id:Nat)
 |seq (a b:AC)
 |cond (c:Operand) (a b:AC)
 |block (id:Nat) (keep:Option (List Nat)) (a:AC)
 |loop (sp:lS) (a:AC)
 |kV (x:Operand) (T:TypeId) (t u:Nat) (sp:lS) (a:AC)
 |region (id:Nat) (ops:Array Oper) (draw:Bool) (aG:List Nat) (hZ:List Nat) (fz:List (Nat×List (List Nat×List Sh)))
 |gB (l:List (List Nat×List Sh)) (kp:Option (List Nat))
 |bad
 deriving Inhabited
def jt (r:Option (List Nat×List Nat)) (fz:List (Nat×List (List Nat×List Sh))) (id:Nat) (ops:Array Oper) (draw:Bool):AC:=
 match r with
 |some (n,th)=> .region id ops draw n th fz
 |none=> .region id ops draw [] [] fz
def kW (l:Option (List (List Nat×List Sh)×Option (List Nat))) (c:AC):AC:=
 match l with
 |some (l,kp)=> .seq c (.gB l kp)
 |none=>c
def ni (l:Option (List Nat)) (c:AC):AC:=
 match l with
 |some kp=> .seq c (.gB [] (some kp))
 |none=>c
def zo:Operand→Nat
 | .tmp t=>t
 |_=>0
def dB (π :List Nat) (i:Nat):Nat:= π.idxOf i
def fT (π :List Nat) (o:Oper):Oper:={o with after:=(o.after.toList.filterMap fun e=>if Region.binds .any e then some {e with on:=dB π e.on} else none).toArray,guard:=o.guard.map fun p=>(dB π p.1,p.2)}
def nj (π :List Nat) (l:List Oper):List Oper:= π.map fun i=>fT π (l.getD i default)
def fp (π :List Nat) (ops:Array Oper):Array Oper:=(nj π ops.toList).toArray
def pv (π :List Nat) (ops:Array Oper):Bool:=
 π.length==ops.size&&decide π.Nodup&& π.all (· <ops.size)&&(List.range ops.size).all (π.contains ·)&&
 ops.toList.all fun o=>o.after.all (fun e=> !Region.binds .any e||decide (e.on<ops.size))&&(match o.guard with|some (j,_)=>decide (j<ops.size)|none=>true)
def gD (π :Option (List Nat)) (ops:Array Oper):Array Oper:=match π with|some π =>fp π ops|none=>ops
def cT (p:hJ):Code→Bool
 | .seq a b=>cT p a&&cT p b
 | .cond _ a b=>cT p a&&cT p b
 | .block _ a=>cT p a
 | .loop a=>cT p a
 | .region id ops draw=>match p.hM.lookup id with|some π =>draw&&pv π ops|none=>true
 |_=>true
def pw (p:hJ) (fn:Func):Bool:=match fn.body with|some c=>cT p c|none=>true
def dH (t:Nat):Code→Bool
 | .seq a b=>dH t a&&dH t b
 | .cond _ a b=>dH t a&&dH t b
 | .block _ a=>dH t a
 | .loop a=>dH t a
 | .region _ ops _=>ops.toList.all fun o=> !(o.dst==some t)
 |_=>true
def nk (ops dc:List Oper) (y:Code):Option (List Oper×Operand×TypeId×Nat×Nat×List Oper):=
 match ops.getLast?,dc with
 |some ro,no::rest=>match ro.op,ro.dst,no.op,no.dst with
  | .range T x,some t,.next (.tmp t') true,some u=>
   if (t==t' && !(u==t)&&ops.all (fun o=>o.guard.isNone)&&dc.all (fun o=>o.guard.isNone)&&rest.all (fun o=> !(o.dst==some t))&&dH t y)=true then some (ops.dropLast,x,T,t,u,rest) else none
  |_,_,_,_=>none
 |_,_=>none
def h_ (p:hJ) (x y:Code) (ax ay:AC):AC:=
 match p.zn with
 |[]=> .seq ax ay
 |ids=>match x,y,ay with
  | .region id ops false,.block _ (.loop (.seq (.region bJ dc false) (.seq y1 y2))),.block b kp (.loop sp (.seq _ c))=>
   if ids.contains id then match nk ops.toList dc.toList (.seq y1 y2) with
    |some (pre,x,T,t,u,rest)=> .seq (.region id pre.toArray false [] [] []) (.block b kp (.kV x T t u sp (.seq (.region bJ rest.toArray false [] [] []) c)))
    |none=> .seq ax ay
   else .seq ax ay
  |_,_,_=> .seq ax ay
def cN (p:hJ) (cp:Nat):Code→AC
 | .skip=> .skip
 | .ret=> .ret
 | .exit id=> .exit id
 | .seq a b=>h_ p a b (cN p cp a) (cN p cp b)
 | .cond c a b=>ni (p.zm.lookup (zo c)) (.cond c (cN p cp a) (cN p cp b))
 | .block id a=> .block id (p.blocks.lookup id) (cN p id a)
 | .loop a=> .loop ((p.loops.lookup cp).getD {}) (cN p cp a)
 | .region id ops draw=>kW (p.gB.lookup id) (jt (p.pu.lookup id) ((p.fz.lookup id).getD []) id (gD (p.hM.lookup id) ops) draw)
 |_=> .bad
abbrev bK:=FuncId→List AV→J→(AV→J→Prop)→Prop
structure aJ where
 E:aK
 fU:FuncId→hJ
 code:FuncId→Option Func
 ext:bK
def ju:List Sh→List Sh
 |[.sl es]=>es
 |[.pt es]=>es
 |_=>[]
def er:AV→Option (Nat×Nat)
 | .ref id ad _ len=>if len=0 then none else some (id,ad)
 | .ptr id ad _ _=>some (id,ad)
 |_=>none
def lT:AV→Option (Nat×Nat)
 | .ref id ad _ _=>some (id,ad)
 | .ptr id ad _ _=>some (id,ad)
 |_=>none
def fV (m:Mode) (sh:List Sh) (v:AV) (H:J):Option (AV×J):=
 match m with
 | .val=>some (v,H)
 | .fH=>a8 sh v H
 | .io=>match v with
  | .nil=>some (.own (ju sh).length [],H)
  | .e0=>some (.own (ju sh).length [],H)
  | .ref id ad off len=>match H.ap id ad with
   |some b=>if len=0 then some (.own (ju sh).length [],H) else if off=0∧len=b.el.length then a8 sh v H else none
   |none=>none
  | .ptr .. =>a8 sh v H
  |_=>none
def gE:List Mode→List (List Sh)→List AV→J→Option (List AV×J)
 |m::ms,gA,v::vs,H=>
  match fV m (gA.headD []) v H with
  |some (y,H1)=>match gE ms gA.tail vs H1 with
   |some (ys,H2)=>some (y::ys,H2)
   |none=>none
  |none=>none
 |[],_,vs,H=>some (vs,H)
 |_,_,[],H=>some ([],H)
mutual
def fI:AV→Bool
 | .ref .. | .ptr .. | .own .. | .dQ .. =>true
 | .agg xs| .aD xs| .fn _ xs=>nl xs
 |_=>false
def nl:List AV→Bool
 |[]=>false
 |x::xs=>fI x||nl xs
end
def cg:List Mode→List AV→J→Option (List AV×Bool)
 |_,[],_=>some ([],false)
 |m::ms,v::vs,H=>match m with
  | .val=>match aY 8 H v with
   |some y=>match cg ms vs H with
    |some (ys,b)=>some (y::ys,fI v||b)
    |none=>none
   |none=>none
  |_=>match cg ms vs H with
   |some (ys,b)=>some (v::ys,b)
   |none=>none
 |[],v::vs,H=>match aY 8 H v with
  |some y=>match cg [] vs H with
   |some (ys,b)=>some (y::ys,fI v||b)
   |none=>none
  |none=>none
def cO (H0:J):List Mode→List AV→J→J
 | .io::ms,v::vs,H=>cO H0 ms vs (match er v with
  |some (id,ad)=>match H0.ap id ad with
   |some b=>H.aZ id {b with el:=b.el.map fun _=> .agg (List.replicate b.sz .undef)}
   |none=>H
  |none=>H)
 |_::ms,_::vs,H=>cO H0 ms vs H
 |_,_,H=>H
def px:List Mode→List AV→List AV→J→Option J
 | .io::ms,v::vs,o::outs,H=>match er v with
  |some (id,ad)=>match o,H.ap id ad with
   | .own _ xs,some b=>
    if xs.length=b.el.length then
     px ms vs outs ((aM xs H).2.aZ id {b with el:=(aM xs H).1})
    else none
   |_,_=>none
  |none=>px ms vs outs H
 | .io::_,_::_,[],_=>none
 |_::ms,_::vs,outs,H=>px ms vs outs H
 |_,_,_,H=>some H
def dr:List (List Sh)→List AV→J→Option (List AV×J)
 |_,[],H=>some ([],H)
 |sh,v::vs,H=>match a8 (sh.headD []) v H with
  |some (y,H1)=>match dr sh.tail vs H1 with
   |some (ys,H2)=>some (y::ys,H2)
   |none=>none
  |none=>none
def ci:List AV→AV
 |[v]=>v
 |vs=> .aD vs
def dU (X:bK) (C:aJ) (f:FuncId) (args:List AV) (hZ:Bool) (H:J) (K:AV→J→Prop):Prop:=
 match cg [] args H with
 |none=>False
 |some (ys,b6)=> ∃y,X f ys ⟨0,[]⟩ (fun v L=> ∃rs zs L2,v=ci rs∧dr (C.fU f).bS rs L=some (zs,L2)∧y=ci zs)∧(b6=false∨cZ y=true)∧
  if hZ||b6 then K (aL y H).1 (aL y H).2 else K (bE y) H
def et:Op→Bool
 | .load .. | .alloc _| .box .. | .buildSlice .. | .makeSlice .. | .move _| .assign _| .pick .. | .binOp .. | .unOp .. | .extract .. | .nilCheck _| .field ..
 | .fieldAddr .. | .index .. | .indexAddr .. | .build .. | .makeFunc .. | .slice .. | .convert .. =>true
 |_=>false
def fW (b:Builtin) (args:List AV):Bool:=
 match b,args with
 | .len,_| .min,_| .max,_=>true
 | .append,.nil::_| .append,.e0::_=>true
 | .cap,_=>true
 |_,_=>false
def wpOp (X:bK) (C:aJ) (q hZ:Bool) (o:Oper) (s:ah) (H:J) (K:AV→J→Prop):Prop:=
 match o.op with
 | .call {callee:= .builtin b,args,argTypes}=>
  (q=true→fW b (args.toList.map (ev s))=true)∧
  match cS C.E b argTypes (args.toList.map (ev s)) H with
  |some (v,H')=>K v H'
  |none=>False
 | .call {callee:= .value f,args,..}=>match ev s f with
  | .fn g bP=>if q then dU X C g (args.toList.map (ev s) ++ bP) hZ H K else X g (args.toList.map (ev s) ++ bP) H K∨dU X C g (args.toList.map (ev s) ++ bP) hZ H K
  |_=>False
 |op=>(q=true→et op=true)∧match aQ C.E op s H with
  |some (v,H')=>K v H'
  |none=>False
def bw (s:ah) (d:Option Tmp) (v:AV):ah:=
 match d with
 |some t=>s.set t v
 |none=>s
def dV (ops:Array Oper) (o:Oper) (s:ah):Option Bool:=
 match o.guard with
 |none=>some true
 |some (j,want)=>match (ops[j]?).bind (·.dst) with
  |some t=>match s.getD t .undef with
   | .bool b=>some (b==want)
   | .aD _=>some false
   |_=>none
  |none=>none
def fJ (E:aK) (op:Op) (s:ah) (H:J):Option (AV×J):=
 match op with
 | .call {callee:= .builtin .len,args,argTypes}=>cS E .len argTypes (args.toList.map (ev s)) H
 | .call _=>none
 |op=>aQ E op s H
def kX (C:aJ) (ops:Array Oper) (s:ah) (H:J) (j:Nat):Prop:=
 match ops[j]? with
 |some o=>match o.dst with
  |some d=>fJ C.E o.op s H=some (s.getD d .undef,H)
  |none=>False
 |none=>False
def fX (C:aJ) (ops:Array Oper) (s:ah) (H:J) (K:Prop):List Nat→Prop
 |[]=>K
 |j::js=>kX C ops s H j∧fX C ops s H K js
def dt (X:bK) (C:aJ) (ops:Array Oper) (q:Nat→Bool) (late:Nat→List Nat) (th:List Nat) (K:ah→J→Prop):List Oper→Nat→ah→J→Prop
 |[],_,s,H=>K s H
 |o::rest,i,s,H=>
  match o.guard with
  |none=>wpOp X C (q i) (th.contains i) o s H fun v H' =>fX C ops (bw s o.dst v) H' (dt X C ops q late th K rest (i+1) (bw s o.dst v) H') (late i)
  |some _=> ∃v H',(match dV ops o s with
   |some b=>if b then wpOp X C (q i) (th.contains i) o s H (fun v1 H1=>v1=v∧H1=H') else v= .aD []∧H' =H
   |none=>False)∧fX C ops (bw s o.dst v) H' (dt X C ops q late th K rest (i+1) (bw s o.dst v) H') (late i)
inductive Ex where
 |normal
 |exit (id:Nat)
 |ret
def eu (keep:List Nat) (s:ah):ah:=go 0 s
 where
 go (i:Nat):ah→ah
  |[]=>[]
  |x::xs=>(if keep.contains i then x else .undef)::go (i+1) xs
def eZ (keep:Option (List Nat)) (s:ah):ah:=match keep with|some l=>eu l s|none=>s
def j0 (B:ah→J→(Ex→ah→J→Prop)→Prop) (next:ah→J→ah×J) (K:Ex→ah→J→Prop) (s:ah) (H:J):Prop:=
 ∀X:ah→J→Prop,(∀s H,B s H (fun e s' H' =>match e with
  | .normal=>X (next s' H').1 (next s' H').2
  |e=>K e s' H')→X s H)→X s H
def j6 (B:Nat→ah→J→(Ex→ah→J→Prop)→Prop) (lU:Nat→Nat) (next:ah→J→ah×J) (K:Ex→ah→J→Prop) (n:Nat) (s:ah) (H:J):Prop:=
 ∀X:Nat→ah→J→Prop,(∀n s H,B n s H (fun e s' H' =>match e with
  | .normal=>X (lU n) (next s' H').1 (next s' H').2
  |e=>K e s' H')→X n s H)→X n s H
def eM (l:List UInt8) (n:Nat):AV:=
 if n<l.length then .aD [.bool true,.int .i64 n,.int .i32 (Utf8.decode ⟨l.toArray⟩ n).1] else .aD [.bool false]
def j7 (l:List UInt8) (n:Nat):Nat:=if n<l.length then n+(Utf8.decode ⟨l.toArray⟩ n).2 else n
def iN:Op→Bool
 | .move _| .assign _| .pick .. | .binOp .. | .unOp .. | .extract .. | .nilCheck _| .field .. | .fieldAddr .. | .index .. | .indexAddr .. | .load .. | .slice .. =>true
 | .call {callee:= .builtin .len,..}=>true
 |_=>false
def lV:Operand→Bool
 | .const _=>true
 |_=>false
def j8:Op→Bool
 | .alloc _=>true
 | .buildSlice _ n ps=>n !=0&&ps.toList.all fun p=>lV p.2
 |_=>false
def ia:List Oper→List Nat→List Nat
 |[],acc=>acc
 |o::os,acc=>ia os (acc ++ [o.after.toList.foldl (fun m e=>if Region.binds .any e then m|||2^e.on|||acc.getD e.on 0 else m) 0])
def fY (ops:List Oper):List Nat:=ia ops []
def tmpsOf (ops:Array Oper) (o:Oper):List Tmp:=o.dst.toList ++ Oper.looksAt ops o
def jv (ops:Array Oper) (aG:List Nat):Bool:=
 let l:=ops.toList
 let bs:=fY l
 let n:=l.length
 (List.range n).all fun i=>
  match l[i]? with
  |none=>true
  |some o=>
   o.after.all (fun e=> !Region.binds .any e||decide (e.on<i))&&
   (List.range n).all fun j=>match l[j]? with
    |none=>true
    |some p=>i==j||
     ((match p.dst with
       |some d=>o.dst !=some d&&(!(Oper.looksAt ops o).contains d||(bs.getD (max i j) 0).testBit (min i j))
       |none=>true)&&
      (!(aG.contains i&&decide (i<j))||(bs.getD j 0).testBit i||(!aG.contains j&&p.guard.isNone&&j8 p.op&&p.dst.isSome))&&
      (!(aG.contains i&&decide (j<i))||(bs.getD i 0).testBit j||
       (!aG.contains j&&p.guard.isNone&&iN p.op&&p.dst.isSome&&
        (List.range n).all fun k=>match l[k]? with
         |none=>true
         |some r=>match r.dst with
          |some d=> !(decide (j≤k)&&(Oper.looksAt ops p).contains d)
          |none=>true)))
def gF (ops:Array Oper) (aG:List Nat) (i:Nat):List Nat:=
 if aG.contains i then (List.range i).filter fun j=> !((fY ops.toList).getD i 0).testBit j else []
def fq (sp:lS) (n:Nat) (s:ah) (H:J):ah×J:=
 (eu sp.keep s,if sp.trim then H.trim n else H)
def fZ:AV→AV→Bool
 | .ref a b c d,.ref a' b' c' d' =>a==a' &&b==b' &&c==c' &&d==d'
 | .nil,.nil=>true
 | .e0,.e0=>true
 |_,_=>false
def ib (x y:AV):List Nat→ah→ah
 |[],s=>s
 |t::ts,s=>ib x y ts (if fZ (s.getD t .undef) x then s.set t y else s)
def kY (t:Nat) (s:ah) (H:J):ah×J:=
 match s.getD t .undef with
 | .ref id ad _ _=>match H.ap id ad with
  |some b=>(s,H.aZ id {b with el:=b.el.map ep})
  |none=>(s,H)
 |v=>(s.set t (ep v),H)
def cw {α :Type}:List Sh→List α →List α
 | .sc::sh,_::cs=>cw sh cs
 |_::sh,c::cs=>c::cw sh cs
 |_,_=>[]
def eN:List Sh→List AV→List AV→List AV
 | .sc::sh,c::cs,ys=>c::eN sh cs ys
 |_::sh,_::cs,y::ys=>y::eN sh cs ys
 |_,_,_=>[]
def lW (sh:List Sh) (id ad:Nat) (H:J):Option J:=
 match H.ap id ad with
 |some b=>match b.el with
  |[.agg cs]=>match a8 (cw sh sh) (.agg (cw sh cs)) H with
   |some (y,H1)=>match H1.ap id ad,bE y with
    |some b1,.agg ys=>if (eN sh cs ys).length=b.sz then some (H1.aZ id {b1 with el:=[.agg (eN sh cs ys)]}) else none
    |_,_=>none
   |none=>none
  |_=>none
 |none=>none
def de:List (List Nat×List Sh)→ah→J→Option (ah×J)
 |[],s,H=>some (s,H)
 |[([],_)],_,_=>none
 |([],_)::([],_)::_,_,_=>none
 |([],_)::(t::_,sh)::l,s,H=>match s.getD t .undef with
  | .ptr id ad _ _=>match lW sh id ad H with
   |some H1=>de l s H1
   |none=>none
  |_=>none
 |(t::_,[])::l,s,H=>de l (kY t s H).1 (kY t s H).2
 |(t::ts,sh)::l,s,H=>match a8 sh (s.getD t .undef) H with
  |some (y,H1)=>de l (ib (s.getD t .undef) (bE y) ts (s.set t (bE y))) H1
  |none=>none
def c7 (X:bK) (C:aJ) (ops:Array Oper) (th:List Nat) (fz:List (Nat×List (List Nat×List Sh))) (K:ah→J→Prop):List Oper→Nat→ah→J→Prop
 |[],_,s,H=>K s H
 |o::rest,i,s0,H0=> ∃s H,de ((fz.lookup i).getD []) s0 H0=some (s,H)∧
  match o.guard with
  |none=>wpOp X C false (th.contains i) o s H fun v H' =>c7 X C ops th fz K rest (i+1) (bw s o.dst v) H'
  |some _=> ∃v H',(match dV ops o s with
   |some b=>if b then wpOp X C false (th.contains i) o s H (fun v1 H1=>v1=v∧H1=H') else v= .aD []∧H' =H
   |none=>False)∧c7 X C ops th fz K rest (i+1) (bw s o.dst v) H'
def aH (X:bK) (C:aJ):AC→ah→J→(Ex→ah→J→Prop)→Prop
 | .skip,s,H,K=>K .normal s H
 | .ret,s,H,K=>K .ret s H
 | .exit id,s,H,K=>K (.exit id) s H
 | .seq a b,s,H,K=>aH X C a s H fun e s' H' =>match e with
  | .normal=>aH X C b s' H' K
  |e=>K e s' H'
 | .cond c a b,s,H,K=>match ev s c with
  | .bool t=>if t then aH X C a s H K else aH X C b s H K
  |_=>False
 | .block id keep a,s,H,K=>aH X C a s H fun e s' H' =>match e with
  | .exit j=>if j=id then K .normal (eZ keep s') H' else K (.exit j) s' H'
  | .normal=>K .normal (eZ keep s') H'
  | .ret=>K .ret s' H'
 | .loop sp a,s,H,K=>j0 (aH X C a) (fq sp H.bs.length) K (fq sp H.bs.length s H).1 (fq sp H.bs.length s H).2
 | .kV x T t u sp a,s,H,K=>match C.E T,ev s x with
  |some ti,.str l=>ti.aw= .str∧t<s.length∧j6 (fun n s H K=>aH X C a (s.set u (eM l n)) H K) (j7 l) (fq sp H.bs.length) K 0 (fq sp H.bs.length (s.set t .undef) H).1 (fq sp H.bs.length (s.set t .undef) H).2
  |_,_=>False
 | .region _ ops true aG th _,s,H,K=>jv ops aG=true∧dt X C ops (fun i=> !aG.contains i) (gF ops aG) th (fun s H=>K .normal s H) ops.toList 0 s H
 | .region _ ops false _ th fz,s,H,K=>c7 X C ops th fz (fun s H=>K .normal s H) ops.toList 0 s H
 | .gB l kp,s,H,K=>match de l s H with
  |some (s',H')=>K .normal (eZ kp s') H'
  |none=>False
 | .bad,_,_,_=>False
def cr:List Mode→List AV→J→List AV×J
 | .io::ms,.own sz xs::vs,H=>
  let (ys,H1):=aM xs H
  let (rs,H2):=cr ms vs (H1.new sz true ys)
  (.ref H1.bs.length H1.st 0 ys.length::rs,H2)
 |m,v::vs,H=>
  let (y,H1):=aL v H
  let (rs,H2):=cr m.tail vs H1
  (y::rs,H2)
 |_,[],H=>([],H)
def f_:List Mode→List AV→J→Option (List (List AV)×J)
 | .io::ms,v::vs,H=>match lT v with
  |some (id,ad)=>match H.ap id ad with
   |some b=>match f_ ms vs (H.del id) with
    |some (r,H')=>some (b.el::r,H')
    |none=>none
   |none=>none
  |none=>none
 |_::ms,_::vs,H=>f_ ms vs H
 |_,_,H=>some ([],H)
def py:List Mode→List (List Sh)→List (List AV)→J→Option (List AV×J)
 | .io::ms,sh,l::ls,H=>match dS (a8 (ju (sh.headD []))) l H with
  |some (ys,H1)=>match py ms sh.tail ls H1 with
   |some (r,H2)=>some (.own (ju (sh.headD [])).length ys::r,H2)
   |none=>none
  |none=>none
 | .io::_,_,[],H=>some ([],H)
 |_::ms,sh,ls,H=>py ms sh.tail ls H
 |[],_,_,H=>some ([],H)
def D8 (ms:List Mode) (sh:List (List Sh)) (vs:List AV) (H:J):Option (List AV×J):=
 match f_ ms vs H with
 |some (ls,H1)=>py ms sh ls H1
 |none=>none
def ef (E:aK) (s:ah) (H:J):List ResultVar→Option (List AV)
 |[]=>some []
 | .tmp t::rs=>(ef E s H rs).map (s.getD t .undef:: ·)
 | .cell a t::rs=>match aQ E (.load t (.tmp a)) s H with
  |some (v,_)=>(ef E s H rs).map (v:: ·)
  |none=>none
def fu (E:aK) (res:List ResultVar) (K:AV→J→Prop):Ex→ah→J→Prop
 | .exit _,_,_=>False
 | .normal,s,H=> ∃rs,ef E s H res=some rs∧K (ci rs) H
 | .ret,s,H=> ∃rs,ef E s H res=some rs∧K (ci rs) H
def Body (X:bK) (C:aJ):bK:=fun f ys H K=>
 match C.code f with
 |none=>False
 |some fn=>match fn.body with
  |none=>False
  |some c=>
   aH X C (cN (C.fU f) 0 c) (ys ++ List.replicate (fn.ntmps-ys.length) .undef) H (fu C.E fn.results.toList K)
def zp (C:aJ) (X:bK):Prop:=(∀f ys H K,C.ext f ys H K→X f ys H K)∧ ∀f ys H K,Body X C f ys H K→X f ys H K
def aq (C:aJ):bK:=fun f ys H K=> ∀X:bK,zp C X→X f ys H K
end Go.VS
namespace Go.VS
inductive Loc where
 |aP
 |at_ (c b:Nat)
abbrev ag:=Nat→Option Loc
abbrev aj:=Nat→Prop
def Ow (φ :ag) (c:Nat):Prop:= ∃id b,φ id=some (.at_ c b)
def aR (w:World) (c:Nat):Nat:=match w.heap[c]? with|some (.cells arr _ _)=>arr.size|_=>0
inductive FR (w:World) (A:aj):AV→Value→Prop
 |undef (v):FR w A .undef v
 |int (k n):FR w A (.int k n) (.int k n)
 |bool (b):FR w A (.bool b) (.bool b)
 |str (s:ByteArray):FR w A (.str s.data.toList) (.string s)
 |agg (xs:List AV) (vs:Array Value):xs.length=vs.size→(∀(j:Nat) (v:Value),vs[j]? =some v→v.oneCell' =true)→(∀(i:Nat) (x:AV) (v:Value),xs[i]? =some x→vs[i]? =some v→FR w A x v)→FR w A (.agg xs) (.agg vs)
 |aD (xs:List AV) (vs:Array Value):xs.length=vs.size→(∀(i:Nat) (x:AV) (v:Value),xs[i]? =some x→vs[i]? =some v→FR w A x v)→FR w A (.aD xs) (.tuple vs)
 |nil:FR w A .nil (.slice none 0 0)
 |e0 (a):FR w A .e0 (.slice a 0 0)
 |c8 (a cap):FR w A (.fz []) (.slice a 0 cap)
 |fz (xs:List AV) (c off cap n:Nat) (arr:Array Value) (T:TypeId) (fr:Nat×Nat):w.heap[c]? =some (.cells arr T fr)→ ¬A c→xs.length≤cap→off+xs.length*n≤arr.size→
  (∀(i:Nat) (x:AV),xs[i]? =some x→x.cells.length=n)→
  (∀(j:Nat) (v:Value),j<xs.length*n→arr[off+j]? =some v→v.oneCell' =true)→
  (∀(i:Nat) (x:AV) (j:Nat) (y:AV) (v:Value),xs[i]? =some x→x.cells[j]? =some y→arr[off+i*n+j]? =some v→FR w A y v)→
  FR w A (.fz xs) (.slice (some ⟨c,off,none⟩) xs.length cap)
 |fe (x:AV) (off c o:Nat) (arr:Array Value) (T:TypeId) (fr:Nat×Nat):w.heap[c]? =some (.cells arr T fr)→ ¬A c→o+x.cells.length≤arr.size→
  (∀(j:Nat) (v:Value),j<x.cells.length→arr[o+j]? =some v→v.oneCell' =true)→
  (∀(j:Nat) (y:AV) (v:Value),x.cells[j]? =some y→arr[o+j]? =some v→FR w A y v)→
  FR w A (.fe x off) (.pointer (some ⟨c,o+off,none⟩))
 |fn (f:FuncId) (xs:List AV) (vs:Array Value):xs.length=vs.size→(∀(i:Nat) (x:AV) (v:Value),xs[i]? =some x→vs[i]? =some v→FR w A x v)→FR w A (.fn f xs) (.func (.func f) #[] vs)
 |kZ:FR w A (.cB false) .nilIface
 |err (t v):FR w A (.cB true) (.iface t v)
 |eb:FR w A .eb (.pointer none)
structure ss (w:World) (φ :ag) (b:bu) (id off len:Nat) (v:Value):Prop where
 out: ∃loc a cap,φ id=some loc∧v= .slice a len cap∧off+len≤b.el.length∧len≤cap∧b.el.length≤off+cap∧
  (match loc with
   | .aP=>b.el=[]∧(b.fix=false→cap=0)
   | .at_ c b0=>cap=0∨(a=some ⟨c,b0+off*b.sz,none⟩∧b0+(off+cap)*b.sz≤aR w c))
inductive R (w:World) (H:J) (φ :ag) (A:aj):AV→Value→Prop
 |fr (x v):FR w A x v→R w H φ A x v
 |agg (xs:List AV) (vs:Array Value):xs.length=vs.size→(∀(j:Nat) (v:Value),vs[j]? =some v→v.oneCell' =true)→(∀(i:Nat) (x:AV) (v:Value),xs[i]? =some x→vs[i]? =some v→R w H φ A x v)→R w H φ A (.agg xs) (.agg vs)
 |aD (xs:List AV) (vs:Array Value):xs.length=vs.size→(∀(i:Nat) (x:AV) (v:Value),xs[i]? =some x→vs[i]? =some v→R w H φ A x v)→R w H φ A (.aD xs) (.tuple vs)
 |fn (f:FuncId) (xs:List AV) (vs:Array Value):xs.length=vs.size→(∀(i:Nat) (x:AV) (v:Value),xs[i]? =some x→vs[i]? =some v→R w H φ A x v)→R w H φ A (.fn f xs) (.func (.func f) #[] vs)
 |ref (id ad off len:Nat) (v:Value):ad<H.st→(∃a c,v= .slice a len c)→(∀b,H.ap id ad=some b→ss w φ b id off len v)→R w H φ A (.ref id ad off len) v
 |ptr (id ad idx off:Nat) (v:Value):ad<H.st→(∃a,v= .pointer a)→(∀b,H.ap id ad=some b→ ∃c b0,φ id=some (.at_ c b0)∧v= .pointer (some ⟨c,b0+idx*b.sz+off,none⟩))→
  R w H φ A (.ptr id ad idx off) v
def pad (sz:Nat):Nat:=if sz=1 then 0 else 1
structure su (w:World) (H:J) (φ :ag) (A:aj) (b:bu) (loc:Loc):Prop where
 ad:b.ad<H.st
 sized: ∀(i:Nat) (x:AV),b.el[i]? =some x→x.cells.length=b.sz
 aP:loc= .aP→b.el=[]
 here: ∀c b0,loc= .at_ c b0→ ∃arr T fr,w.heap[c]? =some (.cells arr T fr)∧(∀j,j<arr.size+pad b.sz→ ¬(fr.1≤j∧j<fr.2))∧b0+b.el.length*b.sz≤arr.size∧
  ∀(i:Nat) (x:AV) (j:Nat) (y:AV) (v:Value),b.el[i]? =some x→x.cells[j]? =some y→arr[b0+i*b.sz+j]? =some v→R w H φ A y v∧v.oneCell' =true
structure St (w:World) (H:J) (φ :ag) (A:aj):Prop where
 inj: ∀id e8 c b b',φ id=some (.at_ c b)→ φ e8=some (.at_ c b')→id=e8
 own: ∀c,Ow φ c→A c
 b7: ∀c,A c→c<w.heap.size
 ap: ∀id loc,φ id=some loc→ ∃b,H.get id=some b∧su w H φ A b loc
structure ga (w:World) (φ :ag) (w' :World) (ak:ag):Prop where
 os:w'.os=w.os
 tape:w'.tape=w.tape
 output:w'.output=w.output
 size:w.heap.size≤w'.heap.size
 kept: ∀c,c<w.heap.size→ ¬Ow φ c→w'.heap[c]? =w.heap[c]?
 aR: ∀c,c<w.heap.size→aR w' c=aR w c
 own: ∀c,Ow ak c→Ow φ c∨w.heap.size≤c
theorem ga.refl (w:World) (φ :ag):ga w φ w φ :=⟨rfl,rfl,rfl,Nat.le_refl _,fun _ _ _=>rfl,fun _ _=>rfl,fun _ h=> .inl h⟩
theorem ga.trans {w w1 w2:World} {φ φ1 bf:ag} (h:ga w φ w1 φ1) (k:ga w1 φ1 w2 bf):ga w φ w2 bf where
 os:=k.os.trans h.os
 tape:=k.tape.trans h.tape
 output:=k.output.trans h.output
 size:=Nat.le_trans h.size k.size
 kept c hc hn:=by
  rw [k.kept c (Nat.lt_of_lt_of_le hc h.size) (fun ho=>by rcases h.own c ho with h1|h1;exact hn h1;omega)]
  exact h.kept c hc hn
 aR c hc:=(k.aR c (Nat.lt_of_lt_of_le hc h.size)).trans (h.aR c hc)
 own c hc:=by
  rcases k.own c hc with h1|h1
  ·exact h.own c h1
  ·exact .inr (Nat.le_trans h.size h1)
theorem J.bd {H:J} {id ad:Nat} {b:bu} (h:H.ap id ad=some b):H.get id=some b∧b.ad=ad:=by
 unfold J.ap at h;unfold J.get;split at h
 ·rename_i b' hb
  split at h
  ·simp at h;subst h;simp [*]
  ·simp at h
 ·simp at h
theorem J.ic {H:J} {id:Nat} {b:bu} (h:H.get id=some b):H.ap id b.ad=some b:=by
 unfold J.get at h;unfold J.ap;cases hb:H.bs[id]? with
 |none=>simp [hb] at h
 |some o=>cases o with
  |none=>simp [hb] at h
  |some b' =>simp [hb] at h;subst h;simp
theorem J.gb {H:J} {id:Nat} {b:bu} (h:H.get id=some b):id<H.bs.length:=by
 unfold J.get at h;cases hb:H.bs[id]? with
 |none=>simp [hb] at h
 |some o=>exact (List.getElem?_eq_some_iff.1 hb).1
theorem FR.mono {w w' :World} {A A' :aj} (hk: ∀c arr T fr,w.heap[c]? =some (.cells arr T fr)→ ¬A c→(∃dW,w'.heap[c]? =some (.cells arr T dW))∧ ¬A' c)
 {x:AV} {v:Value} (h:FR w A x v):FR w' A' x v:=by
 induction h with
 |undef v=>exact .undef v
 |int k n=>exact .int k n
 |bool b=>exact .bool b
 |str s=>exact .str s
 |agg xs vs hl ho _ ih=>exact .agg xs vs hl ho ih
 |aD xs vs hl _ ih=>exact .aD xs vs hl ih
 |nil=>exact .nil
 |e0 a=>exact .e0 a
 |c8 a cap=>exact .c8 a cap
 |fz xs c off cap n arr T fr hc hA gd aC hn ho _ ih=>obtain ⟨⟨dW,h1⟩,h2⟩:=hk c arr T fr hc hA;exact .fz xs c off cap n arr T dW h1 h2 gd aC hn ho ih
 |fe x off c o arr T fr hc hA aC ho _ ih=>obtain ⟨⟨dW,h1⟩,h2⟩:=hk c arr T fr hc hA;exact .fe x off c o arr T dW h1 h2 aC ho ih
 |fn f xs vs hl _ ih=>exact .fn f xs vs hl ih
 |kZ=>exact .kZ
 |err t v=>exact .err t v
 |eb=>exact .eb
theorem FR.shrink {w:World} {A A' :aj} (hA: ∀c,A' c→A c) {x:AV} {v:Value} (h:FR w A x v):FR w A' x v:=
 h.mono fun c _arr _T fr hc hn=>⟨⟨fr,hc⟩,fun eg=>hn (hA c eg)⟩
structure bM (w:World) (H:J) (φ :ag) (A:aj) (w' :World) (H' :J) (ak:ag) (A' :aj):Prop where
 fz: ∀c arr T fr,w.heap[c]? =some (.cells arr T fr)→ ¬A c→(∃dW,w'.heap[c]? =some (.cells arr T dW))∧ ¬A' c
 st:H.st≤H'.st
 ids: ∀id b',H'.get id=some b' →b'.ad<H.st→ ∃b,H.get id=some b∧b.ad=b'.ad∧b'.sz=b.sz∧b'.fix=b.fix∧b'.el.length=b.el.length∧
  ∀loc,φ id=some loc→ak id=some loc
 sz: ∀c,Ow φ c→aR w' c=aR w c
theorem bM.refl (w:World) (H:J) (φ :ag) (A:aj):bM w H φ A w H φ A:=
 ⟨fun _c _arr _T fr h hn=>⟨⟨fr,h⟩,hn⟩,Nat.le_refl _,fun _id b h _=>⟨b,h,rfl,rfl,rfl,rfl,fun _ h=>h⟩,fun _ _=>rfl⟩
theorem R.mono {w w' :World} {H H' :J} {φ ak:ag} {A A' :aj} (e:bM w H φ A w' H' ak A') {x:AV} {v:Value} (h:R w H φ A x v):R w' H' ak A' x v:=by
 induction h with
 |fr x v h=>exact .fr x v (h.mono e.fz)
 |agg xs vs hl ho _ ih=>exact .agg xs vs hl ho ih
 |aD xs vs hl _ ih=>exact .aD xs vs hl ih
 |fn f xs vs hl _ ih=>exact .fn f xs vs hl ih
 |ref id ad off len v hv e9 hb=>
  refine .ref id ad off len v (Nat.lt_of_lt_of_le hv e.st) e9 fun b' au=> ?_
  obtain ⟨hg,bN⟩:=J.bd au;obtain ⟨b,pz,gG,hs,hf,hl,aV⟩:=e.ids id b' hg (by omega)
  have a_:H.ap id ad=some b:=by have:=J.ic pz;rw [gG,bN] at this;exact this
  obtain ⟨loc,a,cap,h1,h2,h3,h4,h5,h6⟩:=(hb b a_).out;refine ⟨loc,a,cap,aV loc h1,h2,by omega,h4,by omega,?_⟩
  cases loc with
  |aP=>simp only at h6⊢;exact ⟨List.eq_nil_of_length_eq_zero (by rw [hl,h6.1];rfl),fun h=>h6.2 (by rw [←hf];exact h)⟩
  |at_ c b0=>
   simp only at h6⊢;rw [hs,e.sz c ⟨id,b0,h1⟩];exact h6
 |ptr id ad idx off v hv e9 hb=>
  refine .ptr id ad idx off v (Nat.lt_of_lt_of_le hv e.st) e9 fun b' au=> ?_
  obtain ⟨hg,bN⟩:=J.bd au;obtain ⟨b,pz,gG,hs,_,_,aV⟩:=e.ids id b' hg (by omega)
  have a_:H.ap id ad=some b:=by have:=J.ic pz;rw [gG,bN] at this;exact this
  obtain ⟨c,b0,h1,h2⟩:=hb b a_;exact ⟨c,b0,aV _ h1,by rw [hs];exact h2⟩
theorem bM.trans {w w1 w2:World} {H H1 H2:J} {φ φ1 bf:ag} {A A1 A2:aj} (h:bM w H φ A w1 H1 φ1 A1) (k:bM w1 H1 φ1 A1 w2 H2 bf A2)
 (ae: ∀c,Ow φ c→aR w2 c=aR w c):bM w H φ A w2 H2 bf A2 where
 fz c arr T fr hc hn:=by
  obtain ⟨⟨zq,h1⟩,h2⟩:=h.fz c arr T fr hc hn;exact k.fz c arr T zq h1 h2
 st:=Nat.le_trans h.st k.st
 ids id b2 hg hv:=by
  obtain ⟨b1,g1,e1,e2,e3,e4,e5⟩:=k.ids id b2 hg (Nat.lt_of_lt_of_le hv h.st);obtain ⟨b,g,f1,f2,f3,f4,f5⟩:=h.ids id b1 g1 (by omega)
  exact ⟨b,g,f1.trans e1,e2.trans f2,e3.trans f3,e4.trans f4,fun loc hl=>e5 loc (f5 loc hl)⟩
 sz:=ae
section inv
variable {w:World} {H:J} {φ :ag} {A:aj}
theorem R.ct {k:IntKind} {n:Int} {v:Value} (h:R w H φ A (.int k n) v):v= .int k n:=by cases h with|fr _ _ h=>cases h;rfl
theorem R.fK {b:Bool} {v:Value} (h:R w H φ A (.bool b) v):v= .bool b:=by cases h with|fr _ _ h=>cases h;rfl
theorem R.fb {s:List UInt8} {v:Value} (h:R w H φ A (.str s) v): ∃b:ByteArray,v= .string b∧b.data.toList=s:=by
 cases h with|fr _ _ h=>cases h with|str s=>exact ⟨s,rfl,rfl⟩
theorem R.gH {xs:List AV} {v:Value} (h:R w H φ A (.agg xs) v): ∃vs:Array Value,v= .agg vs∧xs.length=vs.size∧(∀(j:Nat) (v:Value),vs[j]? =some v→v.oneCell' =true)∧ ∀(i:Nat) (x:AV) (v:Value),xs[i]? =some x→vs[i]? =some v→R w H φ A x v:=by
 cases h with
 |fr _ _ h=>cases h with|agg xs vs hl ho h=>exact ⟨vs,rfl,hl,ho,fun i x v hx hv=> .fr _ _ (h i x v hx hv)⟩
 |agg xs vs hl ho h=>exact ⟨vs,rfl,hl,ho,h⟩
theorem R.nn {xs:List AV} {v:Value} (h:R w H φ A (.aD xs) v): ∃vs:Array Value,v= .tuple vs∧xs.length=vs.size∧ ∀(i:Nat) (x:AV) (v:Value),xs[i]? =some x→vs[i]? =some v→R w H φ A x v:=by
 cases h with
 |fr _ _ h=>cases h with|aD xs vs hl h=>exact ⟨vs,rfl,hl,fun i x v hx hv=> .fr _ _ (h i x v hx hv)⟩
 |aD xs vs hl h=>exact ⟨vs,rfl,hl,h⟩
theorem R.lX {f:FuncId} {xs:List AV} {v:Value} (h:R w H φ A (.fn f xs) v):
 ∃vs:Array Value,v= .func (.func f) #[] vs∧xs.length=vs.size∧ ∀(i:Nat) (x:AV) (v:Value),xs[i]? =some x→vs[i]? =some v→R w H φ A x v:=by
 cases h with
 |fr _ _ h=>cases h with|fn f xs vs hl h=>exact ⟨vs,rfl,hl,fun i x v hx hv=> .fr _ _ (h i x v hx hv)⟩
 |fn f xs vs hl h=>exact ⟨vs,rfl,hl,h⟩
theorem R.ei {xs:List AV} {v:Value} (h:R w H φ A (.fz xs) v):FR w A (.fz xs) v:=by cases h with|fr _ _ h=>exact h
theorem R.fw {x:AV} {o:Nat} {v:Value} (h:R w H φ A (.fe x o) v):FR w A (.fe x o) v:=by cases h with|fr _ _ h=>exact h
theorem R.du {v:Value} (h:R w H φ A .nil v):v= .slice none 0 0:=by cases h with|fr _ _ h=>cases h;rfl
theorem R.fc {v:Value} (h:R w H φ A .e0 v): ∃a,v= .slice a 0 0:=by cases h with|fr _ _ h=>cases h with|e0 a=>exact ⟨a,rfl⟩
theorem R.dC {id ad off len:Nat} {v:Value} (h:R w H φ A (.ref id ad off len) v):ad<H.st∧(∃a c,v= .slice a len c)∧ ∀b,H.ap id ad=some b→ss w φ b id off len v:=by
 cases h with
 |fr _ _ h=>cases h
 |ref _ _ _ _ _ h1 h0 h2=>exact ⟨h1,h0,h2⟩
theorem R.gf {id ad idx off:Nat} {v:Value} (h:R w H φ A (.ptr id ad idx off) v):
 ad<H.st∧(∃a,v= .pointer a)∧ ∀b,H.ap id ad=some b→ ∃c b0,φ id=some (.at_ c b0)∧v= .pointer (some ⟨c,b0+idx*b.sz+off,none⟩):=by
 cases h with
 |fr _ _ h=>cases h
 |ptr _ _ _ _ _ h1 h0 h2=>exact ⟨h1,h0,h2⟩
theorem R.zr {sz:Nat} {xs:List AV} {v:Value} (h:R w H φ A (.own sz xs) v):False:=by cases h with|fr _ _ h=>cases h
theorem R.zt {sz:Nat} {x:AV} {v:Value} (h:R w H φ A (.dQ sz x) v):False:=by cases h with|fr _ _ h=>cases h
theorem R.k_ {b:Bool} {v:Value} (h:R w H φ A (.cB b) v):(b=false∧v= .nilIface)∨(b=true∧ ∃t u,v= .iface t u):=by
 cases h with|fr _ _ h=>cases h with
  |kZ=>exact .inl ⟨rfl,rfl⟩
  |err t u=>exact .inr ⟨rfl,t,u,rfl⟩
theorem R.cells {x:AV} {v:Value} (h:R w H φ A x v) (hx:x≠ .undef):x.cells.length=v.cells.size∧ ∀(j:Nat) (y:AV) (u:Value),x.cells[j]? =some y→v.cells[j]? =some u→R w H φ A y u:=by
 have single: ∀{x:AV} {v:Value},R w H φ A x v→x.cells=[x]→v.cells= #[v]→
  x.cells.length=v.cells.size∧ ∀(j:Nat) (y:AV) (u:Value),x.cells[j]? =some y→v.cells[j]? =some u→R w H φ A y u:=by
  intro x v h h1 h2;rw [h1,h2];refine ⟨rfl,fun j y u hy hu=> ?_⟩;cases j with
  |zero=>simp at hy hu;subst hy;subst hu;exact h
  |succ j=>simp at hy
 cases x with
 |undef=>exact absurd rfl hx
 |agg xs=>obtain ⟨vs,rfl,hl,_,hp⟩:=h.gH;exact ⟨hl,hp⟩
 |int k n=>have:=h.ct;subst this;exact single h rfl rfl
 |bool b=>have:=h.fK;subst this;exact single h rfl rfl
 |str s=>obtain ⟨b,rfl,_⟩:=h.fb;exact single h rfl rfl
 |aD xs=>obtain ⟨vs,rfl,_⟩:=h.nn;exact single h rfl rfl
 |nil=>have:=h.du;subst this;exact single h rfl rfl
 |e0=>obtain ⟨a,rfl⟩:=h.fc;exact single h rfl rfl
 |fz xs=>have:=h.ei;cases this<;>exact single h rfl rfl
 |fe x o=>have:=h.fw;cases this;exact single h rfl rfl
 |fn f xs=>obtain ⟨vs,rfl,_⟩:=h.lX;exact single h rfl rfl
 |cB b=>rcases h.k_ with ⟨rfl,rfl⟩|⟨rfl,t,u,rfl⟩<;>exact single h rfl rfl
 |eb=>cases h with|fr _ _ h=>cases h;exact single (.fr _ _ .eb) rfl rfl
 |own sz xs=>exact h.zr.elim
 |dQ sz x=>exact h.zt.elim
 |ref id ad off len=>obtain ⟨_,⟨a,c,rfl⟩,_⟩:=h.dC;exact single h rfl rfl
 |ptr id ad idx off=>obtain ⟨_,⟨a,rfl⟩,_⟩:=h.gf;exact single h rfl rfl
theorem R.sw {x:AV} {v:Value} (h:R w H φ A x v) (hx:db x=true):v.oneCell' =true:=by
 cases x with
 |undef=>simp [db] at hx
 |agg xs=>simp [db] at hx
 |aD xs=>simp [db] at hx
 |own sz xs=>simp [db] at hx
 |dQ sz x=>simp [db] at hx
 |int k n=>have:=h.ct;subst this;rfl
 |bool b=>have:=h.fK;subst this;rfl
 |str s=>obtain ⟨b,rfl,_⟩:=h.fb;rfl
 |nil=>have:=h.du;subst this;rfl
 |e0=>obtain ⟨a,rfl⟩:=h.fc;rfl
 |fz xs=>have:=h.ei;cases this<;>rfl
 |fe x o=>have:=h.fw;cases this;rfl
 |fn f xs=>obtain ⟨vs,rfl,_⟩:=h.lX;rfl
 |cB b=>rcases h.k_ with ⟨rfl,rfl⟩|⟨rfl,t,u,rfl⟩<;>rfl
 |eb=>cases h with|fr _ _ h=>cases h;rfl
 |ref id ad off len=>obtain ⟨_,⟨a,c,rfl⟩,_⟩:=h.dC;rfl
 |ptr id ad idx off=>obtain ⟨_,⟨a,rfl⟩,_⟩:=h.gf;rfl
theorem R.np {x:AV} {v:Value} (h:R w H φ A x v) (hx:en x=true): ∀(j:Nat) (u:Value),v.cells[j]? =some u→u.oneCell' =true:=by
 cases x with
 |agg xs=>obtain ⟨vs,rfl,_,ho,_⟩:=h.gH;exact ho
 |_=>
  intro j u hu;have h1:=h.sw (by simpa [en] using hx)
  have:v.cells= #[v]:=by cases v<;>first|rfl|simp [Value.oneCell'] at h1
  rw [this] at hu;cases j with
  |zero=>simp at hu;subst hu;exact h1
  |succ j=>simp at hu
end inv
end Go.VS
namespace Go.VS
def nq:TypeDesc→Bool
 | .struct _| .array _ _=>true
 |_=>false
def dX:Value→Bool
 | .agg _=>true
 |_=>false
def fy:TypeDesc→UD
 | .slice e=> .sl e
 | .struct fs=>if fs.toList.any (·.name== "_") then .ot else .st (fs.toList.map fun f=>(f.offset,f.type))
 | .array n e=> .ar n e
 | .string=> .str
 | .int k=> .it k
 | .bool=> .bl
 | .interface _=> .pq
 | .pointer _=> .pt
 |_=> .ot
def sx (P:Program) (t:TypeId):Option TI:=
 match P.info? t,P.underlying t with
 |some i,some d=>match i.zero with
  |some z=>
   if z.cells.size==i.size&&nq d==dX z&&z.cells.toList.all (·.oneCell') then
    some {sz:=i.size,agg:=nq d,zero:=z.cells.toList.map ofValue,bytes:=i.bytes,aw:=fy d,lP:= !(P.stoodInHeld t)&& !(P.eqGuardType P.depth t)}
   else none
  |none=>none
 |_,_=>none
structure aU (P:Program) (t:TypeId) (ti:TI):Prop where
 out: ∃i d z,P.info? t=some i∧P.underlying t=some d∧i.zero=some z∧i.size=ti.sz∧i.bytes=ti.bytes∧z.cells.size=ti.sz∧
  nq d=ti.agg∧dX z=ti.agg∧(∀(j:Nat) (v:Value),z.cells[j]? =some v→v.oneCell' =true)∧ti.zero=z.cells.toList.map ofValue∧fy d=ti.aw∧
  (ti.lP=true→P.stoodInHeld t=false∧P.eqGuardType P.depth t=false)
theorem D9 {P:Program} {t:TypeId} {ti:TI} (h:sx P t=some ti):aU P t ti:=by
 unfold sx at h;split at h
 ·rename_i i d hi hd;split at h
  ·rename_i z hz;split at h
   ·rename_i hc;simp only [Bool.and_eq_true,beq_iff_eq,List.all_eq_true] at hc;simp only [Option.some.injEq] at h;subst h;refine ⟨i,d,z,hi,hd,hz,rfl,rfl,hc.1.1,rfl,hc.1.2.symm,fun j v hv=>hc.2 v ?_,rfl,rfl,fun he=>by simpa using he⟩
    exact Array.mem_toList_iff.2 (Array.mem_of_getElem? hv)
   ·simp at h
  ·simp at h
 ·simp at h
section types
variable {P:Program} {t:TypeId} {ti:TI} (h:aU P t ti) (w:World)
include h
theorem aU.sizeOf:(sizeOf t).run P w= .ok ti.sz w:=by
 obtain ⟨i,d,z,hi,_,_,hs,_⟩:=h.out;simp [Go.sizeOf,typeInfo,hi,hs]
theorem aU.isAgg:(isAgg t).run P w= .ok ti.agg w:=by
 obtain ⟨i,d,z,_,hd,_,_,_,_,ha,_⟩:=h.out;simp only [Go.isAgg,Sem.run_bind,run_underlying hd,Result.andThen_ok];rw [←ha];cases d<;>rfl
theorem aU.zeroValue: ∃z,(zeroValue t).run P w= .ok z w∧z.cells.size=ti.sz∧dX z=ti.agg∧(∀(j:Nat) (v:Value),z.cells[j]? =some v→v.oneCell' =true)∧ti.zero=z.cells.toList.map ofValue:=by
 obtain ⟨i,d,z,hi,_,hz,_,_,h1,_,h2,h3,h4,_⟩:=h.out;exact ⟨z,by simp [Go.zeroValue,typeInfo,hi,hz],h1,h2,h3,h4⟩
theorem aU.typeInfo: ∃i,(typeInfo t).run P w= .ok i w∧i.bytes=ti.bytes∧i.size=ti.sz:=by
 obtain ⟨i,d,z,hi,_,_,hs,hb,_⟩:=h.out;exact ⟨i,by simp [Go.typeInfo,hi],hb,hs⟩
theorem aU.sl {e:TypeId} (hu:ti.aw= .sl e):(underlying t).run P w= .ok (.slice e) w:=by
 obtain ⟨i,d,z,_,hd,_,_,_,_,_,_,_,_,bm,_⟩:=h.out;rw [run_underlying hd];rw [hu] at bm;cases d<;>simp [fy] at bm
 ·subst bm;rfl
 ·split at bm<;>simp at bm
theorem aU.jw (hu:ti.aw= .str):(underlying t).run P w= .ok .string w:=by
 obtain ⟨i,d,z,_,hd,_,_,_,_,_,_,_,_,bm,_⟩:=h.out;rw [run_underlying hd];rw [hu] at bm;cases d<;>simp [fy] at bm
 ·rfl
 ·split at bm<;>simp at bm
theorem aU.lY {k:IntKind} (hu:ti.aw= .it k):(underlying t).run P w= .ok (.int k) w:=by
 obtain ⟨i,d,z,_,hd,_,_,_,_,_,_,_,_,bm,_⟩:=h.out;rw [run_underlying hd];rw [hu] at bm;cases d<;>simp [fy] at bm
 ·subst bm;rfl
 ·split at bm<;>simp at bm
theorem aU.pA (hu:ti.aw= .bl):(underlying t).run P w= .ok .bool w:=by
 obtain ⟨i,d,z,_,hd,_,_,_,_,_,_,_,_,bm,_⟩:=h.out;rw [run_underlying hd];rw [hu] at bm;cases d<;>simp [fy] at bm
 ·rfl
 ·split at bm<;>simp at bm
theorem aU.zu (hu:ti.aw= .pq): ∃ms,(underlying t).run P w= .ok (.interface ms) w:=by
 obtain ⟨i,d,z,_,hd,_,_,_,_,_,_,_,_,bm,_⟩:=h.out;rw [run_underlying hd];rw [hu] at bm;cases d<;>simp [fy] at bm
 ·split at bm<;>simp at bm
 ·exact ⟨_,rfl⟩
theorem aU.pB {n:Nat} {e:TypeId} (hu:ti.aw= .ar n e):(underlying t).run P w= .ok (.array n e) w:=by
 obtain ⟨i,d,z,_,hd,_,_,_,_,_,_,_,_,bm,_⟩:=h.out;rw [run_underlying hd];rw [hu] at bm;cases d<;>simp [fy] at bm
 ·obtain ⟨rfl,rfl⟩:=bm;rfl
 ·split at bm<;>simp at bm
theorem aU.lZ {fs:List (Nat×TypeId)} (hu:ti.aw= .st fs): ∃gs:Array Field,(underlying t).run P w= .ok (.struct gs) w∧fs=gs.toList.map (fun f=>(f.offset,f.type))∧(∀f∈gs.toList,f.name≠ "_")∧P.underlying t=some (.struct gs):=by
 obtain ⟨i,d,z,_,hd,_,_,_,_,_,_,_,_,bm,_⟩:=h.out;rw [run_underlying hd];rw [hu] at bm;cases d with
 |struct gs=>
  simp only [fy] at bm;split at bm
  ·simp at bm
  ·rename_i hn;simp only [UD.st.injEq] at bm;refine ⟨gs,rfl,bm.symm,fun f hf l4=>hn ?_,hd⟩;exact List.any_eq_true.2 ⟨f,hf,by simp [l4]⟩
 |_=>simp [fy] at bm
end types
theorem FR.ofValue (w:World) (A:aj) (v:Value):FR w A (ofValue v) v:=by
 cases v with
 |int k n=>exact .int k n
 |bool b=>exact .bool b
 |string s=>exact .str s
 |slice a l c=>
  cases a with
  |some a=>exact .undef _
  |none=>cases l with
   |zero=>cases c with
    |zero=>exact .nil
    |succ c=>exact .undef _
   |succ l=>exact .undef _
 |nilIface=>exact .kZ
 |pointer a=>cases a with
  |none=>exact .eb
  |some a=>exact .undef _
 |_=>exact .undef _
structure SF (w:World) (H:J) (φ :ag) (A:aj) (s:ah) (a:Act):Prop where
 len:s.length=a.tmps.size
 val: ∀(t:Nat) (x:AV) (v:Value),s[t]? =some x→a.tmps[t]? =some v→R w H φ A x v
 fA:a.defers=[]
theorem SF.ev {w:World} {H:J} {φ :ag} {A:aj} {s:ah} {a:Act} (h:SF w H φ A s a) (x:Operand):R w H φ A (ev s x) (a.eval x):=by
 cases x with
 |tmp t=>
  simp only [VS.ev,Act.eval,List.getD,Array.getD_eq_getD_getElem?];cases hs:s[t]? with
  |none=>exact .fr _ _ (.undef _)
  |some x=>
   have ht:t<a.tmps.size:=by rw [←h.len];exact (List.getElem?_eq_some_iff.1 hs).1
   simp only [Array.getElem?_eq_getElem ht,Option.getD_some];exact h.val t x _ hs (Array.getElem?_eq_getElem ht)
 |const v=>exact .fr _ _ (FR.ofValue w A v)
 |global g=>exact .fr _ _ (.undef _)
 |func f=>exact .fr _ _ (.fn f [] #[] rfl (by simp))
theorem SF.mono {w w' :World} {H H' :J} {φ ak:ag} {A A' :aj} {s:ah} {a:Act} (e:bM w H φ A w' H' ak A') (h:SF w H φ A s a):SF w' H' ak A' s a:=
 ⟨h.len,fun t x v hx hv=>(h.val t x v hx hv).mono e,h.fA⟩
theorem SF.set {w:World} {H:J} {φ :ag} {A:aj} {s:ah} {a:Act} (h:SF w H φ A s a) (d:Option Tmp) {x:AV} {v:Value} (hx:R w H φ A x v):SF w H φ A (bw s d x) (a.put d v):=by
 cases d with
 |none=>exact h
 |some d=>
  refine ⟨by simp [bw,Act.put,h.len],fun t y u hy hu=> ?_,h.fA⟩
  simp only [bw,Act.put,List.getElem?_set,Array.getElem?_setIfInBounds] at hy hu;by_cases hd:d=t
  ·subst hd;simp only [if_true] at hy hu;split at hy
   ·split at hu
    ·simp at hy hu;subst hy;subst hu;exact hx
    ·simp at hu
   ·simp at hy
  ·simp only [hd,if_false] at hy hu;exact h.val t y u hy hu
theorem nr {w:World} {c:Nat} {arr:Array Value} {T:TypeId} {fr:Nat×Nat} (h:w.heap[c]? =some (.cells arr T fr)) (p:Nat):w.cell? ⟨c,p,none⟩=arr[p]? :=by
 simp [World.cell?,h]
theorem ie (c o n:Nat):(Addr.mk c o none).add n=⟨c,o+n,none⟩:=by
 unfold Addr.add;split
 ·rename_i h;subst h;rfl
 ·rfl
theorem l5 (P:Program) {w:World} {c:Nat} {arr:Array Value} {T:TypeId} {fr:Nat×Nat} (h:w.heap[c]? =some (.cells arr T fr)) (p n:Nat) (hn:p+n≤arr.size):
 (loadCells ⟨c,p,none⟩ n).run P w= .ok (arr.extract p (p+n)) w:=by
 rw [run_loadCells w ⟨c,p,none⟩ n (fun j=>arr.getD (p+j) undef) (fun j hj=>by
  rw [ie,nr h,Array.getD_eq_getD_getElem?];simp [Array.getElem?_eq_getElem (show p+j<arr.size by omega)])]
 congr 1;apply Array.ext
 ·simp;omega
 ·intro i h1 h2;simp at h1;simp [Array.getElem?_eq_getElem (show p+i<arr.size by omega)]
theorem zw {P:Program} {t:TypeId} {ti:TI} (ht:aU P t ti) {w:World} {c:Nat} {arr:Array Value} {T:TypeId} {fr:Nat×Nat}
 (h:w.heap[c]? =some (.cells arr T fr)) {p:Nat} (hp:p+ti.sz≤arr.size) (h1:ti.agg=false→ti.sz=1):
 ∃v,(loadVar t ⟨c,p,none⟩).run P w= .ok v w∧(ti.agg=true→v= .agg (arr.extract p (p+ti.sz)))∧(ti.agg=false→arr[p]? =some v):=by
 unfold loadVar;simp only [Sem.run_bind,ht.isAgg,Result.andThen_ok];cases ha:ti.agg with
 |true=>
  refine ⟨.agg (arr.extract p (p+ti.sz)),?_,fun _=>rfl,by simp⟩
  simp [ht.sizeOf,l5 P h p ti.sz hp]
 |false=>
  have:=h1 ha;have az:p<arr.size:=by omega
  refine ⟨arr[p],?_,by simp,fun _=>Array.getElem?_eq_getElem az⟩
  simp [nr h,Array.getElem?_eq_getElem az]
theorem l6 {agg:Bool} {cs:List AV} {y:AV} (h:kR agg cs=some y):(agg=true∧y= .agg cs)∨(agg=false∧cs=[y]):=by
 cases agg with
 |true=>simp [kR] at h;exact .inl ⟨rfl,h.symm⟩
 |false=>
  simp only [kR,Bool.false_eq_true,if_false] at h;split at h
  ·simp only [Option.some.injEq] at h;subst h;exact .inr ⟨rfl,rfl⟩
  ·simp at h
theorem sy {P:Program} {t:TypeId} {ti:TI} (ht:aU P t ti) {w:World} {c:Nat} {arr:Array Value} {T:TypeId} {fr:Nat×Nat}
 (h:w.heap[c]? =some (.cells arr T fr)) {x y:AV} {off o:Nat} (hr:bY ti x off=some y) (ho:o+x.cells.length≤arr.size)
 {H:J} {φ :ag} {A:aj} (hx: ∀(j:Nat) (y:AV) (v:Value),x.cells[j]? =some y→arr[o+j]? =some v→R w H φ A y v)
 (pC: ∀(j:Nat) (v:Value),j<x.cells.length→arr[o+j]? =some v→v.oneCell' =true):
 ∃v,(loadVar t ⟨c,o+off,none⟩).run P w= .ok v w∧R w H φ A y v:=by
 unfold bY at hr;split at hr
 ·rename_i hle;have aC:ti.agg=false→ti.sz=1:=by
   intro ha;rcases l6 hr with ⟨h1,_⟩|⟨_,h2⟩
   ·simp [ha] at h1
   ·have:=congrArg List.length h2;simp [aB] at this;omega
  obtain ⟨v,hv,h1,h2⟩:=zw ht h (p:=o+off) (by omega) aC
  refine ⟨v,hv,?_⟩;rcases l6 hr with ⟨ha,rfl⟩|⟨ha,hcs⟩
  ·rw [h1 ha];refine .agg _ _ (by simp [aB];omega) (fun j u hu=> ?_) fun i z u hz hu=> ?_
   ·simp only [Array.getElem?_extract] at hu;split at hu
    ·exact pC (off+j) u (by omega) (by rw [←hu];congr 1;omega)
    ·simp at hu
   simp only [aB,List.getElem?_take,List.getElem?_drop,Array.getElem?_extract] at hz hu;split at hz
   ·split at hu
    ·exact hx _ _ _ hz (by rw [←hu];congr 1;omega)
    ·simp at hu
   ·simp at hz
  ·have hu:=h2 ha;have:x.cells[off]? =some y:=by
    have:=congrArg (·[0]?) hcs;simp only [aB,List.getElem?_take,List.getElem?_drop] at this;have h1:=aC ha;simp [h1] at this;exact this
   exact hx off y v this hu
 ·simp at hr
theorem sA {P:Program} {t:TypeId} {ti:TI} (ht:aU P t ti) (w:World) {xs:List AV} {vs:Array Value} {y:AV} {off:Nat}
 (hr:bY ti (.agg xs) off=some y) (hl:xs.length=vs.size) {H:J} {φ :ag} {A:aj} {w0:World}
 (hx: ∀(i:Nat) (x:AV) (v:Value),xs[i]? =some x→vs[i]? =some v→R w0 H φ A x v)
 (pC: ∀(j:Nat) (v:Value),vs[j]? =some v→v.oneCell' =true):
 ∃v,(part t vs off).run P w= .ok v w∧R w0 H φ A y v:=by
 unfold bY at hr;by_cases hle:off+ti.sz≤(AV.agg xs).cells.length
 ·rw [if_pos hle] at hr;simp only [AV.cells] at hr hle;unfold part;simp only [Sem.run_bind,ht.isAgg,Result.andThen_ok];rcases l6 hr with ⟨ha,rfl⟩|⟨ha,hcs⟩
  ·simp only [ha,if_true,Sem.run_bind,ht.sizeOf,Result.andThen_ok,Sem.run_pure];refine ⟨_,rfl,.agg _ _ (by simp [aB];omega) (fun j u hu=> ?_) fun i z u hz hu=> ?_⟩
   ·simp only [Array.getElem?_extract] at hu;split at hu
    ·exact pC _ u hu
    ·simp at hu
   simp only [aB,List.getElem?_take,List.getElem?_drop,Array.getElem?_extract] at hz hu;split at hz
   ·split at hu
    ·exact hx _ _ _ hz hu
    ·simp at hu
   ·simp at hz
  ·have hlen:=congrArg List.length hcs;simp [aB] at hlen;have l7:off<vs.size:=by omega
   simp only [ha,Bool.false_eq_true,if_false,Array.getElem?_eq_getElem l7,Sem.run_pure];refine ⟨_,rfl,hx off y _ ?_ (Array.getElem?_eq_getElem l7)⟩;have:=congrArg (·[0]?) hcs;simp only [aB,List.getElem?_take,List.getElem?_drop] at this;split at this
   ·simpa using this
   ·simp at this
 ·rw [if_neg hle] at hr;simp at hr
end Go.VS
namespace Go.VS
structure Out (w:World) (G:J) (φ :ag) (A:aj) (w' :World) (G' :J) (ak:ag) (A' :aj):Prop where
 st:St w' G' ak A'
 post:ga w φ w' ak
 bF:bM w G φ A w' G' ak A'
 keep: ∀c,A c→ ¬Ow φ c→A' c
theorem Out.refl {w:World} {G:J} {φ :ag} {A:aj} (h:St w G φ A):Out w G φ A w G φ A:=⟨h,.refl _ _,.refl _ _ _ _,fun _ h _=>h⟩
theorem Ow.lt {w:World} {G:J} {φ :ag} {A:aj} (h:St w G φ A) {c:Nat} (hc:Ow φ c):c<w.heap.size:=h.b7 c (h.own c hc)
theorem Out.trans {w w1 w2:World} {G G1 G2:J} {φ φ1 bf:ag} {A A1 A2:aj} (h0:St w G φ A) (h:Out w G φ A w1 G1 φ1 A1) (k:Out w1 G1 φ1 A1 w2 G2 bf A2):Out w G φ A w2 G2 bf A2 where
 st:=k.st
 post:=h.post.trans k.post
 bF:=h.bF.trans k.bF fun c hc=>by rw [(h.post.trans k.post).aR c (Ow.lt h0 hc)]
 keep c hc hn:=by
  refine k.keep c (h.keep c hc hn) fun ho=> ?_;rcases h.post.own c ho with h1|h1
  ·exact hn h1
  ·exact absurd (h0.b7 c hc) (by omega)
def bn (w:World) (G:J) (φ :ag) (A:aj) (H H' :J) (r:Result Next) (x:AV):Prop:=
 ∃n v w' ak A',r= .ok n w' ∧(n= .value v∨(n= .skip∧v=undef))∧R w' G ak A' x v∧Out w G φ A w' G ak A' ∧
  ∀id loc,ak id=some loc→ φ id=some loc∨(H.bs.length≤id∧id<H'.bs.length)
theorem bn.val {w:World} {G:J} {φ :ag} {A:aj} {H H' :J} {r:Result Next} {x:AV} {v:Value} (hs:St w G φ A) (hr:r= .ok (.value v) w) (hx:R w G φ A x v):bn w G φ A H H' r x:=
 ⟨_,v,w,φ,A,hr,.inl rfl,hx,.refl hs,fun _ _ h=> .inl h⟩
def bg (H G:J):Prop:=(∀id b,H.get id=some b→G.get id=some b)∧H.st≤G.st
theorem bg.ap {H G:J} (h:bg H G) {id ad:Nat} {b:bu} (hb:H.ap id ad=some b):G.ap id ad=some b:=by
 obtain ⟨hg,hv⟩:=J.bd hb;have:=J.ic (h.1 id b hg)
 rwa [hv] at this
theorem bg.refl (H:J):bg H H:=⟨fun _ _ h=>h,Nat.le_refl _⟩
theorem jx (P:Program) (w:World) (op:BinOp) (t:TypeId) (x y:Operand) (a b:Value) (h1:a≠ .nilIface) (h2:dX a=false):
 (eqGuard op t x y a b).run P w= .ok () w:=by
 cases a with
 |nilIface=>exact absurd rfl h1
 |agg cs=>simp [dX] at h2
 |_=>cases op<;>rfl
theorem zx (P:Program) (w:World) {E:aK} {op:BinOp} {t:TypeId} {k yk:IntKind} {a b:Int} {z:AV} (h:aN E op t (.int k a) (.int yk b)=some z):
 ∃v,(binOp op t (.int k a) (.int yk b)).run P w= .ok v w∧FR w (fun _=>False) z v:=by
 unfold aN at h;cases op<;>simp only at h
 case shl=>
  split at h
  ·simp at h
  ·rename_i hb;simp only [Option.some.injEq] at h;subst h;exact ⟨_,by simp [binOp,Op.shift,hb],.int _ _⟩
 case shr=>
  split at h
  ·simp at h
  ·rename_i hb;simp only [Option.some.injEq] at h;subst h;exact ⟨_,by simp [binOp,Op.shift,hb],.int _ _⟩
 case quo=>
  split at h
  ·rename_i hk;subst hk;simp only [dG] at h;split at h
   ·simp at h
   ·rename_i hb;simp only [Option.some.injEq] at h;subst h;exact ⟨_,by simp [binOp,Op.intDiv,hb],.int _ _⟩
  ·simp at h
 case rem=>
  split at h
  ·rename_i hk;subst hk;simp only [dG] at h;split at h
   ·simp at h
   ·rename_i hb;simp only [Option.some.injEq] at h;subst h;exact ⟨_,by simp [binOp,Op.intDiv,hb],.int _ _⟩
  ·simp at h
 all_goals
  split at h
  ·rename_i hk;subst hk;simp only [dG,Option.some.injEq] at h;try subst h
   try (refine ⟨_,(by simp only [binOp,ne_eq,not_true_eq_false,if_false,Op.intArith,Op.intBits,Op.intCmp];rfl),?_⟩;first|exact .int _ _|exact .bool _)
  ·simp at h
theorem zy (P:Program) (w:World) {op:BinOp} {t:TypeId} {a b:ByteArray} {z:AV} (h:jY op a.data.toList b.data.toList=some z):
 ∃v,(binOp op t (.string a) (.string b)).run P w= .ok v w∧FR w (fun _=>False) z v:=by
 cases op<;>simp only [jY,Option.some.injEq,reduceCtorEq] at h
 case add=>
  split at h
  ·rename_i hl;simp only [Option.some.injEq] at h;subst h;have dw:a.size+b.size≤2^45:=by have:=hl;simp only [Array.length_toList] at this;exact this
   refine ⟨.string (a ++ b),?_,?_⟩
   ·have: ¬(((a.size+b.size:Nat):Int)>IntKind.i64.max):=by have:IntKind.i64.max=9223372036854775807:=rfl;omega
    simp only [binOp,Op.stringOp,this,if_false,Sem.run_pure]
   ·have:=FR.str (w:=w) (A:=fun _=>False) (a ++ b)
    rwa [ByteArray.data_append,Array.toList_append] at this
  ·simp at h
 all_goals
  subst h;refine ⟨_,by simp only [binOp,Op.stringOp,ByteArray.toList_eq,Sem.run_pure],.bool _⟩
theorem zB (P:Program) {w:World} {H:J} {φ :ag} {A:aj} {op:UnOp} {x z:AV} {a:Value} (hx:R w H φ A x a) (h:jZ op x=some z):
 ∃v,(Op.unary op a).run P w= .ok v w∧R w H φ A z v:=by
 unfold jZ at h;split at h
 ·have:=hx.ct;subst this;simp only [Option.some.injEq] at h;subst h;exact ⟨_,by simp [Op.unary,Op.intArith],.fr _ _ (.int _ _)⟩
 ·have:=hx.fK;subst this;simp only [Option.some.injEq] at h;subst h;exact ⟨_,by simp [Op.unary],.fr _ _ (.bool _)⟩
 ·simp at h
theorem sC {P:Program} {t:TypeId} {ti:TI} (ht:aU P t ti) (w:World) (vs:Array Value) (o:Nat) (ho:o+ti.sz≤vs.size) (h1:ti.agg=false→ti.sz=1)
 (h2: ∀(j:Nat) (v:Value),vs[j]? =some v→dX v=false):
 ∃v,(part t vs o).run P w= .ok v w∧v.cells=vs.extract o (o+ti.sz)∧dX v=ti.agg:=by
 unfold part;simp only [Sem.run_bind,ht.isAgg,Result.andThen_ok];cases ha:ti.agg with
 |true=>
  simp only [if_true,Sem.run_bind,ht.sizeOf,Result.andThen_ok,Sem.run_pure];exact ⟨_,rfl,rfl,rfl⟩
 |false=>
  have hs:=h1 ha;have az:o<vs.size:=by omega
  simp only [Bool.false_eq_true,if_false,Array.getElem?_eq_getElem az,Sem.run_pure];refine ⟨_,rfl,?_,?_⟩
  ·have hn:=h2 o vs[o] (Array.getElem?_eq_getElem az);have:(vs[o]).cells= #[vs[o]]:=by generalize vs[o]=u at hn⊢;cases u<;>first|rfl|simp [dX] at hn
   rw [this,hs];apply Array.ext
   ·simp;omega
   ·intro i h1 h2;simp at h1;subst h1;simp
  ·exact h2 o vs[o] (Array.getElem?_eq_getElem az)
section equal
variable {P:Program} {E:aK} (hE: ∀t ti,E t=some ti→aU P t ti)
include hE
structure nt (w:World) (H:J) (φ :ag) (A:aj) (agg:Bool) (xs:List AV) (v:Value):Prop where
 len:xs.length=v.cells.size
 agg:dX v=agg
 val: ∀(i:Nat) (x:AV) (u:Value),xs[i]? =some x→v.cells[i]? =some u→R w H φ A x u
theorem zC {d:Nat} {t:TypeId} {ti:TI} {xs ys:List AV} {r:Bool} (h1:E t=some ti) (h:eo E (d+1) t xs ys=some r) (hn:ti.agg=false):xs.length=1:=by
 simp only [eo,h1] at h;split at h
 ·split at h
  ·rfl
  ·simp at h
 ·split at h
  ·rfl
  ·simp at h
 ·split at h
  ·rfl
  ·simp at h
 ·rename_i fs hu;obtain ⟨gs,hg,_⟩:=(hE t ti h1).lZ default hu;have:=(hE t ti h1).isAgg default;simp only [Go.isAgg,Sem.run_bind,hg,Result.andThen_ok,Sem.run_pure] at this;simp [hn] at this
 ·simp at h
theorem sD {w w0:World} {H:J} {φ :ag} {A:aj}: ∀(d:Nat) (t:TypeId) (ti:TI) (xs ys:List AV) (r:Bool),E t=some ti→eo E d t xs ys=some r→
 ∀(m:Nat),d≤m→ ∀(x y:Value),nt w0 H φ A ti.agg xs x→nt w0 H φ A ti.agg ys y→(∀(j:Nat) (v:Value),x.cells[j]? =some v→dX v=false)→
 (∀(j:Nat) (v:Value),y.cells[j]? =some v→dX v=false)→(Op.equalIn m t x y).run P w= .ok r w
 |0,_,_,_,_,_,_,h=>by simp [eo] at h
 |d+1,t,ti,xs,ys,r,h1,h=>by
  intro m hm x y hx hy ha hb;obtain ⟨m,rfl⟩: ∃k,m=k+1:=⟨m-1,by omega⟩
  have hT:=hE t ti h1;have ig: ∀{x:Value} {a:AV},nt w0 H φ A ti.agg [a] x→ti.agg=false→R w0 H φ A a x:=by
   intro x a hc hn;have h2:=hc.agg;rw [hn] at h2;have:x.cells= #[x]:=by cases x<;>first|rfl|simp [dX] at h2
   exact hc.val 0 a x rfl (by rw [this];rfl)
  have dY: ∀{e:UD},ti.aw=e→(match e with| .it _| .bl| .str=>True|_=>False)→ti.agg=false:=by
   intro e he hm;have:=hT.isAgg default;obtain ⟨i,dd,z,_,hd,_,_,_,_,b9,_,_,_,bm,_⟩:=hT.out;rw [←b9];rw [he] at bm;cases dd with
   |array n e' =>simp only [fy] at bm;subst bm;simp at hm
   |struct gs=>simp only [fy] at bm;split at bm<;>(subst bm;simp at hm)
   |_=>rfl
  simp only [eo,h1] at h;split at h
  ·rename_i k hu;have hn:=dY hu trivial;split at h
   ·rename_i k a j b;split at h
    ·rename_i hk;subst hk;simp only [Option.some.injEq] at h;subst h;have e1:=(ig hx hn).ct;have e2:=(ig hy hn).ct;subst e1;subst e2;have:=hT.lY w hu;simp [Op.equalIn,this]
    ·simp at h
   ·simp at h
  ·rename_i hu;have hn:=dY hu trivial;split at h
   ·rename_i a b;simp only [Option.some.injEq] at h;subst h;have e1:=(ig hx hn).fK;have e2:=(ig hy hn).fK;subst e1;subst e2;have:=hT.pA w hu;simp [Op.equalIn,this]
   ·simp at h
  ·rename_i hu;have hn:=dY hu trivial;split at h
   ·rename_i a b;simp only [Option.some.injEq] at h;subst h;obtain ⟨s,rfl,e1⟩:=(ig hx hn).fb;obtain ⟨u,rfl,e2⟩:=(ig hy hn).fb;have:=hT.jw w hu;simp only [Op.equalIn,Sem.run_bind,this,Result.andThen_ok,Sem.run_pure,beq_toListBytes,ByteArray.toList_eq,e1,e2]
   ·simp at h
  ·rename_i fs hu;split at h
   ·rename_i af;obtain ⟨gs,hg,ii,pD,hd⟩:=hT.lZ w hu;have b9:ti.agg=true:=by
     have:=hT.isAgg w;simp only [Go.isAgg,Sem.run_bind,hg,Result.andThen_ok,Sem.run_pure] at this;simpa using this.symm
    obtain ⟨i0,d0,z0,_,_,_,_,_,_,_,_,_,_,_,heq⟩:=hT.out;have ae:=(heq af).1;rw [b9] at hx hy;obtain ⟨vs,rfl⟩: ∃vs,x= .agg vs:=by have:=hx.agg;cases x<;>first|exact ⟨_,rfl⟩|simp [dX] at this
    obtain ⟨us,rfl⟩: ∃us,y= .agg us:=by have:=hy.agg;cases y<;>first|exact ⟨_,rfl⟩|simp [dX] at this
    have pE:P.fieldsOf t=gs:=by simp [Program.fieldsOf,hd]
    rw [run_equalIn_struct w m t vs us (by rw [hd,pE]) ae,pE]
    clear hg hu hd pE;generalize zD:gs.toList=gl at ii pD⊢;clear zD;induction gl generalizing fs r with
    |nil=>
     subst ii;simp only [List.map_nil,iL,Option.some.injEq] at h;subst h;simp [Op.eqFields]
    |cons g gl ih=>
     subst ii;simp only [List.map_cons,iL] at h;cases hf:E g.type with
     |none=>simp [hf] at h
     |some tf=>
      simp only [hf] at h;split at h
      ·rename_i hle;cases hq:eo E d g.type (aB xs g.offset tf.sz) (aB ys g.offset tf.sz) with
       |none=>simp [hq] at h
       |some b=>
        simp only [hq] at h;cases hr:iL E (eo E d) (gl.map fun f=>(f.offset,f.type)) xs ys with
        |none=>simp [hr] at h
        |some r' =>
         simp only [hr,Option.some.injEq] at h;have hF:=hE _ _ hf;have pF:xs.length=vs.size:=hx.len;have pG:ys.length=us.size:=hy.len;have cJ:tf.agg=false→tf.sz=1:=by
          intro hn;cases d with
          |zero=>simp [eo] at hq
          |succ d=>
           have:=zC hE hf hq hn;simp [aB] at this;omega
         obtain ⟨v1,p1,c1,a1⟩:=sC hF w vs g.offset (by omega) cJ ha
         obtain ⟨v2,p2,c2,a2⟩:=sC hF w us g.offset (by omega) cJ hb
         have sub: ∀{zs:List AV} {ws:Array Value} {v:Value},zs.length=ws.size→g.offset+tf.sz≤zs.length→
          (∀(i:Nat) (x:AV) (u:Value),zs[i]? =some x→ws[i]? =some u→R w0 H φ A x u)→v.cells=ws.extract g.offset (g.offset+tf.sz)→dX v=tf.agg→
          nt w0 H φ A tf.agg (aB zs g.offset tf.sz) v:=by
          intro zs ws v hl hle hval hc b9;refine ⟨by rw [hc];simp [aB];omega,b9,fun i x u hi hu=> ?_⟩
          rw [hc] at hu;simp only [aB,List.getElem?_take,List.getElem?_drop,Array.getElem?_extract] at hi hu;split at hi
          ·split at hu
           ·exact hval _ _ _ hi hu
           ·simp at hu
          ·simp at hi
         have l8: ∀{ws:Array Value} {v:Value},v.cells=ws.extract g.offset (g.offset+tf.sz)→(∀(j:Nat) (v:Value),ws[j]? =some v→dX v=false)→
          ∀(j:Nat) (u:Value),v.cells[j]? =some u→dX u=false:=by
          intro ws v hc hw j u hu;rw [hc] at hu;simp only [Array.getElem?_extract] at hu;split at hu
          ·exact hw _ _ hu
          ·simp at hu
         have he:=sD (w:=w) d g.type tf _ _ b hf hq m (by omega) v1 v2 (sub pF hle.1 hx.val c1 a1) (sub pG hle.2 hy.val c2 a2) (l8 c1 ha) (l8 c2 hb)
         have zE:g.name≠ "_" :=pD g (by simp)
         simp only [Op.eqFields,if_pos zE,Sem.run_bind,p1,p2,he,Result.andThen_ok];have nu:=ih r' _ hr rfl (fun f hf=>pD f (by simp [hf]))
         cases b with
         |true=>simp only [Bool.not_true,Bool.false_eq_true,if_false];rw [nu,←h];simp
         |false=>simp [←h]
      ·simp at h
   ·simp at h
  ·simp at h
end equal
end Go.VS
namespace Go.VS
theorem heap_alloc_old (w:World) (o:Obj) {c:Nat} (h:c<w.heap.size):(w.alloc o).heap[c]? =w.heap[c]? :=by
 show (w.heap.push o)[c]? =_;rw [Array.getElem?_push,if_neg (by omega)]
theorem heap_alloc_new (w:World) (o:Obj):(w.alloc o).heap[w.heap.size]? =some o:=by
 show (w.heap.push o)[w.heap.size]? =_;simp
theorem ew {w:World} {c:Nat} {o:Obj} (h:w.heap[c]? =some o):c<w.heap.size:=by
 rcases Nat.lt_or_ge c w.heap.size with h1|h1
 ·exact h1
 ·simp [Array.getElem?_eq_none h1] at h
theorem zF (gI:Nat×Nat) {w:World} {G:J} {φ :ag} {A:aj} (ae:St w G φ A) {id:Nat} {b:bu} (hg:G.get id=some b) (aV: φ id=none) (bN:b.ad<G.st)
 (aC: ∀(i:Nat) (x:AV),b.el[i]? =some x→x.cells.length=b.sz) (arr:Array Value) (T:TypeId) (hlen:b.el.length*b.sz≤arr.size) (ey: ∀j,j<arr.size+pad b.sz→ ¬(gI.1≤j∧j<gI.2))
 (iO: ∀(i:Nat) (x:AV) (j:Nat) (y:AV) (v:Value),b.el[i]? =some x→x.cells[j]? =some y→arr[i*b.sz+j]? =some v→R w G φ A y v∧v.oneCell' =true):
 Out w G φ A (w.alloc (.cells arr T gI)) G (fun i=>if i=id then some (.at_ w.heap.size 0) else φ i) (fun c=>A c∨c=w.heap.size):=by
 have ez: ∀c,Ow (fun i=>if i=id then some (.at_ w.heap.size 0) else φ i) c→Ow φ c∨c=w.heap.size:=by
  rintro c ⟨i,b0,h⟩;try simp only at h
  split at h
  ·simp only [Option.some.injEq,Loc.at_.injEq] at h;exact .inr h.1.symm
  ·exact .inl ⟨i,b0,h⟩
 have gg:ga w φ (w.alloc (.cells arr T gI)) (fun i=>if i=id then some (.at_ w.heap.size 0) else φ i):=by
  refine ⟨rfl,rfl,rfl,by simp,fun c hc _=>heap_alloc_old w _ hc,fun c hc=> ?_,fun c hc=> ?_⟩
  ·unfold aR;rw [heap_alloc_old w _ hc]
  ·rcases ez c hc with h|h
   ·exact .inl h
   ·exact .inr (by omega)
 have aS:bM w G φ A (w.alloc (.cells arr T gI)) G (fun i=>if i=id then some (.at_ w.heap.size 0) else φ i) (fun c=>A c∨c=w.heap.size):=by
  refine ⟨fun c a t fr hc hn=> ?_,Nat.le_refl _,fun i b' au _=>⟨b',au,rfl,rfl,rfl,rfl,fun loc hl=> ?_⟩,fun c hc=>gg.aR c (Ow.lt ae hc)⟩
  ·have az:=ew hc;exact ⟨⟨fr,by rw [heap_alloc_old w _ az];exact hc⟩,fun h=>by rcases h with h|h;exact hn h;omega⟩
  ·try simp only
   split
   ·rename_i h;subst h;rw [aV] at hl;simp at hl
   ·exact hl
 refine ⟨⟨fun i i' c b0 b1 h1 h2=> ?_,fun c hc=> ?_,fun c hc=> ?_,fun i loc hl=> ?_⟩,gg,aS,fun c hc _=> .inl hc⟩
 ·try simp only at h1 h2
  split at h1
  ·rename_i hi;split at h2
   ·rename_i fL;omega
   ·simp only [Option.some.injEq,Loc.at_.injEq] at h1;have:=Ow.lt ae ⟨i',b1,h2⟩;omega
  ·split at h2
   ·simp only [Option.some.injEq,Loc.at_.injEq] at h2;have:=Ow.lt ae ⟨i,b0,h1⟩;omega
   ·exact ae.inj i i' c b0 b1 h1 h2
 ·rcases ez c hc with h|h
  ·exact .inl (ae.own c h)
  ·exact .inr h
 ·simp only [World.size_alloc];rcases hc with h|h
  ·have:=ae.b7 c h;omega
  ·omega
 ·try simp only at hl
  split at hl
  ·rename_i hi;subst hi;simp only [Option.some.injEq] at hl;subst hl;refine ⟨b,hg,bN,aC,by simp,fun c b0 h=> ?_⟩
   simp only [Loc.at_.injEq] at h;obtain ⟨rfl,rfl⟩:=h;refine ⟨arr,T,gI,heap_alloc_new w _,ey,by omega,fun i x j y v hx hy hv=> ?_⟩
   obtain ⟨h1,h2⟩:=iO i x j y v hx hy (by simpa using hv)
   exact ⟨h1.mono aS,h2⟩
  ·obtain ⟨b',cu,au⟩:=ae.ap i loc hl;refine ⟨b',cu,au.ad,au.sized,au.aP,fun c b0 h=> ?_⟩;obtain ⟨a,t,fr,h1,h2,h3,h4⟩:=au.here c b0 h;exact ⟨a,t,fr,by rw [heap_alloc_old w _ (ew h1)];exact h1,h2,h3,fun i x j y v hx hy hv=>⟨(h4 i x j y v hx hy hv).1.mono aS,(h4 i x j y v hx hy hv).2⟩⟩
theorem pH {w:World} {G:J} {φ :ag} {A:aj} {id ad c:Nat} (hv:ad<G.st) (aV: φ id=some (.at_ c 0)):R w G φ A (.ptr id ad 0 0) (.pointer (some ⟨c,0,none⟩)):=
 .ptr _ _ _ _ _ hv ⟨_,rfl⟩ fun b _=>⟨c,0,aV,by simp⟩
section ops
variable {P:Program} {E:aK} (hE: ∀t ti,E t=some ti→aU P t ti)
variable {w:World} {G:J} {φ :ag} {A:aj} (ae:St w G φ A) {H H' :J} (hX:bg H' G) (bB: ∀id,H.bs.length≤id→ φ id=none)
theorem sE {t e:TypeId} {ti te:TI} (ht:aU P t ti) (bz:aU P e te) (hu:ti.aw= .sl e) {k:IntKind} {n:Int} {c o len cap:Nat} (h0:0≤n) (h1:n<len):
 (Instr.indexAt t (.slice (some ⟨c,o,none⟩) len cap) (.int k n)).run P w= .ok (.pointer (some ⟨c,o+n.toNat*te.sz,none⟩)) w:=by
 unfold Instr.indexAt;simp only [asIntOf,Sem.run_bind,Sem.run_pure,Result.andThen_ok,ht.sl w hu];simp [h0,h1,bz.sizeOf,ie]
theorem sF {t e:TypeId} {ti te:TI} (ht:aU P t ti) (bz:aU P e te) {m:Nat} (hu:ti.aw= .ar m e) {k:IntKind} {n:Int} {c o:Nat} (h0:0≤n) (h1:n<m):
 (Instr.indexAt t (.pointer (some ⟨c,o,none⟩)) (.int k n)).run P w= .ok (.pointer (some ⟨c,o+n.toNat*te.sz,none⟩)) w:=by
 unfold Instr.indexAt;simp only [asIntOf,Sem.run_bind,Sem.run_pure,Result.andThen_ok,ht.pB w hu,Instr.sureAddr];simp [h0,h1,bz.sizeOf,ie]
theorem sG {t ft:TypeId} {ti tf:TI} (ht:aU P t ti) {fs:List (Nat×TypeId)} (hu:ti.aw= .st fs) {f o:Nat} (hf:fs[f]? =some (o,ft)) (la:aU P ft tf) (hz:tf.sz≠0) {c p:Nat}:
 (Instr.fieldAt t (.pointer (some ⟨c,p,none⟩)) f).run P w= .ok (.pointer (some ⟨c,p+o,none⟩)) w:=by
 unfold Instr.fieldAt;obtain ⟨gs,hg,ii,_⟩:=ht.lZ w hu;simp only [Sem.run_bind,hg,Result.andThen_ok];rw [ii] at hf;simp only [List.getElem?_map,Option.map_eq_some_iff,Prod.mk.injEq] at hf;obtain ⟨g,cx,ij,pI⟩:=hf;have pJ:gs[f]? =some g:=by simpa using cx
 simp only [pJ,Sem.run_bind,Instr.sureAddr,Sem.run_pure,Result.andThen_ok,fieldPlace,pI,la.sizeOf,hz,if_false,ij,ie]
theorem fw {x:AV} {off:Nat} {v:Value} {A:aj} (h:FR w A (.fe x off) v): ∃c o arr T fr,v= .pointer (some ⟨c,o+off,none⟩)∧w.heap[c]? =some (.cells arr T fr)∧ ¬A c∧o+x.cells.length≤arr.size∧
 (∀(j:Nat) (v:Value),j<x.cells.length→arr[o+j]? =some v→v.oneCell' =true)∧(∀(j:Nat) (y:AV) (v:Value),x.cells[j]? =some y→arr[o+j]? =some v→FR w A y v):=by
 cases h with
 |fe _ _ c o arr T fr h1 h2 h3 h4 h5=>exact ⟨c,o,arr,T,fr,rfl,h1,h2,h3,h4,h5⟩
theorem pK {x:AV} {off c o:Nat} {arr:Array Value} {T:TypeId} {fr:Nat×Nat} {A:aj} (h1:w.heap[c]? =some (.cells arr T fr)) (h2: ¬A c) (h3:o+x.cells.length≤arr.size)
 (h4: ∀(j:Nat) (v:Value),j<x.cells.length→arr[o+j]? =some v→v.oneCell' =true) (h5: ∀(j:Nat) (y:AV) (v:Value),x.cells[j]? =some y→arr[o+j]? =some v→FR w A y v):
 FR w A (.fe x off) (.pointer (some ⟨c,o+off,none⟩)):= .fe x off c o arr T fr h1 h2 h3 h4 h5
include hE in
theorem zG {H0:J} (hX:bg H0 G) {t:TypeId} {x:AV} {a:Value} {f:Nat} {z:AV} (hx:R w G φ A x a)
 (h:(match E t with
  |some ti=>match ti.aw with
   | .st fs=>match fs[f]? with
    |some (o,ft)=>match E ft with
     |some tf=>if tf.sz=0 then none else match (generalizing:=false) x with
      | .ptr id ad idx off=>match H0.ap id ad with
       |some _=>some (.ptr id ad idx (off+o),H0)
       |none=>none
      | .fe y off=>some (.fe y (off+o),H0)
      |_=>none
     |none=>none
    |none=>none
   |_=>none
  |none=>none)=some (z,H')): ∃v,(Instr.fieldAt t a f).run P w= .ok v w∧R w G φ A z v:=by
 cases h1:E t with
 |none=>simp [h1] at h
 |some ti=>
  simp only [h1] at h;split at h
  ·rename_i fs hu;split at h
   ·rename_i o ft hf;cases h2:E ft with
    |none=>simp [h2] at h
    |some tf=>
     simp only [h2] at h;split at h
     ·simp at h
     ·rename_i hz;split at h
      ·rename_i id ad idx off;split at h
       ·rename_i b hb;simp only [Option.some.injEq,Prod.mk.injEq] at h;obtain ⟨rfl,rfl⟩:=h;obtain ⟨hv,_,hp⟩:=hx.gf;obtain ⟨c,b0,aV,rfl⟩:=hp b (hX.ap hb);refine ⟨_,sG (hE _ _ h1) hu hf (hE _ _ h2) hz,.ptr _ _ _ _ _ hv ⟨_,rfl⟩ fun b' au=>⟨c,b0,aV,?_⟩⟩
        rw [hX.ap hb] at au;simp only [Option.some.injEq] at au;subst au;rw [Nat.add_assoc]
       ·simp at h
      ·rename_i y off;simp only [Option.some.injEq,Prod.mk.injEq] at h;obtain ⟨rfl,rfl⟩:=h;obtain ⟨c,p,arr,T,fr,rfl,k1,k2,k3,k4,k5⟩:=fw hx.fw;refine ⟨_,sG (hE _ _ h1) hu hf (hE _ _ h2) hz,.fr _ _ ?_⟩;rw [Nat.add_assoc];exact pK k1 k2 k3 k4 k5
      ·simp at h
   ·simp at h
  ·simp at h
theorem zH {t e:TypeId} (h:(underlying t).run P w= .ok (.slice e) w) (d:Nat):(Op.equalIn (d+1) t (.slice none 0 0) (.slice none 0 0)).run P w= .ok true w:=by
 simp [Op.equalIn,h]
theorem sH {t e:TypeId} {a:Addr} {l c:Nat} (h:(underlying t).run P w= .ok (.slice e) w) (d:Nat):(Op.equalIn (d+1) t (.slice (some a) l c) (.slice none 0 0)).run P w= .ok false w:=by
 simp [Op.equalIn,h]
theorem zI {t:TypeId} {ms:Array (String×TypeId)} (h:(underlying t).run P w= .ok (.interface ms) w) (d:Nat):(Op.equalIn (d+1) t .nilIface .nilIface).run P w= .ok true w:=by
 simp [Op.equalIn,h]
theorem zJ {t t' :TypeId} {u:Value} {ms:Array (String×TypeId)} (h:(underlying t).run P w= .ok (.interface ms) w) (d:Nat):(Op.equalIn (d+1) t (.iface t' u) .nilIface).run P w= .ok false w:=by
 simp [Op.equalIn,h]
theorem sI {t:TypeId} {a b:Bool} (h:(underlying t).run P w= .ok .bool w) (d:Nat):(Op.equalIn (d+1) t (.bool a) (.bool b)).run P w= .ok (a==b) w:=by
 simp [Op.equalIn,h]
theorem pL (t:TypeId) (a b:Value):Op.equal t a b=Op.equalIn (9999+1) t a b:=rfl
theorem sJ {t:TypeId} {ti:TI} (ht:aU P t ti) {op:BinOp} {x y z:AV} {a b:Value} (hx:R w G φ A x a) (hy:R w G φ A y b) {r:Bool} (h:isNil ti.aw x y=some r) (ox oy:Operand) (hc:(∃u,oy= .const u)∨ ∀e,y≠ .cB e)
 (bC:(op= .eql∧z= .bool r)∨(op= .neq∧z= .bool (!r))):
 ∃v,(do eqGuard op t ox oy a b;binOp op t a b:Sem Value).run P w= .ok v w∧R w G φ A z v:=by
 have key:(eqGuard op t ox oy a b).run P w= .ok () w∧(Op.equal t a b).run P w= .ok r w∧(∀f:BinOp→Value→Value→Sem Value,True)∧
  (binOp .eql t a b=do pure (.bool (←Op.equal t a b)))∧(binOp .neq t a b=do pure (.bool (!(←Op.equal t a b)))):=by
  unfold isNil at h;split at h
  ·rename_i e hu;have e1:=hx.du;have e2:=hy.du;subst e1;subst e2;simp only [Option.some.injEq] at h;subst h;refine ⟨jx P w _ _ _ _ _ _ (by simp) rfl,?_,fun _=>trivial,rfl,rfl⟩
   exact zH (ht.sl w hu) 9999
  ·rename_i e y ys hu;have e2:=hy.du;subst e2;simp only [Option.some.injEq] at h;subst h;have hf:=hx.ei;cases hf with
   |fz _ c off cap n arr T fr=>
    refine ⟨jx P w _ _ _ _ _ _ (by simp) rfl,?_,fun _=>trivial,rfl,rfl⟩
    exact sH (ht.sl w hu) 9999
  ·rename_i b hu;simp only [Option.some.injEq] at h;subst h;rcases hy.k_ with ⟨_,rfl⟩|⟨hb,_⟩
   ·obtain ⟨ms,sK⟩:=ht.zu w hu;rcases hx.k_ with ⟨rfl,rfl⟩|⟨rfl,t',u,rfl⟩
    ·rcases hc with ⟨u,rfl⟩|hc
     ·refine ⟨?_,zI sK 9999,fun _=>trivial,rfl,rfl⟩;cases op<;>cases ox<;>rfl
     ·exact absurd rfl (hc _)
    ·exact ⟨jx P w _ _ _ _ _ _ (by simp) rfl,zJ sK 9999,fun _=>trivial,rfl,rfl⟩
   ·simp at hb
  ·simp at h
 obtain ⟨k1,k2,_,k3,k4⟩:=key;rcases bC with ⟨rfl,rfl⟩|⟨rfl,rfl⟩
 ·exact ⟨_,by simp [k1,k3,k2],.fr _ _ (.bool _)⟩
 ·exact ⟨_,by simp [k1,k4,k2],.fr _ _ (.bool _)⟩
set_option maxHeartbeats 1000000 in
include hE in
theorem zK {op:BinOp} {t:TypeId} {x y z:AV} {a b:Value} (hx:R w G φ A x a) (hy:R w G φ A y b) (ox oy:Operand) (hc:(∃u,oy= .const u)∨ ∀e,y≠ .cB e) (h:aN E op t x y=some z):
 ∃v,(do eqGuard op t ox oy a b;binOp op t a b:Sem Value).run P w= .ok v w∧R w G φ A z v:=by
 have lift: ∀{v:Value},FR w (fun _=>False) z v→FR w A z v∨True:=fun _=> .inr trivial;have shr: ∀{z:AV} {v:Value},FR w (fun _=>False) z v→(∃k n,z= .int k n)∨(∃b,z= .bool b)∨(∃s,z= .str s)→R w G φ A z v:=by
  intro z v hf hz;rcases hz with ⟨k,n,rfl⟩|⟨b,rfl⟩|⟨s,rfl⟩
  ·cases hf;exact .fr _ _ (.int _ _)
  ·cases hf;exact .fr _ _ (.bool _)
  ·cases hf;exact .fr _ _ (.str _)
 clear lift;cases x with
 |int k n=>
  cases y with
  |int k2 n2=>
   have e1:=hx.ct;have e2:=hy.ct;subst e1;subst e2;obtain ⟨v,hv,hr⟩:=zx P w h;refine ⟨v,by simp [jx P w op t ox oy (.int k n) (.int k2 n2) (by simp) rfl,hv],shr hr ?_⟩
   unfold aN at h;have: ∀op,(if k=k2 then dG op k n n2 else none)=some z→(∃k n,z= .int k n)∨(∃b,z= .bool b)∨(∃s,z= .str s):=by
    intro op h;split at h
    ·cases op<;>simp only [dG,Option.some.injEq,reduceCtorEq] at h<;>first
      |(subst h;first|exact .inl ⟨_,_,rfl⟩|exact .inr (.inl ⟨_,rfl⟩))
      |(split at h<;>first|(simp at h;done)|(simp only [Option.some.injEq] at h;subst h;exact .inl ⟨_,_,rfl⟩))
    ·simp at h
   cases op<;>simp only at h<;>first
    |exact this _ h
    |(split at h<;>first|(simp at h;done)|(simp only [Option.some.injEq] at h;subst h;exact .inl ⟨_,_,rfl⟩))
  |_=>
   simp only [aN] at h;cases he:E t with
   |none=>simp [he] at h
   |some ti=>simp only [he] at h;cases op<;>simp [isNil] at h
 |str l=>
  cases y with
  |str l2=>
   obtain ⟨s,rfl,rfl⟩:=hx.fb;obtain ⟨s2,rfl,rfl⟩:=hy.fb;simp only [aN] at h;obtain ⟨v,hv,hr⟩:=zy P w (t:=t) h;refine ⟨v,by simp [jx P w op t ox oy (.string s) (.string s2) (by simp) rfl,hv],shr hr ?_⟩
   cases op<;>simp only [jY,Option.some.injEq,reduceCtorEq] at h<;>first
    |(subst h;exact .inr (.inl ⟨_,rfl⟩))
    |(split at h
      ·simp only [Option.some.injEq] at h;subst h;exact .inr (.inr ⟨_,rfl⟩)
      ·simp at h)
  |_=>
   simp only [aN] at h;cases he:E t with
   |none=>simp [he] at h
   |some ti=>simp only [he] at h;cases op<;>simp [isNil] at h
 |bool p=>
  cases y with
  |bool q=>
   have e1:=hx.fK;have e2:=hy.fK;subst e1;subst e2;simp only [aN] at h;cases he:E t with
   |none=>simp [he] at h
   |some ti=>
    simp only [he] at h;split at h
    ·rename_i hu;simp only [Option.some.injEq] at h;subst h;have:=sI (a:=p) (b:=q) ((hE _ _ he).pA w hu) 9999;exact ⟨.bool (p==q),by simp [jx P w _ t ox oy (.bool p) (.bool q) (by simp) rfl,binOp,pL,this],.fr _ _ (.bool _)⟩
    ·rename_i hu;simp only [Option.some.injEq] at h;subst h;have:=sI (a:=p) (b:=q) ((hE _ _ he).pA w hu) 9999;exact ⟨.bool (!(p==q)),by simp [jx P w _ t ox oy (.bool p) (.bool q) (by simp) rfl,binOp,pL,this],.fr _ _ (.bool _)⟩
    ·simp at h
  |_=>
   simp only [aN] at h;cases he:E t with
   |none=>simp [he] at h
   |some ti=>simp only [he] at h;cases op<;>simp [isNil] at h
 |agg xs=>
  cases y with
  |agg ys=>
   obtain ⟨vs,rfl,pF,zL,zM⟩:=hx.gH;obtain ⟨us,rfl,pG,zN,zO⟩:=hy.gH;have l8: ∀{ws:Array Value},(∀(j:Nat) (v:Value),ws[j]? =some v→v.oneCell' =true)→ ∀(j:Nat) (v:Value),(Value.agg ws).cells[j]? =some v→dX v=false:=by
    intro ws hw j v hv;have:=hw j v hv;cases v<;>first|rfl|simp [Value.oneCell'] at this
   simp only [aN] at h;cases he:E t with
   |none=>simp [he] at h
   |some ti=>
   simp only [he] at h;by_cases sL:ti.agg=false
   ·simp [sL] at h
   have b9:ti.agg=true:=by simpa using sL
   simp only [b9,if_true] at h;have main: ∀r,eo E 8 t xs ys=some r→(eqGuard op t ox oy (.agg vs) (.agg us)).run P w= .ok () w∧(Op.equalIn 10000 t (.agg vs) (.agg us)).run P w= .ok r w:=by
    intro r hr;have hT:=hE _ _ he;have af:ti.lP=true:=by
     obtain ⟨i0,d0,z0,_,_,_,_,_,_,sM,_,_,_,bm,_⟩:=hT.out;rw [b9] at sM;have gh:=hr;simp only [eo,he] at gh;rw [←bm] at gh;cases d0 with
     |struct gs=>
      simp only [fy] at gh;split at gh
      ·rename_i heq;split at heq<;>simp at heq
      ·rename_i heq;split at heq<;>simp at heq
      ·rename_i heq;split at heq<;>simp at heq
      ·split at gh
       ·assumption
       ·simp at gh
      ·simp at gh
     |array n e=>simp [fy] at gh
     |_=>simp [nq] at sM
    obtain ⟨i0,d0,z0,_,_,_,_,_,_,_,_,_,_,_,heq⟩:=hT.out;refine ⟨run_eqGuard_agg w op t ox oy vs us (heq af).2,?_⟩;refine sD (w0:=w) (H:=G) (φ := φ) (A:=A) hE 8 t ti xs ys r he hr 10000 (by omega) _ _ ?_ ?_ (l8 zL) (l8 zN)
    ·rw [b9];exact ⟨pF,rfl,zM⟩
    ·rw [b9];exact ⟨pG,rfl,zO⟩
   cases op<;>simp only [reduceCtorEq] at h
   case eql=>
    split at h
    ·rename_i r hr;simp only [Option.some.injEq] at h;subst h;obtain ⟨m1,m2⟩:=main r hr;exact ⟨.bool r,by simp only [Sem.run_bind,m1,Result.andThen_ok];rw [run_eql_struct,m2];rfl,.fr _ _ (.bool _)⟩
    ·simp at h
   case neq=>
    split at h
    ·rename_i r hr;simp only [Option.some.injEq] at h;subst h;obtain ⟨m1,m2⟩:=main r hr;exact ⟨.bool (!r),by simp only [Sem.run_bind,m1,Result.andThen_ok];rw [run_neq_struct,m2];rfl,.fr _ _ (.bool _)⟩
    ·simp at h
  |_=>
   simp only [aN] at h;cases he:E t with
   |none=>simp [he] at h
   |some ti=>simp only [he] at h;cases op<;>simp [isNil] at h
 |_=>
  simp only [aN] at h;cases he:E t with
  |none=>simp [he] at h
  |some ti=>
   simp only [he] at h;cases op<;>simp only [reduceCtorEq] at h
   case eql=>
    split at h
    ·rename_i r hr;simp only [Option.some.injEq] at h;subst h;refine sJ (hE _ _ he) hx hy hr ox oy hc (.inl ⟨rfl,rfl⟩)
    ·simp at h
   case neq=>
    split at h
    ·rename_i r hr;simp only [Option.some.injEq] at h;subst h;refine sJ (hE _ _ he) hx hy hr ox oy hc (.inr ⟨rfl,rfl⟩)
    ·simp at h
end ops
end Go.VS
namespace Go.VS
section ops
variable {P:Program} {E:aK} (hE: ∀t ti,E t=some ti→aU P t ti)
variable {w:World} {G:J} {φ :ag} {A:aj}
theorem ei {xs:List AV} {v:Value} {A:aj} (h:FR w A (.fz xs) v) (aI:xs≠[]): ∃c off cap n arr T fr,v= .slice (some ⟨c,off,none⟩) xs.length cap∧
 w.heap[c]? =some (.cells arr T fr)∧ ¬A c∧xs.length≤cap∧off+xs.length*n≤arr.size∧(∀(i:Nat) (x:AV),xs[i]? =some x→x.cells.length=n)∧
 (∀(j:Nat) (v:Value),j<xs.length*n→arr[off+j]? =some v→v.oneCell' =true)∧
 (∀(i:Nat) (x:AV) (j:Nat) (y:AV) (v:Value),xs[i]? =some x→x.cells[j]? =some y→arr[off+i*n+j]? =some v→FR w A y v):=by
 cases h with
 |c8=>exact absurd rfl aI
 |fz _ c off cap n arr T fr h1 h2 h3 h4 h5 h6 h7=>exact ⟨c,off,cap,n,arr,T,fr,rfl,h1,h2,h3,h4,h5,h6,h7⟩
theorem c9 {i n m:Nat} (h:i<m):i*n+n≤m*n:=by
 have:(i+1)*n≤m*n:=Nat.mul_le_mul_right n h;rw [Nat.add_mul] at this;omega
theorem zP {xs:List AV} {v:Value} {A:aj} (h:FR w A (.fz xs) v) {i:Nat} {y:AV} (hy:xs[i]? =some y):
 ∃c off cap,v= .slice (some ⟨c,off,none⟩) xs.length cap∧FR w A (.fe y 0) (.pointer (some ⟨c,off+i*y.cells.length,none⟩)):=by
 obtain ⟨c,off,cap,n,arr,T,fr,rfl,h1,h2,h3,h4,h5,h6,h7⟩:=ei h (by intro h;simp [h] at hy)
 have hn:=h5 i y hy;have hi:i<xs.length:=(List.getElem?_eq_some_iff.1 hy).1;have hle:=c9 (n:=n) hi;refine ⟨c,off,cap,rfl,?_⟩;rw [hn];have:=pK (w:=w) (A:=A) (x:=y) (off:=0) (o:=off+i*n) h1 h2 (by omega) (fun j v hj hv=>h6 (i*n+j) v (by omega) (by rw [←hv];congr 1;omega))
  (fun j z v hz hv=>h7 i y j z v hy hz hv)
 simpa using this
theorem lb {id ad off len:Nat} {v:Value} (hx:R w G φ A (.ref id ad off len) v) {b:bu} (hb:G.ap id ad=some b) (hl:0<len):
 ∃c b0 cap,φ id=some (.at_ c b0)∧v= .slice (some ⟨c,b0+off*b.sz,none⟩) len cap∧off+len≤b.el.length∧len≤cap∧b.el.length≤off+cap∧b0+(off+cap)*b.sz≤aR w c:=by
 obtain ⟨hv,_,hr⟩:=hx.dC;obtain ⟨loc,a,cap,h1,h2,h3,h4,h5,h6⟩:=(hr b hb).out;cases loc with
 |aP=>simp only at h6;rw [h6.1] at h3;simp at h3;omega
 |at_ c b0=>
  simp only at h6;rcases h6 with h6|⟨rfl,h7⟩
  ·omega
  ·exact ⟨c,b0,cap,h1,h2,h3,h4,h5,h7⟩
include hE in
theorem zQ {H0 H' :J} (hX:bg H0 G) {t:TypeId} {x i:AV} {a ai:Value} {z:AV} (hx:R w G φ A x a) (hi:R w G φ A i ai)
 (h:(match (generalizing:=false) E t,i with
 |some ti,.int _ n=>match ti.aw with
  | .sl e=>match E e with
   |some te=>match (generalizing:=false) x with
    | .fz xs=>if 0≤n then match xs[n.toNat]? with
     |some y=>if y.cells.length=te.sz then some (.fe y 0,H0) else none
     |none=>none
     else none
    | .ref id ad off len=>match H0.ap id ad with
     |some b=>if b.sz=te.sz∧0≤n∧n<len∧off+len≤b.el.length then some (.ptr id ad (off+n.toNat) 0,H0) else none
     |none=>none
    |_=>none
   |none=>none
  | .ar m e=>match E e with
   |some te=>if 0≤n∧n<m then match (generalizing:=false) x with
    | .ptr id ad idx off=>match H0.ap id ad with
     |some _=>some (.ptr id ad idx (off+n.toNat*te.sz),H0)
     |none=>none
    | .fe y off=>some (.fe y (off+n.toNat*te.sz),H0)
    |_=>none
    else none
   |none=>none
  |_=>none
 |_,_=>none)=some (z,H')): ∃v,(Instr.indexAt t a ai).run P w= .ok v w∧R w G φ A z v:=by
 split at h
 ·rename_i ti k n h1;have e1:=hi.ct;subst e1;split at h
  ·rename_i e hu;cases h2:E e with
   |none=>simp [h2] at h
   |some te=>
    simp only [h2] at h;split at h
    ·rename_i xs;split at h
     ·rename_i h0;split at h
      ·rename_i y hy;split at h
       ·rename_i hs;simp only [Option.some.injEq,Prod.mk.injEq] at h;obtain ⟨rfl,rfl⟩:=h;obtain ⟨c,off,cap,rfl,hf⟩:=zP hx.ei hy;have az:n.toNat<xs.length:=(List.getElem?_eq_some_iff.1 hy).1;rw [hs] at hf;exact ⟨_,sE (hE _ _ h1) (hE _ _ h2) hu h0 (by omega),.fr _ _ hf⟩
       ·simp at h
      ·simp at h
     ·simp at h
    ·rename_i id ad off len;split at h
     ·rename_i b hb;split at h
      ·rename_i hc;obtain ⟨hs,h0,hl,hle⟩:=hc;simp only [Option.some.injEq,Prod.mk.injEq] at h;obtain ⟨rfl,rfl⟩:=h;obtain ⟨c,b0,cap,aV,rfl,_⟩:=lb hx (hX.ap hb) (by omega)
       refine ⟨_,sE (hE _ _ h1) (hE _ _ h2) hu h0 hl,.ptr _ _ _ _ _ hx.dC.1 ⟨_,rfl⟩ fun b' au=>⟨c,b0,aV,?_⟩⟩
       rw [hX.ap hb] at au;simp only [Option.some.injEq] at au;subst au;rw [←hs,Nat.add_mul];congr 3;omega
      ·simp at h
     ·simp at h
    ·simp at h
  ·rename_i m e hu;cases h2:E e with
   |none=>simp [h2] at h
   |some te=>
    simp only [h2] at h;split at h
    ·rename_i hc;split at h
     ·rename_i id ad idx off;split at h
      ·rename_i b hb;simp only [Option.some.injEq,Prod.mk.injEq] at h;obtain ⟨rfl,rfl⟩:=h;obtain ⟨hv,_,hp⟩:=hx.gf;obtain ⟨c,b0,aV,rfl⟩:=hp b (hX.ap hb);refine ⟨_,sF (hE _ _ h1) (hE _ _ h2) hu hc.1 hc.2,.ptr _ _ _ _ _ hv ⟨_,rfl⟩ fun b' au=>⟨c,b0,aV,?_⟩⟩
       rw [hX.ap hb] at au;simp only [Option.some.injEq] at au;subst au;rw [Nat.add_assoc]
      ·simp at h
     ·rename_i y off;simp only [Option.some.injEq,Prod.mk.injEq] at h;obtain ⟨rfl,rfl⟩:=h;obtain ⟨c,p,arr,T,fr,rfl,k1,k2,k3,k4,k5⟩:=fw hx.fw;refine ⟨_,sF (hE _ _ h1) (hE _ _ h2) hu hc.1 hc.2,.fr _ _ ?_⟩;rw [Nat.add_assoc];exact pK k1 k2 k3 k4 k5
     ·simp at h
    ·simp at h
  ·simp at h
 ·simp at h
include hE in
theorem sN {H0 H' :J} (ae:St w G φ A) (hX:bg H0 G) {t:TypeId} {x:AV} {a:Value} {z:AV} (hx:R w G φ A x a)
 (h:(match E t with
 |some ti=>match (generalizing:=false) x with
  | .fe y off=>(match bY ti y off with|some v=>some (v,H0)|none=>none)
  | .ptr id ad idx off=>match H0.ap id ad with
   |some b=>match b.el[idx]? with
    |some y=>(match bY ti y off with|some v=>some (v,H0)|none=>none)
    |none=>none
   |none=>none
  |_=>none
 |none=>none)=some (z,H')): ∃v,(Instr.loadAt t a).run P w= .ok v w∧R w G φ A z v:=by
 split at h
 ·rename_i ti h1;split at h
  ·rename_i y off;split at h
   ·rename_i v hv;simp only [Option.some.injEq,Prod.mk.injEq] at h;obtain ⟨rfl,rfl⟩:=h;obtain ⟨c,p,arr,T,fr,rfl,k1,k2,k3,k4,k5⟩:=fw hx.fw;obtain ⟨u,hu,hr⟩:=sy (hE _ _ h1) k1 hv k3 (H:=G) (φ := φ) (A:=A) (fun j z v hz hv=> .fr _ _ (k5 j z v hz hv)) k4;exact ⟨u,by simp [Instr.loadAt,Instr.sureAddr,hu],hr⟩
   ·simp at h
  ·rename_i id ad idx off;split at h
   ·rename_i b hb;split at h
    ·rename_i y hy;split at h
     ·rename_i v hv;simp only [Option.some.injEq,Prod.mk.injEq] at h;obtain ⟨rfl,rfl⟩:=h;obtain ⟨_,_,hp⟩:=hx.gf;obtain ⟨c,b0,aV,rfl⟩:=hp b (hX.ap hb);obtain ⟨b',au,af⟩:=ae.ap id _ aV;have:=(J.bd (hX.ap hb)).1;rw [this] at au;simp only [Option.some.injEq] at au;subst au;obtain ⟨arr,T,fr,k1,_,k3,k4⟩:=af.here c b0 rfl;have az:idx<b.el.length:=(List.getElem?_eq_some_iff.1 hy).1;have hle:=c9 (n:=b.sz) az;have hs:=af.sized idx y hy;have jy: ∀(j:Nat) (v:Value),j<y.cells.length→arr[b0+idx*b.sz+j]? =some v→v.oneCell' =true:=fun j v hj hv=>
       (k4 idx y j (y.cells[j]) v hy (List.getElem?_eq_getElem hj) hv).2
      obtain ⟨u,hu,hr⟩:=sy (hE _ _ h1) k1 hv (o:=b0+idx*b.sz) (by omega) (H:=G) (φ := φ) (A:=A) (fun j z v hz hv=>(k4 idx y j z v hy hz hv).1) jy
      exact ⟨u,by simp [Instr.loadAt,Instr.sureAddr,hu],hr⟩
     ·simp at h
    ·simp at h
   ·simp at h
  ·simp at h
 ·simp at h
include hE in
theorem zR {t:TypeId} {x:AV} {a:Value} {f:Nat} {z:AV} {H0 H' :J} (hx:R w G φ A x a)
 (h:(match (generalizing:=false) E t,x with
 |some ti,.agg cs=>match ti.aw with
  | .st fs=>match fs[f]? with
   |some (o,ft)=>match E ft with
    |some tf=>(match bY tf (.agg cs) o with|some v=>some (v,H0)|none=>none)
    |none=>none
   |none=>none
  |_=>none
 |_,_=>none)=some (z,H')): ∃v,(Instr.field t a f).run P w= .ok v w∧R w G φ A z v:=by
 split at h
 ·rename_i ti cs h1;split at h
  ·rename_i fs hu;split at h
   ·rename_i o ft hf;split at h
    ·rename_i tf h2;split at h
     ·rename_i v hv;simp only [Option.some.injEq,Prod.mk.injEq] at h;obtain ⟨rfl,rfl⟩:=h;obtain ⟨vs,rfl,hl,ho,hp⟩:=hx.gH;obtain ⟨u,pM,hr⟩:=sA (hE _ _ h2) w hv hl hp ho;obtain ⟨gs,hg,ii,_⟩:=(hE _ _ h1).lZ w hu;rw [ii] at hf;simp only [List.getElem?_map,Option.map_eq_some_iff,Prod.mk.injEq] at hf;obtain ⟨g,cx,ij,pI⟩:=hf;have pJ:gs[f]? =some g:=by simpa using cx
      exact ⟨u,by simp [Instr.field,hg,pJ,asAgg,ij,pI,pM],hr⟩
     ·simp at h
    ·simp at h
   ·simp at h
  ·simp at h
 ·simp at h
include hE in
theorem zS {t:TypeId} {x i:AV} {a ai:Value} {z:AV} {H0 H' :J} (hx:R w G φ A x a) (hi:R w G φ A i ai)
 (h:(match (generalizing:=false) E t,i with
 |some ti,.int _ n=>match (generalizing:=false) ti.aw,x with
  | .str,.str l=>if 0≤n then match l[n.toNat]? with|some b=>some (.int .u8 b.toNat,H0)|none=>none else none
  | .ar m e,.agg cs=>match E e with
   |some te=>if 0≤n∧n<m then (match bY te (.agg cs) (n.toNat*te.sz) with|some v=>some (v,H0)|none=>none) else none
   |none=>none
  |_,_=>none
 |_,_=>none)=some (z,H')): ∃v,(Instr.index t a ai).run P w= .ok v w∧R w G φ A z v:=by
 split at h
 ·rename_i ti k n h1;have e1:=hi.ct;subst e1;split at h
  ·rename_i l hu;obtain ⟨s,rfl,rfl⟩:=hx.fb;split at h
   ·rename_i h0;split at h
    ·rename_i b hb;simp only [Option.some.injEq,Prod.mk.injEq] at h;obtain ⟨rfl,rfl⟩:=h;refine ⟨.int .u8 b.toNat,?_,.fr _ _ (.int _ _)⟩;have hs:s[n.toNat]? =some b:=by
      have:s.data[n.toNat]? =some b:=by simpa using hb
      simp only [getElem?_def] at this⊢;split at this
      ·rename_i az;rw [dif_pos (by exact az)]
       exact this
      ·simp at this
     simp [Instr.index,asIntOf,(hE _ _ h1).jw w hu,h0,hs]
    ·simp at h
   ·simp at h
  ·rename_i m e cs hu;split at h
   ·rename_i te h2;split at h
    ·rename_i hc;split at h
     ·rename_i v hv;simp only [Option.some.injEq,Prod.mk.injEq] at h;obtain ⟨rfl,rfl⟩:=h;obtain ⟨vs,rfl,hl,ho,hp⟩:=hx.gH;obtain ⟨u,pM,hr⟩:=sA (hE _ _ h2) w hv hl hp ho;exact ⟨u,by simp [Instr.index,asIntOf,(hE _ _ h1).pB w hu,hc.1,hc.2,(hE _ _ h2).sizeOf,pM],hr⟩
     ·simp at h
    ·simp at h
   ·simp at h
  ·simp at h
 ·simp at h
end ops
end Go.VS
namespace Go.VS
section ops
variable {P:Program} {E:aK} (hE: ∀t ti,E t=some ti→aU P t ti)
variable {w:World} {G:J} {φ :ag} {A:aj}
theorem run_sliceBound (k:IntKind) {i:Int} {y:Nat} (h0:0≤i) (h1:i≤y) (code:BoundsCode):(Instr.sliceBound (.int k i) y code).run P w= .ok i.toNat w:=by
 simp [Instr.sliceBound,asIntOf,h0,h1]
structure fM (x:Option Int) (v:Option Value):Prop where
 out:(x=none∧v=none)∨ ∃k i,x=some i∧v=some (.int k i)
theorem zT {x:Option AV} {v:Option Value} {r:Option Int} (h:eK x=some r) (hv:(x=none∧v=none)∨ ∃y u,x=some y∧v=some u∧R w G φ A y u):fM r v:=by
 rcases hv with ⟨rfl,rfl⟩|⟨y,u,rfl,rfl,hr⟩
 ·simp [eK] at h;exact ⟨.inl ⟨h.symm,rfl⟩⟩
 ·cases y with
  |int k n=>simp [eK] at h;have:=hr.ct;subst this;exact ⟨.inr ⟨k,n,h.symm,rfl⟩⟩
  |_=>simp [eK] at h
theorem nv {isSlice:Bool} {len cap:Nat} {lo hi:Option Int} {gJ gK:Option Value} (dI:fM lo gJ) (eA:fM hi gK)
 (h0:0≤lo.getD 0) (h1:lo.getD 0≤hi.getD len) (h2:hi.getD len≤cap):
 (Instr.sliceBounds isSlice len cap gJ gK none).run P w= .ok ((lo.getD 0).toNat,(hi.getD len).toNat,cap) w:=by
 unfold Instr.sliceBounds;rcases eA.out with ⟨rfl,rfl⟩|⟨k,i,rfl,rfl⟩
 ·rcases dI.out with ⟨rfl,rfl⟩|⟨j,l,rfl,rfl⟩
  ·simp
  ·simp only [Option.getD_some,Option.getD_none] at*;simp [run_sliceBound (P:=P) (w:=w) j h0 (show l≤(len:Int) from h1)]
 ·simp only [Option.getD_some] at*;have e1:=run_sliceBound (P:=P) (w:=w) k (i:=i) (y:=cap) (by omega) h2
  rcases dI.out with ⟨rfl,rfl⟩|⟨j,l,rfl,rfl⟩
  ·simp [e1]
  ·simp only [Option.getD_some] at*;have e2:=run_sliceBound (P:=P) (w:=w) j (i:=l) (y:=i.toNat) h0 (by omega)
   simp [e1,e2]
theorem nw {len cap:Nat} {lo hi mx:Option Int} {gJ gK gL:Option Value} (dI:fM lo gJ) (eA:fM hi gK) (ff:fM mx gL) {m:Int} (hm:mx=some m) (hh:hi.isSome)
 (h0:0≤lo.getD 0) (h1:lo.getD 0≤hi.getD len) (h2:hi.getD len≤m) (h3:m≤cap):
 (Instr.sliceBounds true len cap gJ gK gL).run P w= .ok ((lo.getD 0).toNat,(hi.getD len).toNat,m.toNat) w:=by
 unfold Instr.sliceBounds;subst hm;rcases ff.out with ⟨h,_⟩|⟨km,im,he,rfl⟩
 ·simp at h
 simp only [Option.some.injEq] at he;subst he;have e0:=run_sliceBound (P:=P) (w:=w) km (i:=m) (y:=cap) (by omega) h3
 rcases eA.out with ⟨rfl,rfl⟩|⟨k,i,rfl,rfl⟩
 ·simp at hh
 ·simp only [Option.getD_some] at*;have e1:=run_sliceBound (P:=P) (w:=w) k (i:=i) (y:=m.toNat) (by omega) (by omega)
  rcases dI.out with ⟨rfl,rfl⟩|⟨j,l,rfl,rfl⟩
  ·simp [e0,e1]
  ·simp only [Option.getD_some] at*;have e2:=run_sliceBound (P:=P) (w:=w) j (i:=l) (y:=i.toNat) h0 (by omega)
   simp [e0,e1,e2]
theorem pN {t e:TypeId} {ti:TI} (ht:aU P t ti) (hu:ti.aw= .sl e) (x:Value) (lo hi mx:Option Value):(Instr.sliceAt t x lo hi mx).run P w=(Instr.slice t x lo hi mx).run P w:=by
 unfold Instr.sliceAt;simp [ht.sl w hu]
theorem zU {t:TypeId} {ti:TI} (ht:aU P t ti) (hu:ti.aw= .str) (x:Value) (lo hi mx:Option Value):(Instr.sliceAt t x lo hi mx).run P w=(Instr.slice t x lo hi mx).run P w:=by
 unfold Instr.sliceAt;simp [ht.jw w hu]
theorem sO {xs:List AV} {v:Value} {A:aj} (h:FR w A (.fz xs) v) {l n sz:Nat} (hl:l+n≤xs.length) (aC:bD sz xs=true):
 ∃a cap,v= .slice a xs.length cap∧xs.length≤cap∧ ∀a' dZ,n≤dZ→(dZ≠0→a' =a.map (·.add (l*sz)))→FR w A (.fz ((xs.drop l).take n)) (.slice a' n dZ):=by
 by_cases aI:xs=[]
 ·subst aI;cases h with
  |c8 a cap=>
   refine ⟨a,cap,rfl,by simp,fun a' dZ hc _=> ?_⟩
   simp at hl;obtain ⟨rfl,rfl⟩:=hl;simpa using FR.c8 a' dZ
  |fz _ c off cap n arr T fr h1 h2 h3 h4 h5 h6 h7=>
   refine ⟨_,cap,rfl,by simp,fun a' dZ hc _=> ?_⟩
   simp at hl;obtain ⟨rfl,rfl⟩:=hl;simpa using FR.c8 a' dZ
 ·obtain ⟨c,off,cap,m,arr,T,fr,rfl,h1,h2,h3,h4,h5,h6,h7⟩:=ei h aI;refine ⟨_,cap,rfl,h3,fun a' dZ hc ha=> ?_⟩
  have hm:m=sz:=by
   obtain ⟨x,D_,rfl⟩:=List.exists_cons_of_ne_nil aI;have e1:=h5 0 x rfl;simp only [bD,List.all_cons,Bool.and_eq_true,beq_iff_eq] at aC;omega
  subst hm;have hlen:((xs.drop l).take n).length=n:=by simp;omega
  by_cases hn:n=0
  ·subst hn;simpa using FR.c8 a' dZ
  ·have zV:=ha (by omega)
   subst zV;simp only [Option.map_some,ie];have hle:l*m+n*m≤xs.length*m:=by rw [←Nat.add_mul];exact Nat.mul_le_mul_right m hl
   have:=FR.fz (w:=w) (A:=A) ((xs.drop l).take n) c (off+l*m) dZ m arr T fr h1 h2 (by omega) (by rw [hlen];omega) (fun i x hx=> ?_) (fun j v hj hv=> ?_) (fun i x j y v hx hy hv=> ?_)
   ·rwa [hlen] at this
   ·simp only [List.getElem?_take,List.getElem?_drop] at hx;split at hx
    ·exact h5 _ _ hx
    ·simp at hx
   ·rw [hlen] at hj;exact h6 (l*m+j) v (by omega) (by rw [←hv];congr 1;omega)
   ·simp only [List.getElem?_take,List.getElem?_drop] at hx;split at hx
    ·exact h7 _ _ j y v hx hy (by rw [←hv];congr 1;rw [Nat.add_mul];omega)
    ·simp at hx
theorem sP {t e:TypeId} {ti:TI} (hT:aU P t ti) (hu:ti.aw= .sl e) {a:Option Addr} {lo hi mx:Option Int} {gJ gK gL:Option Value} (dI:fM lo gJ) (eA:fM hi gK) (ff:fM mx gL)
 (h0:lo.getD 0=0) (h1:hi.getD 0=0) (h2:mx.getD 0=0) (zW:mx.isSome→hi.isSome) (aC: ∃n,(sizeOf e).run P w= .ok n w): ∃a',(Instr.sliceAt t (.slice a 0 0) gJ gK gL).run P w= .ok (.slice a' 0 0) w∧(a=none→a' =none):=by
 obtain ⟨n,hn⟩:=aC;rw [pN hT hu];rcases ff.out with ⟨rfl,rfl⟩|⟨km,im,rfl,rfl⟩
 ·have:=nv (P:=P) (w:=w) (isSlice:=true) (len:=0) (cap:=0) dI eA (by omega) (by simp;omega) (by simp;omega)
  have e0:(lo.getD 0).toNat=0:=by omega
  have e1:(hi.getD ((0:Nat):Int)).toNat=0:=by simp;omega
  rw [e0,e1] at this;exact ⟨a,by simp [Instr.slice,hT.sl w hu,this,hn],fun h=>h⟩
 ·simp only [Option.getD_some] at h2;subst h2;have:=nw (P:=P) (w:=w) (len:=0) (cap:=0) dI eA ff rfl (zW rfl) (by omega) (by simp;omega) (by simp;omega) (by simp)
  have e0:(lo.getD 0).toNat=0:=by omega
  have e1:(hi.getD ((0:Nat):Int)).toNat=0:=by simp;omega
  rw [e0,e1] at this;exact ⟨a,by simp [Instr.slice,hT.sl w hu,this,hn],fun h=>h⟩
include hE in
theorem zX {H0:J} (hX:bg H0 G) {t:TypeId} {x:AV} {a:Value} {lo hi mx:Option Int} {gJ gK gL:Option Value} {z:AV} (hx:R w G φ A x a) (dI:fM lo gJ) (eA:fM hi gK) (ff:fM mx gL)
 (h:dR E t x lo hi mx H0=some z): ∃v,(Instr.sliceAt t a gJ gK gL).run P w= .ok v w∧R w G φ A z v:=by
 unfold dR at h;cases h1:E t with
 |none=>simp [h1] at h
 |some ti=>
  simp only [h1] at h;have hT:=hE _ _ h1;split at h
  ·rename_i s;split at h
   ·rename_i hu;obtain ⟨bs,rfl,hs⟩:=hx.fb;split at h
    ·rename_i hc;simp only [Option.some.injEq] at h;subst h;obtain ⟨c0,c1,c2⟩:=hc;have hlen:s.length=bs.size:=by rw [←hs];exact Array.length_toList
     rw [hlen] at c1 c2⊢;have hm:gL=none:=by rcases ff.out with ⟨_,h⟩|⟨_,_,h,_⟩;exact h;simp at h
     subst hm;rw [zU hT hu];refine ⟨.string (bs.extract (lo.getD 0).toNat (hi.getD bs.size).toNat),?_,?_⟩
     ·have e:=nv (P:=P) (w:=w) (isSlice:=false) (len:=bs.size) (cap:=bs.size) dI eA c0 c1 c2;simp only [Instr.slice,Sem.run_bind,hT.jw w hu,Result.andThen_ok,Option.isSome_none,Bool.false_eq_true,if_false,e,Sem.run_pure]
     ·have:=FR.str (w:=w) (A:=A) (bs.extract (lo.getD 0).toNat (hi.getD bs.size).toNat);have e:(bs.extract (lo.getD 0).toNat (hi.getD bs.size).toNat).data.toList=(s.drop (lo.getD 0).toNat).take ((hi.getD bs.size).toNat-(lo.getD 0).toNat):=by
       rw [ByteArray.data_extract,Array.toList_extract,←hs,List.extract_eq_take_drop]
      rw [e] at this;exact .fr _ _ this
    ·simp at h
   ·simp at h
  ·rename_i xs;split at h
   ·rename_i e hu;cases h2:E e with
    |none=>simp [h2] at h
    |some te=>
     simp only [h2] at h;split at h
     ·simp at h
     ·rename_i aC;simp only [Bool.not_eq_true,Bool.not_eq_false'] at aC;have aC:bD te.sz xs=true:=by simpa using aC
      rw [pN hT hu];split at h
      ·rename_i zY;split at h
       ·rename_i hc;simp only [Option.some.injEq] at h;subst h;obtain ⟨c0,c1,c2⟩:=hc;have hm:gL=none:=by rcases ff.out with ⟨_,h⟩|⟨_,_,h,_⟩;exact h;simp at h
        subst hm;obtain ⟨a0,cap,rfl,gd,zZ⟩:=sO hx.ei (l:=(lo.getD 0).toNat) (n:=(hi.getD xs.length).toNat-(lo.getD 0).toNat) (by omega) aC
        refine ⟨.slice (if cap=(lo.getD 0).toNat then a0 else a0.map (·.add ((lo.getD 0).toNat*te.sz))) ((hi.getD xs.length).toNat-(lo.getD 0).toNat) (cap-(lo.getD 0).toNat),?_,.fr _ _ (zZ _ _ (by omega) fun aI=>by rw [if_neg (by omega)])⟩
        simp [Instr.slice,hT.sl w hu,nv (P:=P) (w:=w) (isSlice:=true) (len:=xs.length) (cap:=cap) dI eA c0 c1 (by omega),(hE _ _ h2).sizeOf]
       ·simp at h
      ·rename_i m;split at h
       ·rename_i hc;simp only [Option.some.injEq] at h;subst h;obtain ⟨c0,c1,c2,c3,c4⟩:=hc;obtain ⟨a0,cap,rfl,gd,_⟩:=sO hx.ei (l:=0) (n:=0) (by omega) aC
        have e3:=nw (P:=P) (w:=w) (len:=xs.length) (cap:=cap) dI eA ff rfl c0 c1 (by omega) (by omega) (by omega)
        have e4:(hi.getD xs.length).toNat-(lo.getD 0).toNat=0:=by omega
        have e5:m.toNat-(lo.getD 0).toNat=0:=by omega
        refine ⟨_,by simp [Instr.slice,hT.sl w hu,e3,(hE _ _ h2).sizeOf,e4,e5];rfl,.fr _ _ (.e0 _)⟩
       ·simp at h
   ·simp at h
  ·rename_i id ad off len;split at h
   ·rename_i e b hu hb;cases h2:E e with
    |none=>simp [h2] at h
    |some te=>
     simp only [h2] at h;split at h
     ·simp at h
     ·rename_i aC;simp only [ne_eq,Decidable.not_not] at aC;obtain ⟨hv,_,hr⟩:=hx.dC;obtain ⟨loc,a0,cap,k1,rfl,k3,k4,k5,k6⟩:=(hr b (hX.ap hb)).out;rw [pN hT hu];split at h
      ·rename_i zY;split at h
       ·rename_i hc;simp only [Option.some.injEq] at h;subst h;obtain ⟨c0,c1,c2⟩:=hc;have hm:gL=none:=by rcases ff.out with ⟨_,h⟩|⟨_,_,h,_⟩;exact h;simp at h
        subst hm;refine ⟨.slice (if cap=(lo.getD 0).toNat then a0 else a0.map (·.add ((lo.getD 0).toNat*te.sz))) ((hi.getD len).toNat-(lo.getD 0).toNat) (cap-(lo.getD 0).toNat),?_,?_⟩
        ·simp [Instr.slice,hT.sl w hu,nv (P:=P) (w:=w) (isSlice:=true) (len:=len) (cap:=cap) dI eA c0 c1 (by omega),(hE _ _ h2).sizeOf]
        ·refine .ref _ _ _ _ _ hv ⟨_,_,rfl⟩ fun b' au=> ?_
         rw [hX.ap hb] at au;simp only [Option.some.injEq] at au;subst au;refine ⟨loc,_,_,k1,rfl,by omega,by omega,by omega,?_⟩
         cases loc with
         |aP=>simp only at k6⊢;exact ⟨k6.1,fun hf=>by have:=k6.2 hf;omega⟩
         |at_ c b0=>
          simp only at k6⊢;rcases k6 with k6|⟨rfl,k7⟩
          ·left;omega
          ·by_cases hz:cap=(lo.getD 0).toNat
           ·left;omega
           ·right;rw [if_neg hz];simp only [Option.map_some,ie];refine ⟨by rw [Nat.add_mul,aC];congr 2;omega,?_⟩
            have:off+(lo.getD 0).toNat+(cap-(lo.getD 0).toNat)=off+cap:=by omega
            rw [this];exact k7
       ·simp at h
      ·rename_i m;split at h
       ·rename_i hc;simp only [Option.some.injEq] at h;subst h;obtain ⟨c0,c1,c2,c3,c4⟩:=hc;have e3:=nw (P:=P) (w:=w) (len:=len) (cap:=cap) dI eA ff rfl c0 c1 (by omega) (by omega) (by omega)
        have e4:(hi.getD len).toNat-(lo.getD 0).toNat=0:=by omega
        have e5:m.toNat-(lo.getD 0).toNat=0:=by omega
        refine ⟨_,by simp [Instr.slice,hT.sl w hu,e3,(hE _ _ h2).sizeOf,e4,e5];rfl,.fr _ _ (.e0 _)⟩
       ·split at h
        ·rename_i hc;simp only [Option.some.injEq] at h;subst h;obtain ⟨c0,c1,c2,c3,c4⟩:=hc;have e3:=nw (P:=P) (w:=w) (len:=len) (cap:=cap) dI eA ff rfl c0 c1 (by omega) (by omega) (by omega)
         exact ⟨_,by simp [Instr.slice,hT.sl w hu,e3,(hE _ _ h2).sizeOf];rfl,.fr _ _ (.undef _)⟩
        ·simp at h
   ·simp at h
  ·split at h
   ·rename_i e hu;split at h
    rotate_left
    ·simp at h
    rename_i te h2;split at h
    ·rename_i hc;simp only [Option.some.injEq] at h;subst h;have:=hx.du;subst this;obtain ⟨a',hr⟩:=sP hT hu (a:=none) dI eA ff hc.1 hc.2.1 hc.2.2.1 hc.2.2.2 ⟨_,(hE _ _ h2).sizeOf w⟩;exact ⟨_,hr.1,by rw [hr.2 rfl];exact .fr _ _ .nil⟩
    ·simp at h
   ·simp at h
  ·split at h
   ·rename_i e hu;split at h
    rotate_left
    ·simp at h
    rename_i te h2;split at h
    ·rename_i hc;simp only [Option.some.injEq] at h;subst h;obtain ⟨a0,rfl⟩:=hx.fc;obtain ⟨a',hr⟩:=sP hT hu (a:=a0) dI eA ff hc.1 hc.2.1 hc.2.2.1 hc.2.2.2 ⟨_,(hE _ _ h2).sizeOf w⟩;exact ⟨_,hr.1,.fr _ _ (.e0 _)⟩
    ·simp at h
   ·simp at h
  ·simp at h
end ops
end Go.VS
namespace Go.VS
theorem J.eB (H:J) (sz:Nat) (fx:Bool) (el:List AV):(H.new sz fx el).get H.bs.length=some ⟨H.st,sz,fx,el⟩:=by
 simp [J.new,J.get]
theorem J.sQ (H:J) (sz:Nat) (fx:Bool) (el:List AV) {id:Nat} (h:id<H.bs.length):(H.new sz fx el).get id=H.get id:=by
 simp [J.new,J.get,List.getElem?_append_left h]
theorem J.pO (H:J) (sz:Nat) (fx:Bool) (el:List AV):bg H (H.new sz fx el):=
 ⟨fun id b h=>by rw [J.sQ H sz fx el (J.gb h)];exact h,Nat.le_succ _⟩
theorem z6 (l:List Value): ∀(off k:Nat) (cs:Array Value),off+k+l.length≤cs.size→
 ((l.zipIdx k).foldl (fun cs (p:Value×Nat)=>cs.setIfInBounds (off+p.2) p.1) cs).size=cs.size∧
 ∀m,((l.zipIdx k).foldl (fun cs (p:Value×Nat)=>cs.setIfInBounds (off+p.2) p.1) cs)[m]? =if off+k≤m∧m<off+k+l.length then l[m-(off+k)]? else cs[m]? :=by
 induction l with
 |nil=>intro off k cs _;exact ⟨rfl,fun m=>by simp;intro h1 h2;omega⟩
 |cons x l ih=>
  intro off k cs h;simp only [List.length_cons] at h;obtain ⟨h1,h2⟩:=ih off (k+1) (cs.setIfInBounds (off+k) x) (by simp;omega)
  simp only [List.zipIdx_cons,List.foldl_cons];refine ⟨by rw [h1];simp,fun m=> ?_⟩
  rw [h2,Array.getElem?_setIfInBounds];simp only [List.length_cons];by_cases hm:m=off+k
  ·subst hm;rw [if_neg (by omega)]
   simp only [if_true];rw [if_pos (by omega),if_pos (by omega)]
   simp
  ·by_cases jz:off+(k+1)≤m∧m<off+(k+1)+l.length
   ·rw [if_pos jz,if_pos (by omega)]
    obtain ⟨q,rfl⟩: ∃q,m=off+k+1+q:=⟨m-(off+k+1),by omega⟩
    have e1:off+k+1+q-(off+(k+1))=q:=by omega
    have e2:off+k+1+q-(off+k)=q+1:=by omega
    rw [e1,e2];rfl
   ·rw [if_neg jz,if_neg (by omega),if_neg (by omega)]
theorem sR (vs:Array Value) (off:Nat) (cs:Array Value) (h:off+vs.size≤cs.size):
 (vs.zipIdx.foldl (fun cs (c,j)=>cs.setIfInBounds (off+j) c) cs).size=cs.size∧
 ∀m,(vs.zipIdx.foldl (fun cs (c,j)=>cs.setIfInBounds (off+j) c) cs)[m]? =if off≤m∧m<off+vs.size then vs[m-off]? else cs[m]? :=by
 have e:vs.zipIdx.foldl (fun cs (c,j)=>cs.setIfInBounds (off+j) c) cs=(vs.toList.zipIdx 0).foldl (fun cs (p:Value×Nat)=>cs.setIfInBounds (off+p.2) p.1) cs:=by
  rw [←Array.foldl_toList,Array.toList_zipIdx]
 rw [e];have:=z6 vs.toList off 0 cs (by simpa using h)
 simpa using this
theorem pP (cs:List AV) (off:Nat) (vs:List AV) (h:off+vs.length≤cs.length) (m:Nat):
 (splice cs off vs)[m]? =if off≤m∧m<off+vs.length then vs[m-off]? else cs[m]? :=by
 unfold splice;rw [List.append_assoc,List.getElem?_append];have hl:(cs.take off).length=off:=by simp;omega
 rw [hl];by_cases h1:m<off
 ·rw [if_pos h1,if_neg (by omega),List.getElem?_take,if_pos h1]
 ·rw [if_neg h1,List.getElem?_append];by_cases h2:m-off<vs.length
  ·rw [if_pos h2,if_pos (by omega)]
  ·rw [if_neg h2,if_neg (by omega),List.getElem?_drop]
   congr 1;omega
theorem j9 (cs:List AV) (off:Nat) (vs:List AV) (h:off+vs.length≤cs.length):(splice cs off vs).length=cs.length:=by
 unfold splice;simp;omega
section ops
variable {P:Program} {E:aK} (hE: ∀t ti,E t=some ti→aU P t ti)
variable {w:World} {G:J} {φ :ag} {A:aj}
theorem sT (gI:Nat×Nat) {H0:J} {sz:Nat} {el:List AV} {arr:Array Value} (T:TypeId) (ae:St w G φ A) (hX:bg (H0.new sz false el) G) (bB: φ H0.bs.length=none)
 (aC: ∀(i:Nat) (x:AV),el[i]? =some x→x.cells.length=sz) (hlen:el.length*sz≤arr.size) (ey: ∀j,j<arr.size+pad sz→ ¬(gI.1≤j∧j<gI.2))
 (iO: ∀(i:Nat) (x:AV) (j:Nat) (y:AV) (v:Value),el[i]? =some x→x.cells[j]? =some y→arr[i*sz+j]? =some v→R w G φ A y v∧v.oneCell' =true):
 ∃ak A',Out w G φ A (w.alloc (.cells arr T gI)) G ak A' ∧ak H0.bs.length=some (.at_ w.heap.size 0)∧
  ∀id loc,ak id=some loc→ φ id=some loc∨(H0.bs.length≤id∧id<(H0.new sz false el).bs.length):=by
 have hg:=hX.1 _ _ (J.eB H0 sz false el);have hv:H0.st<G.st:=Nat.lt_of_lt_of_le (Nat.lt_succ_self _) hX.2;refine ⟨_,_,zF gI ae hg bB hv aC arr T hlen ey iO,by simp,fun id loc h=> ?_⟩
 try simp only at h
 split at h
 ·rename_i hi;subst hi;exact .inr ⟨Nat.le_refl _,by simp [J.new]⟩
 ·exact .inl h
theorem j_ {H0:J} {sz:Nat} {el:List AV} {arr:Array Value} (T:TypeId) (ae:St w G φ A) (hX:bg (H0.new sz false el) G) (bB: φ H0.bs.length=none)
 (aC: ∀(i:Nat) (x:AV),el[i]? =some x→x.cells.length=sz) (hlen:el.length*sz≤arr.size)
 (iO: ∀(i:Nat) (x:AV) (j:Nat) (y:AV) (v:Value),el[i]? =some x→x.cells[j]? =some y→arr[i*sz+j]? =some v→R w G φ A y v∧v.oneCell' =true):
 ∃ak A',Out w G φ A (w.alloc (.cells arr T)) G ak A' ∧ak H0.bs.length=some (.at_ w.heap.size 0)∧
  ∀id loc,ak id=some loc→ φ id=some loc∨(H0.bs.length≤id∧id<(H0.new sz false el).bs.length):=
 sT (0,0) T ae hX bB aC hlen (fun j _ h=>absurd h.2 (Nat.not_lt_zero j)) iO
theorem z7 (ae:St w G φ A) (o:Obj):Out w G φ A (w.alloc o) G φ A:=by
 have aS:bM w G φ A (w.alloc o) G φ A:=⟨fun c a t fr hc hn=>⟨⟨fr,by rw [heap_alloc_old w _ (ew hc)];exact hc⟩,hn⟩,Nat.le_refl _,
  fun i b' au _=>⟨b',au,rfl,rfl,rfl,rfl,fun loc hl=>hl⟩,fun c hc=>by unfold aR;rw [heap_alloc_old w _ (Ow.lt ae hc)]⟩
 refine ⟨⟨ae.inj,ae.own,fun c hc=>by have:=ae.b7 c hc;simp;omega,fun i loc hl=> ?_⟩,
  ⟨rfl,rfl,rfl,by simp,fun c hc _=>heap_alloc_old w _ hc,fun c hc=>by unfold aR;rw [heap_alloc_old w _ hc],fun c hc=> .inl hc⟩,aS,fun c hc _=>hc⟩
 obtain ⟨b',cu,au⟩:=ae.ap i loc hl;refine ⟨b',cu,au.ad,au.sized,au.aP,fun c b0 h=> ?_⟩;obtain ⟨a,t,fr,h1,h2,h3,h4⟩:=au.here c b0 h;exact ⟨a,t,fr,by rw [heap_alloc_old w _ (ew h1)];exact h1,h2,h3,fun i x j y v hx hy hv=>⟨(h4 i x j y v hx hy hv).1.mono aS,(h4 i x j y v hx hy hv).2⟩⟩
theorem ka {id:Nat} {b:bu} {c len cap:Nat} (hg:G.get id=some b) (hv:b.ad<G.st) (aV: φ id=some (.at_ c 0)) (h1:len≤b.el.length) (h2:len≤cap) (h3:b.el.length≤cap) (h4:cap*b.sz≤aR w c):
 R w G φ A (.ref id b.ad 0 len) (.slice (some ⟨c,0,none⟩) len cap):=by
 refine .ref _ _ _ _ _ hv ⟨_,_,rfl⟩ fun b' au=> ?_
 have:=(J.bd au).1;rw [hg] at this;simp only [Option.some.injEq] at this;subst this;exact ⟨.at_ c 0,_,_,aV,rfl,by omega,h2,by omega,.inr ⟨by simp,by simpa using h4⟩⟩
theorem lf (w:World) (arr:Array Value) (T:TypeId):aR (w.alloc (.cells arr T)) w.heap.size=arr.size:=by
 unfold aR;rw [heap_alloc_new]
theorem kb {t:TypeId} {ti:TI} (ht:aU P t ti) {zA:AV} (h:eL ti=some zA) (w:World):
 ∃z,(zeroValue t).run P w= .ok z w∧z.cells.size=ti.sz∧zA.cells=ti.zero∧ti.zero.length=ti.sz∧dX z=ti.agg∧
  (∀(w:World) (A:aj) (j:Nat) (y:AV) (v:Value),ti.zero[j]? =some y→z.cells[j]? =some v→FR w A y v∧v.oneCell' =true):=by
 obtain ⟨z,h1,h2,h3,h4,h5⟩:=ht.zeroValue w;unfold eL at h;split at h
 ·rename_i hc;refine ⟨z,h1,h2,?_,hc.2,h3,fun w A j y v hy hv=>⟨?_,h4 j v hv⟩⟩
  ·rcases l6 h with ⟨_,rfl⟩|⟨_,he⟩
   ·rfl
   ·rw [he];have:=hc.1;rw [he] at this;simp at this;cases zA<;>first|rfl|simp [db] at this
  ·rw [h5] at hy;simp only [List.getElem?_map,Option.map_eq_some_iff,Array.getElem?_toList] at hy;obtain ⟨u,hu,rfl⟩:=hy;rw [hv] at hu;simp only [Option.some.injEq] at hu;subst hu;exact FR.ofValue w A v
 ·simp at h
include hE in
theorem z8 {H0 H' :J} (ae:St w G φ A) (hX:bg H' G) (bB:H0.bs.length<H'.bs.length→ φ H0.bs.length=none) {t:TypeId} {z:AV}
 (h:(match E t with
 |some ti=>match eL ti with
  |some z=>some (AV.ptr H0.bs.length H0.st 0 0,H0.new ti.sz false [z])
  |none=>none
 |none=>none)=some (z,H')):bn w G φ A H0 H' ((do pure (.value (←Instr.alloc t true (.tuple #[]))):Sem Next).run P w) z:=by
 split at h
 ·rename_i ti h1;split at h
  ·rename_i zA hz;simp only [Option.some.injEq,Prod.mk.injEq] at h;obtain ⟨rfl,rfl⟩:=h;obtain ⟨zv,e1,e2,e3,e4,_,e5⟩:=kb (hE _ _ h1) hz w;have cJ: ∀(i:Nat) (x:AV),[zA][i]? =some x→x.cells.length=ti.sz:=by
    intro i x hx;cases i with
    |zero=>simp at hx;subst hx;rw [e3,e4]
    |succ i=>simp at hx
   have eO: ∀(i:Nat) (x:AV) (j:Nat) (y:AV) (v:Value),[zA][i]? =some x→x.cells[j]? =some y→zv.cells[i*ti.sz+j]? =some v→R w G φ A y v∧v.oneCell' =true:=by
    intro i x j y v hx hy hv;cases i with
    |zero=>
     simp only [List.getElem?_cons_zero,Option.some.injEq,Nat.zero_mul,Nat.zero_add] at hx hv;subst hx;rw [e3] at hy;have:=e5 w A j y v hy hv;exact ⟨.fr _ _ this.1,this.2⟩
    |succ i=>simp at hx
   obtain ⟨ak,A',bq,aV,br⟩:=j_ (arr:=zv.cells) t ae hX (bB (by simp [J.new])) cJ (by simp [e2]) eO
   ·refine ⟨_,.pointer (some ⟨w.heap.size,0,none⟩),_,ak,A',by simp [Instr.alloc,e1,newVar,newRow],.inl rfl,pH (Nat.lt_of_lt_of_le (Nat.lt_succ_self _) hX.2) aV,bq,br⟩
  ·simp at h
 ·simp at h
include hE in
theorem z_ {H0 H' :J} (ae:St w G φ A) (hX:bg H' G) (bB:H0.bs.length<H'.bs.length→ φ H0.bs.length=none) {t:TypeId} {x z:AV} {a:Value} (hx:R w G φ A x a)
 (h:(match E t with
 |some ti=>if x.cells.length=ti.sz∧en x then some (AV.ptr H0.bs.length H0.st 0 0,H0.new ti.sz false [x]) else none
 |none=>none)=some (z,H')):bn w G φ A H0 H' ((do pure (.value (←Instr.box t a)):Sem Next).run P w) z:=by
 have _:= @hE;split at h
 ·rename_i ti h1;split at h
  ·rename_i hc;simp only [Option.some.injEq,Prod.mk.injEq] at h;obtain ⟨rfl,rfl⟩:=h;have hu:x≠ .undef:=by rintro rfl;simp [en,db] at hc
   obtain ⟨k1,k2⟩:=hx.cells hu;have k3:=hx.np hc.2;have cJ: ∀(i:Nat) (y:AV),[x][i]? =some y→y.cells.length=ti.sz:=by
    intro i y hy;cases i with
    |zero=>simp at hy;subst hy;exact hc.1
    |succ i=>simp at hy
   have eO: ∀(i:Nat) (x' :AV) (j:Nat) (y:AV) (v:Value),[x][i]? =some x' →x'.cells[j]? =some y→a.cells[i*ti.sz+j]? =some v→R w G φ A y v∧v.oneCell' =true:=by
    intro i x' j y v bQ hy hv
    cases i with
    |zero=>
     simp only [List.getElem?_cons_zero,Option.some.injEq,Nat.zero_mul,Nat.zero_add] at bQ hv;subst bQ
     exact ⟨k2 j y v hy hv,k3 j v hv⟩
    |succ i=>simp at bQ
   obtain ⟨ak,A',bq,aV,br⟩:=j_ (arr:=a.cells) t ae hX (bB (by simp [J.new])) cJ (by simp;omega) eO
   ·refine ⟨_,.pointer (some ⟨w.heap.size,0,none⟩),_,ak,A',by simp [Instr.box,newVar,newRow],.inl rfl,pH (Nat.lt_of_lt_of_le (Nat.lt_succ_self _) hX.2) aV,bq,br⟩
  ·simp at h
 ·simp at h
theorem l9 {sz m:Nat} {zero:Array Value} (hz:zero.size=sz) {i j:Nat} {v:Value} (hi:i<m) (hj:j<sz) (hv:((Array.range (m*sz)).map (fun k=>zero[k % zero.size]!))[i*sz+j]? =some v):zero[j]? =some v:=by
 have hle:=c9 (n:=sz) hi;have hk:i*sz+j<m*sz:=by omega
 rw [Array.getElem?_map,Array.getElem?_range,if_pos hk] at hv;simp only [Option.map_some,Option.some.injEq] at hv;rw [hz,Nat.add_comm,Nat.add_mul_mod_self_right,Nat.mod_eq_of_lt hj] at hv;rw [←hv];have:j<zero.size:=by omega
 simp [this]
theorem l_ (x:AV):(ep x).cells=x.cells.map lQ:=by
 cases x<;>rfl
theorem Aa {w:World} {A:aj} {x:AV} {v:Value} (h:FR w A x v):FR w A (lQ x) v:=by
 cases x with
 |nil=>cases h;exact .c8 none 0
 |e0=>cases h;exact .c8 _ 0
 |_=>exact h
theorem sU {t:TypeId} {ti:TI} (ht:aU P t ti) {zA:AV} (h:iM ti=some zA) (w:World):
 ∃z,(zeroValue t).run P w= .ok z w∧z.cells.size=ti.sz∧zA.cells.length=ti.sz∧
  (∀(w:World) (A:aj) (j:Nat) (y:AV) (v:Value),zA.cells[j]? =some y→z.cells[j]? =some v→FR w A y v∧v.oneCell' =true):=by
 unfold iM at h;split at h
 ·rename_i z0 kc;obtain ⟨z,h1,h2,h3,h4,_,h5⟩:=kb ht kc w;simp only [Option.some.injEq] at h;refine ⟨z,h1,h2,?_,fun w A j y v hy hv=> ?_⟩
  ·subst h;split
   ·rw [l_,List.length_map,h3,h4]
   ·rw [h3,h4]
  ·subst h;split at hy
   ·rw [l_,h3] at hy;simp only [List.getElem?_map,Option.map_eq_some_iff] at hy;obtain ⟨y',fg,rfl⟩:=hy;have:=h5 w A j y' v fg hv
    exact ⟨Aa this.1,this.2⟩
   ·rw [h3] at hy;exact h5 w A j y v hy hv
 ·simp at h
include hE in
theorem Ab {H0 H' :J} (ae:St w G φ A) (hX:bg H' G) (bB:H0.bs.length<H'.bs.length→ φ H0.bs.length=none) {t:TypeId} {l c z:AV} {al ac:Value} (hl:R w G φ A l al) (hc:R w G φ A c ac)
 (h:(match (generalizing:=false) cD E t,l,c with
 |some te,.int .i64 n,.int .i64 m=>
  match iM te with
  |some z=>if 0≤n∧n≤m∧roomy m.toNat te.bytes∧te.sz≠0 then some (AV.ref H0.bs.length H0.st 0 n.toNat,H0.new te.sz false (List.replicate m.toNat z)) else none
  |none=>none
 |_,_,_=>none)=some (z,H')):bn w G φ A H0 H' ((do pure (.value (←Instr.makeSlice t al ac)):Sem Next).run P w) z:=by
 split at h
 ·rename_i te n m bz;have e1:=hl.ct;have e2:=hc.ct;subst e1;subst e2;split at h
  ·rename_i zA hz;split at h
   ·rename_i hcnd;obtain ⟨c0,c1,c2,c3⟩:=hcnd;simp only [Option.some.injEq,Prod.mk.injEq] at h;obtain ⟨rfl,rfl⟩:=h;obtain ⟨ti,e,ht,hu,cF⟩: ∃ti e,E t=some ti∧ti.aw= .sl e∧E e=some te:=by
     unfold cD at bz;split at bz
     ·rename_i ti ht;split at bz
      ·rename_i e hu;exact ⟨ti,e,ht,hu,bz⟩
      ·simp at bz
     ·simp at bz
    obtain ⟨zv,z1,z2,z3,z5⟩:=sU (hE _ _ cF) hz w;obtain ⟨inf,i1,i2,_⟩:=(hE _ _ cF).typeInfo w;simp only [roomy,Bool.and_eq_true,decide_eq_true_eq] at c2;obtain ⟨r1,r2⟩:=c2;have hm:IntKind.i64.wrap m=m:=IntWalk.i64_in m (by omega)
    have hn:IntKind.i64.wrap n=n:=IntWalk.i64_in n (by omega)
    have hb: ¬((inf.bytes:Int)*m>2^48):=by
     rw [i2];have e1:(m.toNat+512)*te.bytes=m.toNat*te.bytes+512*te.bytes:=Nat.add_mul _ _ _;have e2:((te.bytes:Int))*m=((m.toNat*te.bytes:Nat):Int):=by
      rw [Int.natCast_mul,Int.toNat_of_nonneg (by omega),Int.mul_comm]
     rw [e2];omega
    have jA:=(hE _ _ ht).sl w hu
    let zc:Array Value:=if m.toNat*te.sz=0 then #[] else zv.cells
    let arr:Array Value:=(Array.range (m.toNat*te.sz)).map (fun k=>zc[k % zc.size]!)
    have cU:(Instr.makeSlice t (.int .i64 n) (.int .i64 m)).run P w= .ok (.slice (some ⟨w.heap.size,0,none⟩) n.toNat m.toNat) (w.alloc (.cells arr e)):=by
     unfold Instr.makeSlice;simp only [Sem.run_bind,jA,Result.andThen_ok,asInt,asIntOf,Sem.run_pure,i1,hn,hm];have t1:(decide (m<0)||decide ((inf.bytes:Int)*m>2^48))=false:=by simp;omega
     have t2:decide (n<0)=false:=by simp;omega
     have t3:decide (n>m)=false:=by simp;omega
     simp only [t1,t2,t3,Bool.or_self,Bool.false_eq_true,if_false,Result.andThen_ok,Sem.run_bind,run_askRoom,(hE _ _ cF).sizeOf];by_cases kc:m.toNat*te.sz=0
     ·simp [kc,newRow,arr,zc]
     ·simp [kc,z1,newRow,arr,zc]
    have df:arr.size=m.toNat*te.sz:=by simp [arr]
    have cJ: ∀(i:Nat) (x:AV),(List.replicate m.toNat zA)[i]? =some x→x.cells.length=te.sz:=by
     intro i x hx;simp only [List.getElem?_replicate] at hx;split at hx
     ·simp only [Option.some.injEq] at hx;subst hx;exact z3
     ·simp at hx
    have eO: ∀(i:Nat) (x:AV) (j:Nat) (y:AV) (v:Value),(List.replicate m.toNat zA)[i]? =some x→x.cells[j]? =some y→arr[i*te.sz+j]? =some v→R w G φ A y v∧v.oneCell' =true:=by
     intro i x j y v hx hy hv;simp only [List.getElem?_replicate] at hx;split at hx
     ·rename_i hi;simp only [Option.some.injEq] at hx;subst hx;have hj:j<te.sz:=by rw [←z3];exact (List.getElem?_eq_some_iff.1 hy).1
      have aI: ¬(m.toNat*te.sz=0):=by
       intro h0;rcases Nat.mul_eq_zero.1 h0 with h0|h0<;>omega
      have bA:zv.cells[j]? =some v:=by
       have Ac:zc=zv.cells:=by simp only [zc];rw [if_neg aI]
       refine l9 z2 hi hj ?_;rw [←hv];simp only [arr,Ac]
      have:=z5 w A j y v hy bA;exact ⟨.fr _ _ this.1,this.2⟩
     ·simp at hx
    obtain ⟨ak,A',bq,aV,br⟩:=j_ (arr:=arr) e ae hX (bB (by simp [J.new])) cJ (by simp [df]) eO
    ·have hg:=hX.1 _ _ (J.eB H0 te.sz false (List.replicate m.toNat zA));refine ⟨_,_,_,ak,A',by simp only [Sem.run_bind,cU,Result.andThen_ok,Sem.run_pure];rfl,.inl rfl,
      ka hg (Nat.lt_of_lt_of_le (Nat.lt_succ_self _) hX.2) aV (by simp;omega) (by omega) (by simp) (by rw [lf,df];exact Nat.le_refl _),bq,br⟩
   ·simp at h
  ·simp at h
 ·simp at h
end ops
end Go.VS
namespace Go.VS
section ops
variable {P:Program} {E:aK} (hE: ∀t ti,E t=some ti→aU P t ti)
variable {w:World} {G:J} {φ :ag} {A:aj}
theorem pQ {x:AV} (h:en x=true):x≠ .undef:=by rintro rfl;simp [en,db] at h
theorem pR {sV placeC:Nat→Option (Nat×Nat)} (hp: ∀i o s,sV i=some (o,s)→placeC i=some (o,s)):
 ∀(ps:List (Nat×AV)) (qs:List (Nat×Value)) (cs:List AV) (vs:Array Value) (a7:List AV),ps.length=qs.length→
 (∀(k:Nat) (p:Nat×AV) (q:Nat×Value),ps[k]? =some p→qs[k]? =some q→p.1=q.1∧R w G φ A p.2 q.2)→cs.length=vs.size→
 (∀(j:Nat) (y:AV) (v:Value),cs[j]? =some y→vs[j]? =some v→R w G φ A y v∧v.oneCell' =true)→gy sV cs ps=some a7→
 ∃cj,Instr.fill placeC vs qs=some cj∧a7.length=cj.size∧cj.size=vs.size∧ ∀(j:Nat) (y:AV) (v:Value),a7[j]? =some y→cj[j]? =some v→R w G φ A y v∧v.oneCell' =true
 |[],[],cs,vs,a7,_,_,hl,hc,h=>by
  simp only [gy,Option.some.injEq] at h;subst h;exact ⟨vs,rfl,hl,rfl,hc⟩
 |[],_::_,_,_,_,h,_,_,_,_=>by simp at h
 |_::_,[],_,_,_,h,_,_,_,_=>by simp at h
 |(i,x)::ps,(i',v)::qs,cs,vs,a7,hlen,hr,hl,hc,h=>by
  obtain ⟨hi,hx⟩:=hr 0 _ _ rfl rfl;simp only at hi hx;subst hi;simp only [gy] at h;split at h
  ·simp at h
  ·rename_i off size ik;split at h
   ·rename_i hcnd;obtain ⟨c1,c2,c3⟩:=hcnd;obtain ⟨k1,k2⟩:=hx.cells (pQ c3);have k3:=hx.np c3;have aC:v.cells.size=size:=by omega
    have hle:off+v.cells.size≤vs.size:=by omega
    obtain ⟨f1,f2⟩:=sR v.cells off vs hle;have ih:=pR hp ps qs (splice cs off x.cells) (v.cells.zipIdx.foldl (fun cs (c,j)=>cs.setIfInBounds (off+j) c) vs) a7 (by simpa using hlen) (fun k p q pS pT=>hr (k+1) p q pS pT)
     (by rw [f1,j9 _ _ _ (by omega)];exact hl)
     (fun j y u hy hu=>by
      rw [pP _ _ _ (by omega)] at hy
      rw [f2] at hu;rw [k1] at hy;split at hy
      ·rename_i hj;rw [if_pos hj] at hu;exact ⟨k2 _ _ _ hy hu,k3 _ _ hu⟩
      ·rename_i hj;rw [if_neg hj] at hu;exact hc _ _ _ hy hu) h
    obtain ⟨cj,g1,g2,g3,g4⟩:=ih;refine ⟨cj,?_,g2,by rw [g3,f1],g4⟩
    simp only [Instr.fill,hp _ _ _ ik];rw [if_neg (by simp;omega)]
    exact g1
   ·simp at h
theorem pU {sz:Nat} (hz:sz≠0):
 ∀(ps:List (Nat×AV)) (qs:List (Nat×Value)) (el:List AV) (vs:Array Value) (il:List AV),ps.length=qs.length→
 (∀(k:Nat) (p:Nat×AV) (q:Nat×Value),ps[k]? =some p→qs[k]? =some q→p.1=q.1∧R w G φ A p.2 q.2)→vs.size=el.length*sz→
 (∀(i:Nat) (x:AV),el[i]? =some x→x.cells.length=sz)→
 (∀(i:Nat) (x:AV) (j:Nat) (y:AV) (v:Value),el[i]? =some x→x.cells[j]? =some y→vs[i*sz+j]? =some v→R w G φ A y v∧v.oneCell' =true)→jr sz el ps=some il→
 ∃cj,Instr.fill (fun i=>some (i*sz,sz)) vs qs=some cj∧cj.size=il.length*sz∧il.length=el.length∧(∀(i:Nat) (x:AV),il[i]? =some x→x.cells.length=sz)∧
  (∀(i:Nat) (x:AV) (j:Nat) (y:AV) (v:Value),il[i]? =some x→x.cells[j]? =some y→cj[i*sz+j]? =some v→R w G φ A y v∧v.oneCell' =true)
 |[],[],el,vs,il,_,_,hl,hs,hc,h=>by
  simp only [jr,Option.some.injEq] at h;subst h;exact ⟨vs,rfl,hl,rfl,hs,hc⟩
 |[],_::_,_,_,_,h,_,_,_,_,_=>by simp at h
 |_::_,[],_,_,_,h,_,_,_,_,_=>by simp at h
 |(i,x)::ps,(i',v)::qs,el,vs,il,hlen,hr,hl,hs,hc,h=>by
  obtain ⟨hi,hx⟩:=hr 0 _ _ rfl rfl;simp only at hi hx;subst hi;simp only [jr] at h;split at h
  ·rename_i hcnd;obtain ⟨c1,c2,c3⟩:=hcnd;obtain ⟨k1,k2⟩:=hx.cells (pQ c3);have k3:=hx.np c3;have Ea:=c9 (n:=sz) c1;have hle:i*sz+v.cells.size≤vs.size:=by omega
   obtain ⟨f1,f2⟩:=sR v.cells (i*sz) vs hle;have ih:=pU hz ps qs (el.set i x) (v.cells.zipIdx.foldl (fun cs (c,j)=>cs.setIfInBounds (i*sz+j) c) vs) il (by simpa using hlen) (fun k p q pS pT=>hr (k+1) p q pS pT)
    (by rw [f1,List.length_set];exact hl)
    (fun k y hy=>by
     rw [List.getElem?_set] at hy;split at hy
     ·simp only [Option.some.injEq] at hy;first|(rw [←hy.2];exact c2)|(rw [←hy];exact c2)
     ·exact hs _ _ hy)
    (fun k y j u z hy hu eC=>by
     rw [f2] at eC;have Ad:j<y.cells.length:=(List.getElem?_eq_some_iff.1 hu).1;rw [List.getElem?_set] at hy;split at hy
     ·rename_i hk;subst hk;simp only [Option.some.injEq] at hy;have Ae:x=y:=by first|exact hy.2|exact hy
      subst Ae;rw [if_pos (by omega)] at eC
      have:i*sz+j-i*sz=j:=by omega
      rw [this] at eC;exact ⟨k2 _ _ _ hu eC,k3 _ _ eC⟩
     ·rename_i hk;have gi:j<sz:=by rw [←hs k y hy];exact Ad
      rw [if_neg (by
       intro hh;rcases Nat.lt_or_gt_of_ne hk with h1|h1
       ·have:=c9 (n:=sz) h1;omega
       ·have:=c9 (n:=sz) h1;omega)] at eC
      exact hc _ _ _ _ _ hy hu eC) h
   obtain ⟨cj,g1,g2,g3,g4,g5⟩:=ih;refine ⟨cj,?_,g2,by rw [g3,List.length_set],g4,g5⟩
   simp only [Instr.fill];rw [if_neg (by simp;omega)]
   exact g1
  ·simp at h
theorem nx {_E:aK} {s:ah} {ρ :Operand→Value} {parts:Array (Nat×Operand)} (aW: ∀p∈parts.toList,R w G φ A (ev s p.2) (ρ p.2)):
 (parts.toList.map fun p=>(p.1,ev s p.2)).length=((parts.map fun (i,x)=>(i,ρ x)).toList).length∧
 ∀(k:Nat) (p:Nat×AV) (q:Nat×Value),(parts.toList.map fun p=>(p.1,ev s p.2))[k]? =some p→((parts.map fun (i,x)=>(i,ρ x)).toList)[k]? =some q→p.1=q.1∧R w G φ A p.2 q.2:=by
 refine ⟨by simp,fun k p q hp hq=> ?_⟩
 simp only [Array.toList_map,List.getElem?_map,Option.map_eq_some_iff] at hp hq;obtain ⟨a,ha,rfl⟩:=hp;obtain ⟨b,hb,rfl⟩:=hq;rw [ha] at hb;simp only [Option.some.injEq] at hb;subst hb;exact ⟨rfl,aW a (List.mem_of_getElem? ha)⟩
theorem Af {α β :Type} (f: α →Sem β) (g: α → β) (xs:Array α) (h: ∀x∈xs.toList,(f x).run P w= .ok (g x) w):(xs.mapM f).run P w= .ok (xs.map g) w:=by
 rw [Array.mapM_eq_mapM_toList,Sem.run_map];have: ∀l:List α,(∀x∈l,(f x).run P w= .ok (g x) w)→(l.mapM f).run P w= .ok (l.map g) w:=by
  intro l;induction l with
  |nil=>intro _;simp
  |cons x l ih=>
   intro h;simp [h x (by simp),ih (fun y hy=>h y (by simp [hy]))]
 rw [this _ h];simp only [Result.andThen_ok];congr 1;apply Array.ext';simp
include hE in
theorem Ag {H0 H' :J} {t:TypeId} {parts:Array (Nat×Operand)} {s:ah} {ρ :Operand→Value} {z:AV} (aW: ∀p∈parts.toList,R w G φ A (ev s p.2) (ρ p.2))
 (h:(match E t with
 |some ti=>match ti.aw with
  | .st fs=>if !(fs.all fun f=>(E f.2).isSome)|| !(ti.zero.all db) then none else
   (match ((gy (fun i=>match fs[i]? with|some (o,ft)=>(E ft).map fun tf=>(o,tf.sz)|none=>none) ti.zero (parts.toList.map fun p=>(p.1,ev s p.2))).map AV.agg) with|some v=>some (v,H0)|none=>none)
  | .ar n e=>match E e with
   |some te=>if !(ti.zero.all db) then none else
    (match ((gy (fun i=>if i<n then some (i*te.sz,te.sz) else none) ti.zero (parts.toList.map fun p=>(p.1,ev s p.2))).map AV.agg) with|some v=>some (v,H0)|none=>none)
   |none=>none
  |_=>none
 |none=>none)=some (z,H')): ∃v,(Instr.build t (parts.map fun (i,x)=>(i,ρ x))).run P w= .ok v w∧R w G φ A z v:=by
 obtain ⟨p1,p2⟩:=nx (_E:=E) aW;split at h
 ·rename_i ti h1;have hT:=hE _ _ h1;obtain ⟨zv,z1,z2,z3,z4,z5⟩:=hT.zeroValue w;have cK:ti.zero.length=zv.cells.size:=by rw [z5];simp
  have sW: ∀(j:Nat) (y:AV) (v:Value),ti.zero[j]? =some y→zv.cells[j]? =some v→R w G φ A y v∧v.oneCell' =true:=by
   intro j y v hy hv;rw [z5] at hy;simp only [List.getElem?_map,Option.map_eq_some_iff,Array.getElem?_toList] at hy;obtain ⟨u,hu,rfl⟩:=hy;rw [hv] at hu;simp only [Option.some.injEq] at hu;subst hu;exact ⟨.fr _ _ (FR.ofValue w A v),z4 j v hv⟩
  split at h
  ·rename_i fs hu;split at h
   ·simp at h
   ·rename_i sY;simp only [Bool.or_eq_true,Bool.not_eq_true',not_or,Bool.not_eq_false] at sY;split at h
    ·rename_i v hv;simp only [Option.some.injEq,Prod.mk.injEq] at h;obtain ⟨rfl,rfl⟩:=h;simp only [Option.map_eq_some_iff] at hv;obtain ⟨a7,hcs,rfl⟩:=hv;obtain ⟨gs,hg,ii,_,_⟩:=hT.lZ w hu
     let ny:Field→Nat:=fun f=>((E f.type).map (·.sz)).getD 0
     have aC: ∀f∈gs.toList,(E f.type).isSome:=by
      intro f hf;have:=List.all_eq_true.1 sY.1 (f.offset,f.type) (by rw [ii];exact List.mem_map.2 ⟨f,hf,rfl⟩)
      exact this
     have hm:(gs.mapM fun f=>(do pure (f.offset,←sizeOf f.type):Sem (Nat×Nat))).run P w= .ok (gs.map fun f=>(f.offset,ny f)) w:=by
      refine Af _ _ _ fun f hf=> ?_;obtain ⟨tf,la⟩:=Option.isSome_iff_exists.1 (aC f hf);simp [(hE _ _ la).sizeOf,ny,la]
     obtain ⟨cj,f1,f2,f3,f4⟩:=pR (placeC:=((gs.map fun f=>(f.offset,ny f))[·]?)) (fun i o sz ik=>by
      split at ik
      ·rename_i o' ft pV
       simp only [Option.map_eq_some_iff,Prod.mk.injEq] at ik;obtain ⟨tf,la,rfl,rfl⟩:=ik;rw [ii] at pV;simp only [List.getElem?_map,Option.map_eq_some_iff,Prod.mk.injEq,Array.getElem?_toList] at pV;obtain ⟨g,cx,rfl,rfl⟩:=pV;simp [cx,ny,la]
      ·simp at ik) _ _ _ zv.cells _ p1 p2 cK sW hcs
     refine ⟨.agg cj,?_,.agg _ _ f2 (fun j v hv=> ?_) fun i x v hx hv=>(f4 i x v hx hv).1⟩
     ·simp only [Instr.build,Sem.run_bind,z1,Result.andThen_ok,hg,hm,f1,Sem.run_pure]
     ·have hj:j<a7.length:=by rw [f2];exact (Array.getElem?_eq_some_iff.1 hv).1
      exact (f4 j _ v (List.getElem?_eq_getElem hj) hv).2
    ·simp at h
  ·rename_i n e hu;split at h
   ·rename_i te h2;split at h
    ·simp at h
    ·split at h
     ·rename_i v hv;simp only [Option.some.injEq,Prod.mk.injEq] at h;obtain ⟨rfl,rfl⟩:=h;simp only [Option.map_eq_some_iff] at hv;obtain ⟨a7,hcs,rfl⟩:=hv;obtain ⟨cj,f1,f2,f3,f4⟩:=pR (placeC:=fun i=>some (i*te.sz,te.sz)) (fun i o sz ik=>by
       split at ik
       ·exact ik
       ·simp at ik) _ _ _ zv.cells _ p1 p2 cK sW hcs
      refine ⟨.agg cj,?_,.agg _ _ f2 (fun j v hv=> ?_) fun i x v hx hv=>(f4 i x v hx hv).1⟩
      ·simp only [Instr.build,Sem.run_bind,z1,Result.andThen_ok,hT.pB w hu,(hE _ _ h2).sizeOf,f1,Sem.run_pure]
      ·have hj:j<a7.length:=by rw [f2];exact (Array.getElem?_eq_some_iff.1 hv).1
       exact (f4 j _ v (List.getElem?_eq_getElem hj) hv).2
     ·simp at h
   ·simp at h
  ·simp at h
 ·simp at h
theorem kd {t:TypeId} {te:TI} (h:cD E t=some te): ∃ti e,E t=some ti∧ti.aw= .sl e∧E e=some te:=by
 unfold cD at h;split at h
 ·rename_i ti ht;split at h
  ·rename_i e hu;exact ⟨ti,e,ht,hu,h⟩
  ·simp at h
 ·simp at h
include hE in
theorem Ah {H0 H' :J} (ae:St w G φ A) (hX:bg H' G) (bB:H0.bs.length<H'.bs.length→ φ H0.bs.length=none) {t:TypeId} {len:Nat} {parts:Array (Nat×Operand)} {s:ah} {ρ :Operand→Value} {z:AV}
 (aW: ∀p∈parts.toList,R w G φ A (ev s p.2) (ρ p.2))
 (h:(match cD E t with
 |some te=>if len=0 then (if parts.size=0 then some (AV.e0,H0) else none) else
  match eL te with
  |some z=>if len*te.sz≤1000000∧te.sz≠0 then
   match jr te.sz (List.replicate len z) (parts.toList.map fun p=>(p.1,ev s p.2)) with
   |some el=>some (.ref H0.bs.length H0.st 0 len,H0.new te.sz false el)
   |none=>none
   else none
  |none=>none
 |none=>none)=some (z,H')):bn w G φ A H0 H' ((do pure (.value (←Instr.buildSlice t len (parts.map fun (i,x)=>(i,ρ x)))):Sem Next).run P w) z:=by
 obtain ⟨p1,p2⟩:=nx (_E:=E) aW;split at h
 ·rename_i te bz;obtain ⟨ti,e,ht,hu,cF⟩:=kd bz;have jA:=(hE _ _ ht).sl w hu;split at h
  ·rename_i cL;subst cL;split at h
   ·rename_i Ai;simp only [Option.some.injEq,Prod.mk.injEq] at h;obtain ⟨rfl,rfl⟩:=h;have Aj:parts= #[]:=Array.eq_empty_of_size_eq_zero Ai;subst Aj;refine ⟨_,.slice (some ⟨w.heap.size,0,none⟩) 0 0,w.alloc (.cells #[] e),φ,A,?_,.inl rfl,.fr _ _ (.e0 _),z7 ae _,fun _ _ h=> .inl h⟩;have gh:Array.range 0= #[]:=by simp
    simp [Instr.buildSlice,jA,(hE _ _ cF).sizeOf,Instr.fill,newRow,gh]
   ·simp at h
  ·rename_i cL;split at h
   ·rename_i zA hz;split at h
    ·rename_i hc;split at h
     ·rename_i el bG;simp only [Option.some.injEq,Prod.mk.injEq] at h;obtain ⟨rfl,rfl⟩:=h;obtain ⟨zv,z1,z2,z3,z4,_,z5⟩:=kb (hE _ _ cF) hz w;have aI: ¬(len*te.sz=0):=by
       intro h0;rcases Nat.mul_eq_zero.1 h0 with h0|h0<;>omega
      obtain ⟨cj,f1,f2,f3,f4,f5⟩:=pU (w:=w) (G:=G) (φ := φ) (A:=A) hc.2 _ _ (List.replicate len zA) ((Array.range (len*te.sz)).map (fun k=>zv.cells[k % zv.cells.size]!)) _ p1 p2
       (by simp) (fun i x hx=>by
        simp only [List.getElem?_replicate] at hx;split at hx
        ·simp only [Option.some.injEq] at hx;subst hx;rw [z3,z4]
        ·simp at hx)
       (fun i x j y v hx hy hv=>by
        simp only [List.getElem?_replicate] at hx;split at hx
        ·rename_i hi;simp only [Option.some.injEq] at hx;subst hx;rw [z3] at hy;have hj:j<te.sz:=by rw [←z4];exact (List.getElem?_eq_some_iff.1 hy).1
         have:=z5 w A j y v hy (l9 z2 hi hj hv);exact ⟨.fr _ _ this.1,this.2⟩
        ·simp at hx) bG
      have hlen:el.length=len:=by rw [f3];simp
      obtain ⟨ak,A',bq,aV,br⟩:=j_ (arr:=cj) e ae hX (bB (by simp [J.new])) f4 (by rw [f2];exact Nat.le_refl _) f5
      have hg:=hX.1 _ _ (J.eB H0 te.sz false el);refine ⟨_,.slice (some ⟨w.heap.size,0,none⟩) len len,w.alloc (.cells cj e),ak,A',?_,.inl rfl,
       ka hg (Nat.lt_of_lt_of_le (Nat.lt_succ_self _) hX.2) aV (by simp [hlen]) (Nat.le_refl _) (by simp [hlen]) (by rw [lf,f2,hlen];exact Nat.le_refl _),bq,br⟩
      have pW: ¬(len*te.sz>2^24):=by omega
      simp only [Instr.buildSlice,Sem.run_bind,jA,Result.andThen_ok,(hE _ _ cF).sizeOf,pW,aI,if_false,z1,f1,Sem.run_pure,newRow,run_newObj,World.alloc_eq]
     ·simp at h
    ·simp at h
   ·simp at h
 ·simp at h
end ops
end Go.VS
namespace Go.VS
section ops
variable {P:Program} {E:aK} (hE: ∀t ti,E t=some ti→aU P t ti)
variable {w:World} {G:J} {φ :ag} {A:aj}
structure pX (w:World) (G:J) (φ :ag) (A:aj) (xs:List AV) (v:Value) (sz:Nat):Prop where
 out:(xs=[]∧ ∃a cap,v= .slice a 0 cap)∨ ∃c o cap arr T fr,v= .slice (some ⟨c,o,none⟩) xs.length cap∧w.heap[c]? =some (.cells arr T fr)∧o+xs.length*sz≤arr.size∧
  (∀(i:Nat) (x:AV),xs[i]? =some x→x.cells.length=sz)∧
  ∀(i:Nat) (x:AV) (j:Nat) (y:AV) (u:Value),xs[i]? =some x→x.cells[j]? =some y→arr[o+i*sz+j]? =some u→R w G φ A y u∧u.oneCell' =true
theorem iP {sz:Nat} {xs:List AV} (h:bD sz xs=true) {i:Nat} {x:AV} (hx:xs[i]? =some x):x.cells.length=sz:=by
 have:=List.all_eq_true.1 h x (List.mem_of_getElem? hx);simpa using this
theorem sZ {k sz n:Nat} (hk:k<n*sz) (hs:0<sz):k/sz<n:=(Nat.div_lt_iff_lt_mul hs).2 hk
theorem pY {H0:J} (ae:St w G φ A) (hX:bg H0 G) {x:AV} {v:Value} {xs:List AV} {sz:Nat} (hx:R w G φ A x v) (h:cC H0 x=some xs) (hs:bD sz xs=true) (hn: ∀s,x≠ .str s):
 pX w G φ A xs v sz:=by
 cases x with
 |nil=>simp [cC] at h;subst h;have:=hx.du;subst this;exact ⟨.inl ⟨rfl,_,_,rfl⟩⟩
 |e0=>simp [cC] at h;subst h;obtain ⟨a,rfl⟩:=hx.fc;exact ⟨.inl ⟨rfl,_,_,rfl⟩⟩
 |fz ys=>
  simp only [cC,Option.some.injEq] at h;subst h;by_cases aI:ys=[]
  ·subst aI;have:=hx.ei;cases this with
   |c8 a cap=>exact ⟨.inl ⟨rfl,_,_,rfl⟩⟩
   |fz=>exact ⟨.inl ⟨rfl,_,_,rfl⟩⟩
  ·obtain ⟨c,off,cap,n,arr,T,fr,rfl,h1,h2,h3,h4,h5,h6,h7⟩:=ei hx.ei aI;have hm:n=sz:=by
    obtain ⟨y,aX,rfl⟩:=List.exists_cons_of_ne_nil aI;exact (h5 0 y rfl).symm.trans (iP (i:=0) hs rfl)
   subst hm;refine ⟨.inr ⟨c,off,cap,arr,T,fr,rfl,h1,h4,h5,fun i x j y u hx hy hu=>⟨.fr _ _ (h7 i x j y u hx hy hu),?_⟩⟩⟩;have hi:i<ys.length:=(List.getElem?_eq_some_iff.1 hx).1;have hj:j<x.cells.length:=(List.getElem?_eq_some_iff.1 hy).1;have hle:=c9 (n:=n) hi;have:=h5 i x hx;exact h6 (i*n+j) u (by omega) (by rw [←hu];congr 1;omega)
 |ref id ad off len=>
  simp only [cC] at h;split at h
  ·rename_i b hb;split at h
   ·rename_i hle;simp only [Option.some.injEq] at h;have hlen:xs.length=len:=by rw [←h];simp [aB];omega
    by_cases cL:len=0
    ·subst cL;obtain ⟨hv,_,hr⟩:=hx.dC;obtain ⟨loc,a0,cap,k1,rfl,_⟩:=(hr b (hX.ap hb)).out;exact ⟨.inl ⟨List.eq_nil_of_length_eq_zero hlen,_,_,rfl⟩⟩
    ·obtain ⟨c,b0,cap,aV,rfl,k1,k2,k3,k4⟩:=lb hx (hX.ap hb) (by omega)
     obtain ⟨b',au,af⟩:=ae.ap id _ aV;rw [(J.bd (hX.ap hb)).1] at au;simp only [Option.some.injEq] at au;subst au;obtain ⟨arr,T,fr,m1,_,m3,m4⟩:=af.here c b0 rfl;have bp: ∀(i:Nat) (x:AV),xs[i]? =some x→b.el[off+i]? =some x:=by
      intro i x hi;rw [←h] at hi;simp only [aB,List.getElem?_take,List.getElem?_drop] at hi;split at hi
      ·exact hi
      ·simp at hi
     have cv:b.sz=sz:=by
      obtain ⟨y,aX,rfl⟩:=List.exists_cons_of_ne_nil (l:=xs) (by intro h0;rw [h0] at hlen;simp at hlen;omega)
      exact (af.sized _ _ (bp 0 y rfl)).symm.trans (iP (i:=0) hs rfl)
     subst cv;refine ⟨.inr ⟨c,b0+off*b.sz,cap,arr,T,fr,by rw [hlen],m1,?_,fun i x hi=>iP hs hi,fun i x j y u hi hy hu=>m4 (off+i) x j y u (bp i x hi) hy (by rw [←hu];congr 1;rw [Nat.add_mul];omega)⟩⟩
     rw [hlen];have:off*b.sz+len*b.sz≤b.el.length*b.sz:=by rw [←Nat.add_mul];exact Nat.mul_le_mul_right _ hle
     omega
   ·simp at h
  ·simp at h
 |str s=>exact absurd rfl (hn s)
 |_=>simp [cC] at h
theorem pX.cells {xs:List AV} {v:Value} {sz:Nat} (h:pX w G φ A xs v sz) (hs:0<sz): ∃cs:Array Value,(Builtin.firstCells sz xs.length v).run P w= .ok cs w∧cs.size=xs.length*sz∧
 (∀(i:Nat) (x:AV) (j:Nat) (y:AV) (u:Value),xs[i]? =some x→x.cells[j]? =some y→cs[i*sz+j]? =some u→R w G φ A y u∧u.oneCell' =true)∧ ∀u∈cs.toList,u.oneCell' =true:=by
 rcases h.out with ⟨rfl,a,cap,rfl⟩|⟨c,o,cap,arr,T,fr,rfl,h1,h2,h3,h4⟩
 ·refine ⟨#[],?_,by simp,by simp,by simp⟩
  cases a with
  |none=>simp [Builtin.firstCells]
  |some a=>simp [Builtin.firstCells,loadCells,loadCellsFrom]
 ·refine ⟨arr.extract o (o+xs.length*sz),by simp [Builtin.firstCells,l5 P h1 o (xs.length*sz) h2],by simp;omega,fun i x j y u hx hy hu=> ?_,fun u hu=> ?_⟩
  ·simp only [Array.getElem?_extract] at hu;split at hu
   ·exact h4 i x j y u hx hy (by rw [←hu];congr 1;omega)
   ·simp at hu
  ·obtain ⟨k,hk⟩:=List.getElem?_of_mem hu;rw [Array.getElem?_toList,Array.getElem?_extract] at hk;split at hk
   ·rename_i iq;have ma:k<xs.length*sz:=by omega
    have hq:=sZ ma hs;have hr:=Nat.mod_lt k hs;have hx:xs[k/sz]? =some (xs[k/sz]):=List.getElem?_eq_getElem hq;have ca:=h3 _ _ hx;have jB:k/sz*sz+k % sz=k:=by rw [Nat.mul_comm];exact Nat.div_add_mod k sz
    have e:o+k/sz*sz+k % sz=o+k:=by omega
    exact (h4 (k/sz) _ (k % sz) _ u hx (List.getElem?_eq_getElem (by omega)) (by rw [e];exact hk)).2
   ·simp at hk
theorem Ak (f:Value→ByteArray→Sem (ForInStep ByteArray)) (hf: ∀n s,(f (.int .u8 n) s).run P w= .ok (.yield (s.push (UInt8.ofNat n.toNat))) w) (l:List Int): ∀(acc:ByteArray),
 (forIn (l.map fun n=>Value.int .u8 n) acc f).run P w= .ok ⟨(acc.data.toList ++ l.map fun n=>UInt8.ofNat n.toNat).toArray⟩ w:=by
 induction l with
 |nil=>intro acc;simp
 |cons n l ih=>
  intro acc;simp only [List.map_cons,List.forIn_cons,Sem.run_bind,hf,Result.andThen_ok];rw [ih];congr 2;apply Array.ext';simp [ByteArray.push]
theorem s7 {xs:List AV} {l:List UInt8} (h:bytesOf xs=some l): ∃ns:List Int,xs=ns.map (fun n=>AV.int .u8 n)∧l=ns.map fun n=>UInt8.ofNat n.toNat:=by
 induction xs generalizing l with
 |nil=>simp [bytesOf] at h;subst h;exact ⟨[],rfl,rfl⟩
 |cons x xs ih=>
  cases x with
  |int k n=>
   cases k<;>simp only [bytesOf,Option.map_eq_some_iff,reduceCtorEq] at h
   obtain ⟨l',hl,rfl⟩:=h;obtain ⟨ns,rfl,rfl⟩:=ih hl;exact ⟨n::ns,rfl,rfl⟩
  |_=>simp [bytesOf] at h
theorem Al (l:List UInt8) (w:World) (A:aj):FR w A (.str l) (.string ⟨l.toArray⟩):=by
 have:=FR.str (w:=w) (A:=A) ⟨l.toArray⟩;simpa using this
include hE in
theorem Am {H0:J} (ae:St w G φ A) (hX:bg H0 G) {x:AV} {v:Value} {xs:List AV} {l:List UInt8} (hx:R w G φ A x v) (h:cC H0 x=some xs) (hb:bytesOf xs=some l) (hn: ∀s,x≠ .str s):
 ∃u,(Conv.bytesToString v).run P w= .ok u w∧R w G φ A (.str l) u:=by
 have _:= @hE;obtain ⟨ns,rfl,rfl⟩:=s7 hb;have hs:bD 1 (ns.map fun n=>AV.int .u8 n)=true:=by simp [bD,AV.cells]
 have bG:=pY ae hX hx h hs hn;refine ⟨.string ⟨(ns.map fun n=>UInt8.ofNat n.toNat).toArray⟩,?_,.fr _ _ (Al _ _ _)⟩;rcases bG.out with ⟨he,a,cap,rfl⟩|⟨c,o,cap,arr,T,fr,rfl,h1,h2,h3,h4⟩
 ·have:ns=[]:=by simpa using he
  subst this;cases a with
  |none=>simp [Conv.bytesToString];rfl
  |some a=>simp [Conv.bytesToString,loadCells,loadCellsFrom];rfl
 ·simp only [List.length_map,Nat.mul_one] at h2⊢;have hcs:(arr.extract o (o+ns.length)).toList=ns.map fun n=>Value.int .u8 n:=by
   apply List.ext_getElem?;intro k;rw [Array.getElem?_toList,Array.getElem?_extract];by_cases hk:k<ns.length
   ·rw [if_pos (by omega)]
    have az:o+k<arr.size:=by omega
    rw [Array.getElem?_eq_getElem az];have:=(h4 k (.int .u8 ns[k]) 0 (.int .u8 ns[k]) _ (by simp [hk]) rfl (by simp;exact Array.getElem?_eq_getElem az)).1.ct
    rw [this];simp [hk]
   ·rw [if_neg (by omega),List.getElem?_map,List.getElem?_eq_none (by omega)];rfl
  simp only [Conv.bytesToString,Sem.run_bind,l5 P h1 o ns.length h2,Result.andThen_ok];rw [←Array.forIn_toList,hcs,Ak _ (fun n s=>rfl)];simp
end ops
end Go.VS
