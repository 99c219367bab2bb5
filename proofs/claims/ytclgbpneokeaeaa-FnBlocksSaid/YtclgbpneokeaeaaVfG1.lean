import Derived.Test.YtclgbpneokeaeaaVfF
import Derived.Test.YtclgbpneokeaeaaProg
import Derived.Test.YtclgbpneokeaeaaVaG
import Derived.KernelRfl
open Go Go.VS
set_option maxRecDepth 8000
set_option maxHeartbeats 4000000
namespace Go.Hm
def GB (x:Part):AV:= .agg [.int .i64 x.Id,.int .i64 x.At,.int .i64 x.Fw,.str x.Text]
def Fx (x:Span):AV:= .agg [.int .i64 x.Fz,.int .i64 x.To]
def RH (x:FD):AV:= .agg [.int .i64 x.Id,.int .i64 x.Fw,.str x.Text,.fz (x.Has.map Fx)]
def RI (x:FK):AV:= .agg [.fz (x.Code.map (AV.int .u8)),.int .i64 x.At,.int .u64 x.F2]
def E:aM:=fun t=>match t with
 |3=>some {sz:=1,agg:=false,zero:=[AV.int IntKind.i64 0],bytes:=8,au:=UD.it IntKind.i64,kN:=true}
 |4=>some {sz:=1,agg:=false,zero:=[AV.bool false],bytes:=1,au:=UD.bl,kN:=true}
 |5=>some {sz:=1,agg:=false,zero:=[AV.int IntKind.u8 0],bytes:=1,au:=UD.it IntKind.u8,kN:=true}
 |9=>some {sz:=1,agg:=false,zero:=[AV.str []],bytes:=16,au:=UD.str,kN:=true}
 |22=>some {sz:=1,agg:=false,zero:=[AV.nil],bytes:=24,au:=UD.sl 5,kN:=true}
 |23=>some {sz:=1,agg:=false,zero:=[AV.nil],bytes:=24,au:=UD.sl 3,kN:=true}
 |48=>some {sz:=1,agg:=false,zero:=[AV.nil],bytes:=24,au:=UD.sl 52,kN:=true}
 |52=>some {sz:=4,agg:=true,zero:=[AV.int IntKind.i64 0,AV.int IntKind.i64 0,AV.int IntKind.i64 0,AV.str []],bytes:=40,au:=UD.st [(0,3),(1,3),(2,3),(3,9)],kN:=true}
 |53=>some {sz:=1,agg:=false,zero:=[AV.nil],bytes:=24,au:=UD.sl 109,kN:=true}
 |55=>some {sz:=4,agg:=true,zero:=[AV.int IntKind.i64 0,AV.int IntKind.i64 0,AV.str [],AV.nil],bytes:=56,au:=UD.st [(0,3),(1,3),(2,9),(3,53)],kN:=true}
 |78=>some {sz:=1,agg:=false,zero:=[AV.dG],bytes:=8,au:=UD.pt,kN:=true}
 |79=>some {sz:=1,agg:=false,zero:=[AV.int IntKind.u64 0],bytes:=8,au:=UD.it IntKind.u64,kN:=true}
 |81=>some {sz:=3,agg:=true,zero:=[AV.nil,AV.int IntKind.i64 0,AV.int IntKind.u64 0],bytes:=40,au:=UD.st [(0,22),(1,3),(2,79)],kN:=true}
 |109=>some {sz:=2,agg:=true,zero:=[AV.int IntKind.i64 0,AV.int IntKind.i64 0],bytes:=16,au:=UD.st [(0,3),(1,3)],kN:=true}
 |113=>some {sz:=1,agg:=false,zero:=[AV.nil],bytes:=24,au:=UD.sl 9,kN:=true}
 |136=>some {sz:=1,agg:=false,zero:=[AV.undef],bytes:=8,au:=UD.ot,kN:=true}
 |144=>some {sz:=1,agg:=false,zero:=[AV.undef],bytes:=8,au:=UD.ot,kN:=true}
 |_=>none
def fT:FuncId→gB:=fun f=>match f with
 |5=>{bT:=[[.sc]],loops:=[(0,{keep:=[1,5,6,7,8,9,79,80]}),(2,{keep:=[1,6,7,12,14,109,110]})],blocks:=[(0,[1,5,6,7,8]),(2,[1,6,12])],oe:=[(23,[16],[10]),(26,[16],[10])],hZ:=[(6,[],some [1,5,6,7,8,9,77]),(24,[],some [1,6,7,12,14,15,18,109,110,161]),(27,[],some [1,6,7,12,14,18,109,110,188]),(32,[],some [1,207])],xY:=[(93,[1])]}
 |24=>{bT:=[[.sc]],loops:=[(0,{keep:=[3,6,7,8]})],blocks:=[(0,[3])]}
 |34=>{bT:=[[.sc],[.sc]],fz:=[(2,[(2,[([9],[.sl [.sc]])])])]}
 |35=>{bT:=[[.sl [.sc,.sc,.sc,.sc]],[.sc]],loops:=[(0,{keep:=[0,1,6,7]})],blocks:=[(0,[6])]}
 |36=>{bT:=[[.sl [.sc,.sc,.sc,.sc]],[.sc]],loops:=[(0,{keep:=[0,1,6,7]})],blocks:=[(0,[6])]}
 |37=>{bT:=[[.sc,.sc,.sc,.sl [.sc,.sc]],[.sc]]}
 |38=>{bT:=[[.sc],[.sc]]}
 |39=>{bT:=[[.sc,.sc,.sc,.sl [.sc,.sc]],[.sc],[.sc]],loops:=[(0,{keep:=[2,3,4,7,8,10,59,60]})],blocks:=[(1,[2,3,4,7,8,10,59,60]),(0,[2,4,7,8,10])],oe:=[(11,[10],[])],hZ:=[(1,[],some [2,3,4,33])],xY:=[(70,[2,3,4,7,8,10,59,60])]}
 |40=>{bT:=[[.sc]],loops:=[(0,{keep:=[1,27,28]})],blocks:=[(0,[])],hZ:=[(1,[],some [1,25]),(6,[],some [1,27,28,42])]}
 |41=>{bT:=[[.sc]]}
 |42=>{bT:=[[.sc,.sc,.sc,.sl [.sc,.sc]],[.sc,.sc,.sc,.sc]],oe:=[(3,[8,10,13],[]),(6,[2,3],[])],gD:=[(3,[0,1,2,3,4,6,7,8,5,9,10,11,12,13])],xY:=[(25,[2,3,5,6])]}
 |43=>{bT:=[[.sc,.sc,.sc,.sl [.sc,.sc]],[.sc],[.sc]],hZ:=[(1,[],some [2,3,4,31])]}
 |44=>{bT:=[[.sc,.sc,.sc,.sl [.sc,.sc]]]}
 |45=>{bT:=[[.sc],[.sc]]}
 |46=>{bT:=[[.sc],[.sc]],fz:=[(2,[(2,[([9],[.sl [.sc]])]),(5,[([12],[.sl [.sc]])])])]}
 |47=>{bT:=[[.sc,.sc,.sc,.sl [.sc,.sc]],[.sc]]}
 |48=>{bT:=[[.sc]],loops:=[(0,{keep:=[1,3]})],blocks:=[(0,[])],hZ:=[(1,[],some [1,25]),(6,[],some [1,3,43])]}
 |57=>{bT:=[[.sc]],loops:=[(0,{keep:=[0,1,12,13]})],blocks:=[(0,[])]}
 |60=>{bT:=[[.sc]],xY:=[(11,[1,5])]}
 |61=>{bT:=[[.sc]]}
 |62=>{bT:=[[.sc]]}
 |65=>{bT:=[[.sc]]}
 |90=>{bT:=[[.sc]]}
 |91=>{bT:=[[.sc]]}
 |92=>{bT:=[[.sc]],fz:=[(1,[(2,[([5],[.sl [.sc]])])]),(3,[(2,[([10],[.sl [.sc]])])])],xY:=[(8,[3])]}
 |93=>{bT:=[[.sc]]}
 |94=>{bT:=[[.sc]]}
 |95=>{bT:=[[.sc]]}
 |96=>{bT:=[[.sc,.sc,.sc,.sl [.sc,.sc]]]}
 |97=>{bT:=[[.sc]]}
 |98=>{bT:=[[.sc]]}
 |99=>{bT:=[[.sl [.sc,.sc]],[.sc],[.sc]],oe:=[(3,[4,6],[1,5])],hZ:=[(1,[],some [0,3,16])]}
 |100=>{bT:=[[.sc]]}
 |101=>{bT:=[[.sc]]}
 |102=>{bT:=[[.sc,.sc,.sc,.sl [.sc,.sc]]],loops:=[(0,{keep:=[0,2,5,34,35,36]})],blocks:=[(1,[0,2,5,34,35,36]),(0,[0,2,5])],oe:=[(4,[10],[])],hZ:=[(9,[],some [0,2,5,8,34,35,36,51])],fz:=[(10,[(1,[([52],[.sc,.sc,.sc,.sl [.sc,.sc]])])])],xY:=[(20,[0,2,3]),(51,[0,2,5,34,35,36]),(55,[2,5])]}
 |103=>{bT:=[[.sc]]}
 |104=>{bT:=[[.sc]]}
 |105=>{bT:=[[.sc,.sc,.sc,.sl [.sc,.sc]],[.sc],[.sc]],loops:=[(0,{keep:=[2,3,4,7,8,16]})],blocks:=[(1,[2,3,4,7,8,16]),(0,[2,3,4,7,8])],oe:=[(7,[10],[])],xZ:=[3],xY:=[(27,[2,3,4,7,8,16])]}
 |106=>{bT:=[[.sc,.sc,.sc,.sl [.sc,.sc]]]}
 |107=>{bT:=[[.sc]]}
 |108=>{bT:=[[.sc,.sc,.sc,.sl [.sc,.sc]]]}
 |109=>{bT:=[[.sc]]}
 |110=>{bT:=[[.sc]],loops:=[(0,{keep:=[1,7,8,9]})],blocks:=[(0,[])],hZ:=[(4,[],some [1,7,8,9,22])]}
 |118=>{bT:=[[.sl [.sc,.sc]],[.sc]]}
 |119=>{bT:=[[.sl [.sc,.sc]]],loops:=[(0,{keep:=[4,13,14,15]})],blocks:=[(1,[4,13,14,15]),(0,[4])],oe:=[(8,[12],[])],hZ:=[(7,[],some [4,6,7,13,14,15,33])]}
 |120=>{bT:=[[.sl [.sc,.sc]]],loops:=[(0,{keep:=[0,3,5,6]}),(2,{keep:=[0,3,5,6]})],blocks:=[(0,[0,3,5,6]),(2,[0,3,5,6])],oe:=[(7,[17],[])],hZ:=[(3,[],some [0,3,5,6,20]),(6,[],some [0,3,5,6,43])]}
 |122=>{bT:=[[.sc]],loops:=[(0,{keep:=[0,8,9,10]})],blocks:=[(0,[])],hZ:=[(6,[],some [0,8,9,10,32])]}
 |123=>{bT:=[[.sc]],loops:=[(0,{keep:=[3,6,7,8]})],blocks:=[(0,[3])]}
 |124=>{bT:=[[.sc]],xY:=[(13,[0,3])]}
 |131=>{bT:=[[.sc]]}
 |132=>{bT:=[[.sc]]}
 |133=>{bT:=[[.sl [.sc,.sc]]]}
 |134=>{bT:=[[.sc]]}
 |135=>{bT:=[[.sc]]}
 |136=>{bT:=[[.sc]],loops:=[(0,{keep:=[3,6,7,8]})],blocks:=[(0,[3])]}
 |137=>{bT:=[[.sc]],loops:=[(0,{keep:=[0,5,6,7]})],blocks:=[(0,[0])],hZ:=[(4,[],some [0,5,6,7,29])]}
 |147=>{bT:=[]}
 |168=>{bT:=[[.sc]],loops:=[(0,{keep:=[0,1,7,8]})],blocks:=[(0,[])]}
 |169=>{bT:=[[.sc]]}
 |_=>{}
noncomputable def code:FuncId→Option Func:=fun f=>match f with
 |5=>some Go.Proofs.Try.f5
 |24=>some Go.Proofs.Try.f24
 |34=>some Go.Proofs.Try.f34
 |35=>some Go.Proofs.Try.f35
 |36=>some Go.Proofs.Try.f36
 |37=>some Go.Proofs.Try.f37
 |38=>some Go.Proofs.Try.f38
 |39=>some Go.Proofs.Try.f39
 |40=>some Go.Proofs.Try.f40
 |41=>some Go.Proofs.Try.f41
 |42=>some Go.Proofs.Try.f42
 |43=>some Go.Proofs.Try.f43
 |44=>some Go.Proofs.Try.f44
 |45=>some Go.Proofs.Try.f45
 |46=>some Go.Proofs.Try.f46
 |47=>some Go.Proofs.Try.f47
 |48=>some Go.Proofs.Try.f48
 |57=>some Go.Proofs.Try.f57
 |60=>some Go.Proofs.Try.f60
 |61=>some Go.Proofs.Try.f61
 |62=>some Go.Proofs.Try.f62
 |65=>some Go.Proofs.Try.f65
 |90=>some Go.Proofs.Try.f90
 |91=>some Go.Proofs.Try.f91
 |92=>some Go.Proofs.Try.f92
 |93=>some Go.Proofs.Try.f93
 |94=>some Go.Proofs.Try.f94
 |95=>some Go.Proofs.Try.f95
 |96=>some Go.Proofs.Try.f96
 |97=>some Go.Proofs.Try.f97
 |98=>some Go.Proofs.Try.f98
 |99=>some Go.Proofs.Try.f99
 |100=>some Go.Proofs.Try.f100
 |101=>some Go.Proofs.Try.f101
 |102=>some Go.Proofs.Try.f102
 |103=>some Go.Proofs.Try.f103
 |104=>some Go.Proofs.Try.f104
 |105=>some Go.Proofs.Try.f105
 |106=>some Go.Proofs.Try.f106
 |107=>some Go.Proofs.Try.f107
 |108=>some Go.Proofs.Try.f108
 |109=>some Go.Proofs.Try.f109
 |110=>some Go.Proofs.Try.f110
 |118=>some Go.Proofs.Try.f118
 |119=>some Go.Proofs.Try.f119
 |120=>some Go.Proofs.Try.f120
 |122=>some Go.Proofs.Try.f122
 |123=>some Go.Proofs.Try.f123
 |124=>some Go.Proofs.Try.f124
 |132=>some Go.Proofs.Try.f132
 |134=>some Go.Proofs.Try.f134
 |135=>some Go.Proofs.Try.f135
 |136=>some Go.Proofs.Try.f136
 |137=>some Go.Proofs.Try.f137
 |168=>some Go.Proofs.Try.f168
 |169=>some Go.Proofs.Try.f169
 |_=>none
def MY:List (FuncId×Nat×Nat):=[(133,2,16)]
def qX:List (FuncId×FuncId×Nat):=[(147,148,2)]
def mb:List FuncId:=[131]
def n5:List FuncId:=[]
def kids:List FuncId:=[]
def IK:n_:=⟨MY,qX,mb,n5,kids,[]⟩
noncomputable def C:aK:=⟨E,fT,code,mc IK⟩
theorem gC:Go.VS.Good C:=Fl (I:=IK) rfl
theorem Pz:C.E=E:=rfl
theorem PA:E 3=some {sz:=1,agg:=false,zero:=[AV.int IntKind.i64 0],bytes:=8,au:=UD.it IntKind.i64,kN:=true}:=rfl
theorem PB:E 4=some {sz:=1,agg:=false,zero:=[AV.bool false],bytes:=1,au:=UD.bl,kN:=true}:=rfl
theorem PC:E 5=some {sz:=1,agg:=false,zero:=[AV.int IntKind.u8 0],bytes:=1,au:=UD.it IntKind.u8,kN:=true}:=rfl
theorem PD:E 9=some {sz:=1,agg:=false,zero:=[AV.str []],bytes:=16,au:=UD.str,kN:=true}:=rfl
theorem PE:E 22=some {sz:=1,agg:=false,zero:=[AV.nil],bytes:=24,au:=UD.sl 5,kN:=true}:=rfl
theorem PF:E 23=some {sz:=1,agg:=false,zero:=[AV.nil],bytes:=24,au:=UD.sl 3,kN:=true}:=rfl
theorem PG:E 48=some {sz:=1,agg:=false,zero:=[AV.nil],bytes:=24,au:=UD.sl 52,kN:=true}:=rfl
theorem PH:E 52=some {sz:=4,agg:=true,zero:=[AV.int IntKind.i64 0,AV.int IntKind.i64 0,AV.int IntKind.i64 0,AV.str []],bytes:=40,au:=UD.st [(0,3),(1,3),(2,3),(3,9)],kN:=true}:=rfl
theorem PI:E 53=some {sz:=1,agg:=false,zero:=[AV.nil],bytes:=24,au:=UD.sl 109,kN:=true}:=rfl
theorem PJ:E 55=some {sz:=4,agg:=true,zero:=[AV.int IntKind.i64 0,AV.int IntKind.i64 0,AV.str [],AV.nil],bytes:=56,au:=UD.st [(0,3),(1,3),(2,9),(3,53)],kN:=true}:=rfl
theorem PK:E 78=some {sz:=1,agg:=false,zero:=[AV.dG],bytes:=8,au:=UD.pt,kN:=true}:=rfl
theorem PM:E 79=some {sz:=1,agg:=false,zero:=[AV.int IntKind.u64 0],bytes:=8,au:=UD.it IntKind.u64,kN:=true}:=rfl
theorem PN:E 81=some {sz:=3,agg:=true,zero:=[AV.nil,AV.int IntKind.i64 0,AV.int IntKind.u64 0],bytes:=40,au:=UD.st [(0,22),(1,3),(2,79)],kN:=true}:=rfl
theorem PO:E 109=some {sz:=2,agg:=true,zero:=[AV.int IntKind.i64 0,AV.int IntKind.i64 0],bytes:=16,au:=UD.st [(0,3),(1,3)],kN:=true}:=rfl
theorem PP:E 113=some {sz:=1,agg:=false,zero:=[AV.nil],bytes:=24,au:=UD.sl 9,kN:=true}:=rfl
theorem PQ:E 136=some {sz:=1,agg:=false,zero:=[AV.undef],bytes:=8,au:=UD.ot,kN:=true}:=rfl
theorem PR:E 144=some {sz:=1,agg:=false,zero:=[AV.undef],bytes:=8,au:=UD.ot,kN:=true}:=rfl
theorem Fv:type_of% (And.intro @Pz<|And.intro @PA<|And.intro @PB<|And.intro @PC<|And.intro @PD<|And.intro @PE<|And.intro @PF<|And.intro @PG<|And.intro @PH<|And.intro @PI<|And.intro @PJ<|And.intro @PK<|And.intro @PM<|And.intro @PN<|And.intro @PO<|And.intro @PP<|And.intro @PQ @PR):=And.intro @Pz<|And.intro @PA<|And.intro @PB<|And.intro @PC<|And.intro @PD<|And.intro @PE<|And.intro @PF<|And.intro @PG<|And.intro @PH<|And.intro @PI<|And.intro @PJ<|And.intro @PK<|And.intro @PM<|And.intro @PN<|And.intro @PO<|And.intro @PP<|And.intro @PQ @PR
theorem PS (x:FD):RH x= .agg [.int .i64 x.Id,.int .i64 x.Fw,.str x.Text,.fz (x.Has.map Fx)]:=rfl
theorem PT (x:FK):RI x= .agg [.fz (x.Code.map (AV.int .u8)),.int .i64 x.At,.int .u64 x.F2]:=rfl
theorem PU (x:Part):GB x= .agg [.int .i64 x.Id,.int .i64 x.At,.int .i64 x.Fw,.str x.Text]:=rfl
theorem PV (x:Span):Fx x= .agg [.int .i64 x.Fz,.int .i64 x.To]:=rfl
theorem F3:type_of% (And.intro @PS<|And.intro @PT<|And.intro @PU<|And.intro @PV<|And.intro @EL @vC):=And.intro @PS<|And.intro @PT<|And.intro @PU<|And.intro @PV<|And.intro @EL @vC
theorem PW {a0:FK} {i0:Nat} {w0:Nat} {r:(Int×FK)} (h:J3 a0=some r) {F:List It} {H:J} (hS:aC H (⟨.ptr i0 w0 0 0,3,[.agg [.fz (a0.Code.map (AV.int .u8)),.int .i64 a0.At,.int .u64 a0.F2]]⟩::F)) {P:AV→J→Prop} (hP: ∀H',aC H' (⟨.ptr i0 w0 0 0,3,[.agg [.fz (r.2.Code.map (AV.int .u8)),.int .i64 r.2.At,.int .u64 r.2.F2]]⟩::F)→P (.int .i64 r.1) H'):aq C 124 [.ptr i0 w0 0 0] H P:=by
 refine Dk gC (res:=[.tmp 2]) (n:=62) rfl rfl rfl rfl fun K0 Fy=> ?_;simp only [W,Nat.reduceSub,Nat.reduceAdd,List.replicate];unfold J3 at h;refine CZ fun K1 FA=> ?_;refine Dh gC ?_;try simp only [W,Nat.reduceAdd]
 refine C6 FA ?_;refine CZ fun K2 Bc=> ?_;refine Dh gC ?_;try simp only [W,Nat.reduceAdd]
 refine C6 Bc ?_;refine CZ fun K3 Gf=> ?_;refine CZ fun K4 FG=> ?_;refine Dj gC (by kernel_rfl) ?_
 try simp only [W,Fv,Nat.reduceAdd,Nat.reduceBEq,hS.var 0 rfl]
 refine C6 FG ?_;obtain ⟨RJ,h,g7⟩:=Option.bind_eq_some_iff.1 h;refine DI gC (fun s H=> ∃FQ:Int,RJ=(FQ)∧s=(.ptr i0 w0 0 0::u::u:: .int .i64 FQ::u::u::u::u::u::u::u::u::u::u::u::u::u::u::u::u::u::u::u::u::u::u::u::u::u::u::u::u::u::u::u::u::u::u::u::u::u::u::u::u::u::u::u::u::u::u::u::u::u::u::u::u::u::u::u::u::u::u::[])∧aC H (⟨.ptr i0 w0 0 0,3,[.agg [.fz (a0.Code.map (AV.int .u8)),.int .i64 a0.At,.int .u64 a0.F2]]⟩::F)) (fun K8 F4=> ?_) (fun s H hq=> ?_)
 ·refine CZ fun K9 FW=> ?_;refine C4 ?_;simp only [W];refine Dg h (fun hc h=> ?_) (fun hc h=> ?_)
  ·refine Dj gC (by kernel_rfl) ?_
   try simp only [W,Fv,Nat.reduceAdd,Nat.reduceBEq,hS.var 0 rfl]
   refine Dv rfl rfl rfl (fun _=>rfl) h fun Gm Kt h=> ?_;try simp only [W,Fv]
   refine C6 FW ?_;refine EQ (s' :=(.ptr i0 w0 0 0::u::u:: .int .i64 (IntKind.i64.wrap Gm)::u::u::u::u::u::u::u::u::u::u::u::u::u::u::u::u::u::u::u::u::u::u::u::u::u::u::u::u::u::u::u::u::u::u::u::u::u::u::u::u::u::u::u::u::u::u::u::u::u::u::u::u::u::u::u::u::u::u::[])) rfl ?_
   exact DJ F4 ⟨_,(Option.some.inj h).symm,rfl,hS⟩
  ·refine C1 ?_;refine C6 FW ?_;refine EQ (s' :=(.ptr i0 w0 0 0::u::u:: .int .i64 0::u::u::u::u::u::u::u::u::u::u::u::u::u::u::u::u::u::u::u::u::u::u::u::u::u::u::u::u::u::u::u::u::u::u::u::u::u::u::u::u::u::u::u::u::u::u::u::u::u::u::u::u::u::u::u::u::u::u::[])) rfl ?_
   exact DJ F4 ⟨_,(Option.some.inj h).symm,rfl,hS⟩
 ·obtain ⟨FQ,FI,rfl,hS⟩:=hq;obtain rfl:=FI.symm;replace h:=g7;try dsimp only at h
  refine C6 Gf ?_;refine CZ fun LX HE=> ?_;refine Dh gC ?_;try simp only [W,Fv,Nat.reduceAdd,Nat.reduceBEq,hS.var 0 rfl]
  refine Ds (a:= .int .i64 (IntKind.i64.wrap (a0.At+1))) (y' := .agg [.fz (a0.Code.map (AV.int .u8)),.int .i64 (IntKind.i64.wrap (a0.At+1)),.int .u64 a0.F2]) 0 hS rfl rfl rfl rfl rfl rfl rfl rfl fun H hS=> ?_
  try simp only [W]
  refine C6 HE ?_;refine CZ fun Ku GY=> ?_;refine Dh gC ?_;try simp only [W,Fv,Nat.reduceAdd,Nat.reduceBEq,hS.var 0 rfl]
  refine Ds (a:= .int .u64 (IntKind.u64.wrap ((IntKind.u64.wrap ((IntKind.u64.wrap (a0.F2*6364136223846793005))+(IntKind.u64.wrap FQ)))+1442695040888963407))) (y' := .agg [.fz (a0.Code.map (AV.int .u8)),.int .i64 (IntKind.i64.wrap (a0.At+1)),.int .u64 (IntKind.u64.wrap ((IntKind.u64.wrap ((IntKind.u64.wrap (a0.F2*6364136223846793005))+(IntKind.u64.wrap FQ)))+1442695040888963407))]) 0 hS rfl rfl rfl rfl rfl rfl rfl rfl fun H hS=> ?_
  try simp only [W]
  refine C6 GY ?_;refine CZ fun IL Gw=> ?_;refine CZ fun IM Gh=> ?_;refine Dj gC (by kernel_rfl) ?_
  try simp only [W,Fv,Nat.reduceAdd,Nat.reduceBEq,hS.var 0 rfl]
  refine C6 Gh ?_;refine C4 ?_;simp only [W];refine Dg h (fun hc h=> ?_) (fun hc h=> ?_)
  ·refine CZ fun JM G6=> ?_;refine Dh gC ?_;try simp only [W,Nat.reduceAdd]
   refine C6 G6 ?_;refine C2 ?_;refine C7 Gw ?_;refine Dd Fy rfl ?_;try obtain rfl:=Option.some.inj h
   exact hP _ hS
  ·refine C1 ?_;refine C6 Gw ?_;refine CZ fun Io GC=> ?_;refine Dh gC ?_;try simp only [W,Fv,Nat.reduceAdd,Nat.reduceBEq,hS.var 0 rfl]
   rw [DM _ _ _ rfl,Option.map_some,ur];try simp only [W,Fv]
   refine C6 GC ?_;refine C2 ?_;refine Dd Fy rfl ?_;try obtain rfl:=Option.some.inj h
   exact hP _ hS
theorem Kv {a0:FK} {a1:Int} {i0:Nat} {w0:Nat} {r:(Int×FK)} (h:Ij a0 a1=some r) {F:List It} {H:J} (hS:aC H (⟨.ptr i0 w0 0 0,3,[.agg [.fz (a0.Code.map (AV.int .u8)),.int .i64 a0.At,.int .u64 a0.F2]]⟩::F)) {P:AV→J→Prop} (hP: ∀H',aC H' (⟨.ptr i0 w0 0 0,3,[.agg [.fz (r.2.Code.map (AV.int .u8)),.int .i64 r.2.At,.int .u64 r.2.F2]]⟩::F)→P (.int .i64 r.1) H'):aq C 60 [.ptr i0 w0 0 0,.int .i64 a1] H P:=by
 refine Dk gC (res:=[.tmp 4]) (n:=20) rfl rfl rfl rfl fun K0 Fy=> ?_;simp only [W,Nat.reduceSub,Nat.reduceAdd,List.replicate];unfold Ij at h;refine CZ fun K1 FA=> ?_;refine Dh gC ?_;try simp only [W,Nat.reduceAdd]
 refine C6 FA ?_;refine CZ fun K2 Bc=> ?_;refine CZ fun K3 Gf=> ?_;refine Dh gC ?_;try simp only [W,Fv,Nat.reduceAdd]
 refine C6 Gf ?_;refine C4 ?_;simp only [W];refine Dg h (fun hc h=> ?_) (fun hc h=> ?_)
 ·refine CZ fun K4 FG=> ?_;refine Dh gC ?_;try simp only [W,Nat.reduceAdd]
  refine C6 FG ?_;refine C2 ?_;refine C7 Bc ?_;refine Dd Fy rfl ?_;try obtain rfl:=Option.some.inj h
  exact hP _ hS
 ·refine C1 ?_;refine C6 Bc ?_;refine CZ fun K5 FX=> ?_;refine Dh gC ?_;try simp only [W,Nat.reduceAdd]
  refine DC h fun F7 G3 h=> ?_;obtain ⟨FT,F0⟩:=F7;try dsimp only at h
  refine PW G3 hS fun H hS=> ?_;try simp only [W]
  refine C6 FX ?_;refine CZ fun K9 FW=> ?_;refine CZ fun Ji GD=> ?_;refine Dh gC ?_;try simp only [W,Fv,Nat.reduceAdd]
  refine C6 GD ?_;obtain ⟨LY,h,g16⟩:=Option.bind_eq_some_iff.1 h;refine DI gC (fun s H=> ∃Hn:Int,∃Gv:List Int,∃FY:Int,∃G_:Int,LY=(Hn,Gv,FY,G_)∧s=[u,.int .i64 a1,u,u,u,.int .i64 Hn,u,u,u,u,u,u,u,u,u,u,u,u,u,u]∧aC H (⟨.ptr i0 w0 0 0,3,[.agg [.fz (Gv.map (AV.int .u8)),.int .i64 FY,.int .u64 G_]]⟩::F)) (fun HA F5=> ?_) (fun s H hq=> ?_)
  ·refine CZ fun HR Gl=> ?_;refine C4 ?_;simp only [W];refine Dg h (fun hc h=> ?_) (fun hc h=> ?_)
   ·refine Dh gC ?_;try simp only [W,Fv,Nat.reduceAdd]
    refine DC h fun Ja Kw h=> ?_;obtain ⟨Gt,FL⟩:=Ja;try dsimp only at h
    refine PW Kw hS fun H hS=> ?_;try simp only [W,Fv]
    refine C6 Gl ?_;refine C5 ?_;exact DJ F5 ⟨_,_,_,_,(Option.some.inj h).symm,rfl,hS⟩
   ·refine C1 ?_;refine C6 Gl ?_;refine C5 ?_;exact DJ F5 ⟨_,_,_,_,(Option.some.inj h).symm,rfl,hS⟩
  ·obtain ⟨Hn,Gv,FY,G_,rfl,rfl,hS⟩:=hq;replace h:=g16;try dsimp only at h
   refine C6 FW ?_;refine CZ fun NZ Jj=> ?_;refine Dh gC ?_;try simp only [W,Fv,Nat.reduceAdd]
   refine w_num _ h fun I3 Xr h=> ?_;try simp only [W]
   refine C6 Jj ?_;refine C2 ?_;refine Dd Fy rfl ?_;try obtain rfl:=Option.some.inj h
   exact hP _ hS
theorem MZ {a0:FK} {a1:List Int} {i0:Nat} {w0:Nat} {r:(Int×FK)} (h:Iw a0 a1=some r) {F:List It} {H:J} (hS:aC H (⟨.ptr i0 w0 0 0,3,[.agg [.fz (a0.Code.map (AV.int .u8)),.int .i64 a0.At,.int .u64 a0.F2]]⟩::F)) {P:AV→J→Prop} (hP: ∀H',aC H' (⟨.ptr i0 w0 0 0,3,[.agg [.fz (r.2.Code.map (AV.int .u8)),.int .i64 r.2.At,.int .u64 r.2.F2]]⟩::F)→P (.int .i64 r.1) H'):aq C 91 [.ptr i0 w0 0 0,.fz (a1.map (AV.int .i64))] H P:=by
 refine Dk gC (res:=[.tmp 4]) (n:=12) rfl rfl rfl rfl fun K0 Fy=> ?_;simp only [W,Nat.reduceSub,Nat.reduceAdd,List.replicate];unfold Iw at h;refine CZ fun K1 FA=> ?_;refine Dh gC ?_;try simp only [W,Nat.reduceAdd]
 refine C6 FA ?_;refine CZ fun K2 Bc=> ?_;refine Dh gC ?_;try simp only [W,Fv,Nat.reduceAdd]
 refine DC h fun b3 lj h=> ?_;obtain ⟨Gk,FP⟩:=b3;try dsimp only at h
 refine Kv lj hS fun H hS=> ?_;try simp only [W,Fv]
 refine Dv rfl rfl rfl (fun _=>rfl) h fun F7 G3 h=> ?_;try simp only [W,Fv]
 refine C6 Bc ?_;refine C2 ?_;refine Dd Fy rfl ?_;try obtain rfl:=Option.some.inj h
 exact hP _ hS
theorem RK {a0:FK} {a1:List (List UInt8)} {i0:Nat} {w0:Nat} {r:(List UInt8×FK)} (h:I4 a0 a1=some r) {F:List It} {H:J} (hS:aC H (⟨.ptr i0 w0 0 0,3,[.agg [.fz (a0.Code.map (AV.int .u8)),.int .i64 a0.At,.int .u64 a0.F2]]⟩::F)) {P:AV→J→Prop} (hP: ∀H',aC H' (⟨.ptr i0 w0 0 0,3,[.agg [.fz (r.2.Code.map (AV.int .u8)),.int .i64 r.2.At,.int .u64 r.2.F2]]⟩::F)→P (.str r.1) H'):aq C 103 [.ptr i0 w0 0 0,.fz (a1.map AV.str)] H P:=by
 refine Dk gC (res:=[.tmp 4]) (n:=12) rfl rfl rfl rfl fun K0 Fy=> ?_;simp only [W,Nat.reduceSub,Nat.reduceAdd,List.replicate];unfold I4 at h;refine CZ fun K1 FA=> ?_;refine Dh gC ?_;try simp only [W,Nat.reduceAdd]
 refine C6 FA ?_;refine CZ fun K2 Bc=> ?_;refine Dh gC ?_;try simp only [W,Fv,Nat.reduceAdd]
 refine DC h fun b3 lj h=> ?_;obtain ⟨Gk,FP⟩:=b3;try dsimp only at h
 refine Kv lj hS fun H hS=> ?_;try simp only [W,Fv]
 refine Dv rfl rfl rfl (fun _=>rfl) h fun F7 G3 h=> ?_;try simp only [W,Fv]
 refine C6 Bc ?_;refine C2 ?_;refine Dd Fy rfl ?_;try obtain rfl:=Option.some.inj h
 exact hP _ hS
theorem M0 {a0:FK} {a1:Int} {i0:Nat} {w0:Nat} {r:(Bool×FK)} (h:Ix a0 a1=some r) {F:List It} {H:J} (hS:aC H (⟨.ptr i0 w0 0 0,3,[.agg [.fz (a0.Code.map (AV.int .u8)),.int .i64 a0.At,.int .u64 a0.F2]]⟩::F)) {P:AV→J→Prop} (hP: ∀H',aC H' (⟨.ptr i0 w0 0 0,3,[.agg [.fz (r.2.Code.map (AV.int .u8)),.int .i64 r.2.At,.int .u64 r.2.F2]]⟩::F)→P (.bool r.1) H'):aq C 62 [.ptr i0 w0 0 0,.int .i64 a1] H P:=by
 refine Dk gC (res:=[.tmp 4]) (n:=9) rfl rfl rfl rfl fun K0 Fy=> ?_;simp only [W,Nat.reduceSub,Nat.reduceAdd,List.replicate];unfold Ix at h;refine CZ fun K1 FA=> ?_;refine Dh gC ?_;try simp only [W,Nat.reduceAdd]
 refine C6 FA ?_;refine CZ fun K2 Bc=> ?_;refine Dh gC ?_;try simp only [W,Nat.reduceAdd]
 refine DC h fun b3 lj h=> ?_;obtain ⟨Gk,FP⟩:=b3;try dsimp only at h
 refine Kv lj hS fun H hS=> ?_;try simp only [W,Fv]
 refine C6 Bc ?_;refine C2 ?_;refine Dd Fy rfl ?_;try obtain rfl:=Option.some.inj h
 exact hP _ hS
theorem PX {a0:FK} {i0:Nat} {w0:Nat} {r:(List UInt8×FK)} (h:J4 a0=some r) {F:List It} {H:J} (hS:aC H (⟨.ptr i0 w0 0 0,3,[.agg [.fz (a0.Code.map (AV.int .u8)),.int .i64 a0.At,.int .u64 a0.F2]]⟩::F)) {P:AV→J→Prop} (hP: ∀H',aC H' (⟨.ptr i0 w0 0 0,3,[.agg [.fz (r.2.Code.map (AV.int .u8)),.int .i64 r.2.At,.int .u64 r.2.F2]]⟩::F)→P (.str r.1) H'):aq C 92 [.ptr i0 w0 0 0] H P:=by
 refine Dk gC (res:=[.tmp 2]) (n:=15) rfl rfl rfl rfl fun K0 Fy=> ?_;simp only [W,Nat.reduceSub,Nat.reduceAdd,List.replicate];unfold J4 at h;refine CZ fun K1 FA=> ?_;refine Dh gC ?_;try simp only [W,Nat.reduceAdd]
 refine C6 FA ?_;refine CZ fun K2 Bc=> ?_;refine Di (fz:=[(2,[([5],[.sl [.sc]])])]) gC ?_;try simp only [W,Nat.reduceAdd,Nat.reduceBEq]
 refine DB (el:=([[97],[98,108,111,99,107],[97,32,108,111,110,103,101,114,32,98,108,111,99,107,32,111,102,32,98,121,116,101,115],[0,0],[97,98,99,100],[101,120,97,99,116,108,121,32,101,105,103,104,116]]:List (List UInt8)).map AV.str) hS rfl rfl rfl rfl rfl rfl rfl fun v3 H RL hS=> ?_;try simp only [W,Nat.reduceAdd]
 refine DV 0 hS rfl RL rfl (fun _ _=>by simp [a_,aR,dA]) (fun _=>rfl) fun H sL hS=> ?_
 try simp only [W]
 refine DC h fun FP Hp h=> ?_;obtain ⟨F7,FT⟩:=FP;try dsimp only at h
 refine RK Hp hS fun H hS=> ?_;try simp only [W,Nat.reduceAdd,Nat.reduceBEq]
 refine C6 Bc ?_;refine CZ fun K8 F4=> ?_;refine CZ fun K9 FW=> ?_;refine Dh gC ?_;try simp only [W,Nat.reduceAdd]
 refine DC h fun Gm Kt h=> ?_;obtain ⟨FE,F8⟩:=Gm;try dsimp only at h
 refine M0 Kt hS fun H hS=> ?_;try simp only [W]
 refine C6 FW ?_;obtain ⟨LZ,h,g18⟩:=Option.bind_eq_some_iff.1 h;refine DI gC (fun s H=> ∃FY:List UInt8,∃G_:List Int,∃Hf:Int,∃Ge:Int,LZ=(FY,G_,Hf,Ge)∧s=[u,u,u,.str FY,u,u,u,u,u,u,u,u,u,u,u]∧aC H (⟨.ptr i0 w0 0 0,3,[.agg [.fz (G_.map (AV.int .u8)),.int .i64 Hf,.int .u64 Ge]]⟩::F)) (fun Ip Gq=> ?_) (fun s H hq=> ?_)
 ·refine CZ fun Jk GP=> ?_;refine C4 ?_;simp only [W];refine Dg h (fun hc h=> ?_) (fun hc h=> ?_)
  ·refine Di (fz:=[(2,[([10],[.sl [.sc]])])]) gC ?_;try simp only [W,Nat.reduceAdd,Nat.reduceBEq]
   refine DB (el:=([0,40,41]:List Int).map (AV.int .i64)) hS rfl rfl rfl rfl rfl rfl rfl fun v21 H RM hS=> ?_;try simp only [W,Nat.reduceAdd]
   refine DV 0 hS rfl RM rfl (fun _ _=>by simp [a_,aR,dA]) (fun _=>rfl) fun H sL hS=> ?_
   try simp only [W]
   refine DC h fun Je PY h=> ?_;obtain ⟨J5,J6⟩:=Je;try dsimp only at h
   refine MZ PY hS fun H hS=> ?_;try simp only [W,Nat.reduceAdd,Nat.reduceBEq]
   refine DR (c:=(AV.int .u8)) hS rfl rfl rfl rfl rfl rfl h fun v26 H HL RN hm h hS=> ?_;try simp only [W,Fv,Nat.reduceAdd,Nat.reduceBEq]
   refine DO rfl rfl rfl rfl rfl rfl rfl (hS.iK 0 rfl RN) (hS.Bo 0 rfl) ?_;try simp only [W,Nat.reduceAdd,Nat.reduceBEq]
   refine C6 GP ?_;refine C5 ?_;exact DJ Gq ⟨_,_,_,_,(Option.some.inj h).symm,rfl,(hS.D0 2 [1] (by decide))⟩
  ·refine C1 ?_;refine C6 GP ?_;refine C5 ?_;exact DJ Gq ⟨_,_,_,_,(Option.some.inj h).symm,rfl,hS⟩
 ·obtain ⟨FY,G_,Hf,Ge,rfl,rfl,hS⟩:=hq;replace h:=g18;try dsimp only at h
  refine C6 F4 ?_;refine CZ fun JN G4=> ?_;refine Dh gC ?_;try simp only [W,Nat.reduceAdd]
  refine C6 G4 ?_;refine C2 ?_;refine Dd Fy rfl ?_;try obtain rfl:=Option.some.inj h
  exact hP _ hS
theorem RO {a0:List Int} {r:(Int×List UInt8)} (h:KG a0=some r) {F:List It} {H:J} (hS:aC H (F)) {P:AV→J→Prop} (hP: ∀H',aC H' (F)→P (.aA [.int .i64 r.1,.str r.2]) H'):aq C 34 [.fz (a0.map (AV.int .u8))] H P:=by
 refine Dk gC (res:=[.tmp 2,.tmp 3]) (n:=13) rfl rfl rfl rfl fun K0 Fy=> ?_;simp only [W,Nat.reduceSub,Nat.reduceAdd,List.replicate];unfold KG at h;refine CZ fun K1 FA=> ?_;refine Dh gC ?_;try simp only [W,Nat.reduceAdd]
 refine C6 FA ?_;refine CZ fun K2 Bc=> ?_;refine Dh gC ?_;try simp only [W,Fv,Nat.reduceAdd]
 refine D5 rfl rfl rfl rfl rfl ?_;try simp only [W]
 refine Dq hS rfl rfl rfl rfl fun RP RQ H hS=> ?_;try simp only [W]
 refine C6 Bc ?_;refine CZ fun K5 FX=> ?_;refine Di (fz:=[(2,[([9],[.sl [.sc]])])]) gC ?_;try simp only [W,Nat.reduceAdd,Nat.reduceBEq]
 refine DB (el:=([-1,0,7,1000,1001]:List Int).map (AV.int .i64)) hS rfl rfl rfl rfl rfl rfl rfl fun v6 H N0 hS=> ?_;try simp only [W,Nat.reduceAdd]
 refine DV 0 hS rfl N0 rfl (fun _ _=>by simp [a_,aR,dA]) (fun _=>rfl) fun H sL hS=> ?_
 try simp only [W]
 refine DC h fun F0 JO h=> ?_;obtain ⟨FN,Gm⟩:=F0;try dsimp only at h
 refine MZ JO hS fun H hS=> ?_;try simp only [W,Nat.reduceAdd,Nat.reduceBEq]
 refine DC h fun FE IN h=> ?_;obtain ⟨F8,LF⟩:=FE;try dsimp only at h
 refine PX IN hS fun H hS=> ?_;try simp only [W,Nat.reduceAdd,Nat.reduceBEq]
 refine C6 FX ?_;refine C2 ?_;refine De Fy rfl rfl ?_;try obtain rfl:=Option.some.inj h
 exact hP _ (hS.D0 1 [] (by decide))
theorem M1 {a0:Int} {a1:Int} {a2:Int} {r:(Bool)} (h:I5 a0 a1 a2=some r) {F:List It} {H:J} (hS:aC H (F)) {P:AV→J→Prop} (hP: ∀H',aC H' (F)→P (.bool r) H'):aq C 65 [.int .i64 a0,.int .i64 a1,.int .i64 a2] H P:=by
 refine Dk gC (res:=[.tmp 6]) (n:=15) rfl rfl rfl rfl fun K0 Fy=> ?_;simp only [W,Nat.reduceSub,Nat.reduceAdd,List.replicate];unfold I5 at h;refine CZ fun K1 FA=> ?_;refine Dh gC ?_;try simp only [W,Nat.reduceAdd]
 refine C6 FA ?_;refine CZ fun K2 Bc=> ?_;refine Dh gC ?_;try simp only [W,Fv,Nat.reduceAdd]
 refine D4 h (fun hc h=> ?_) (fun hc h=> ?_)
 ·try simp only [W,Fv,reduceIte,hc]
  refine C6 Bc ?_;refine C2 ?_;refine Dd Fy rfl ?_;try obtain rfl:=Option.some.inj h
  exact hP _ hS
 ·try simp only [W,hc]
  refine C6 Bc ?_;refine C2 ?_;refine Dd Fy rfl ?_;try obtain rfl:=Option.some.inj h
  exact hP _ hS
theorem M2 {a0:Int} {a1:Int} {r:(Bool)} (h:I6 a0 a1=some r) {F:List It} {H:J} (hS:aC H (F)) {P:AV→J→Prop} (hP: ∀H',aC H' (F)→P (.bool r) H'):aq C 93 [.int .i64 a0,.int .i64 a1] H P:=by
 refine Dk gC (res:=[.tmp 4]) (n:=11) rfl rfl rfl rfl fun K0 Fy=> ?_;simp only [W,Nat.reduceSub,Nat.reduceAdd,List.replicate];unfold I6 at h;refine CZ fun K1 FA=> ?_;refine Dh gC ?_;try simp only [W,Nat.reduceAdd]
 refine C6 FA ?_;refine CZ fun K2 Bc=> ?_;refine Dh gC ?_;try simp only [W,Nat.reduceAdd]
 refine DC h fun b3 lj h=> ?_;refine M1 lj hS fun H hS=> ?_;try simp only [W]
 refine D4 h (fun hc h=> ?_) (fun hc h=> ?_)
 ·try simp only [W,hc]
  refine DC h fun Gk IP h=> ?_;refine M1 IP hS fun H hS=> ?_;try simp only [W,reduceIte]
  refine C6 Bc ?_;refine C2 ?_;refine Dd Fy rfl ?_;try obtain rfl:=Option.some.inj h
  exact hP _ hS
 ·try simp only [W,hc]
  refine C6 Bc ?_;refine C2 ?_;refine Dd Fy rfl ?_;try obtain rfl:=Option.some.inj h
  exact hP _ hS
theorem RR {a0:Int} {a1:List UInt8} {r:(List Part×Bool)} (h:KH a0 a1=some r) {F:List It} {H:J} (hS:aC H (F)) {P:AV→J→Prop} (hP: ∀L3:AV,bG L3→ ∀H',aC H' (⟨L3,4,r.1.map GB⟩::F)→P (.aA [L3,.bool r.2]) H'):aq C 35 [.int .i64 a0,.str a1] H P:=by
 refine Dk gC (res:=[.tmp 4,.tmp 5]) (n:=37) rfl rfl rfl rfl fun K0 Fy=> ?_;simp only [W,Nat.reduceSub,Nat.reduceAdd,List.replicate];unfold KH at h;refine CZ fun K1 FA=> ?_;refine Dh gC ?_;try simp only [W,Nat.reduceAdd]
 refine C6 FA ?_;refine CZ fun K2 Bc=> ?_;refine CZ fun K3 Gf=> ?_;refine Dh gC ?_;try simp only [W,Fv,Nat.reduceAdd]
 refine DC h fun Gk IP h=> ?_;refine M2 IP hS fun H hS=> ?_;try simp only [W]
 refine C6 Gf ?_;refine C4 ?_;simp only [W];refine Dg h (fun hc h=> ?_) (fun hc h=> ?_)
 ·refine CZ fun K5 FX=> ?_;refine Dh gC ?_;try simp only [W,Nat.reduceAdd]
  refine C6 FX ?_;refine C2 ?_;refine C7 Bc ?_;refine De Fy rfl rfl ?_;try obtain rfl:=Option.some.inj h
  exact hP _ Bn _ (hS.DT 4)
 ·refine C1 ?_;refine C6 Bc ?_;refine CZ fun K6 G7=> ?_;refine Dh gC ?_;try simp only [W,Nat.reduceAdd]
  refine DA rfl rfl ?_;try simp only [W]
  refine C6 G7 ?_;refine CZ fun K7 GK=> ?_;refine CZ fun K8 F4=> ?_;refine Dh gC ?_;try simp only [W,Nat.reduceAdd]
  refine C6 F4 ?_;obtain ⟨LY,N1,g22⟩:=Option.bind_eq_some_iff.1 h;refine DI gC (fun s H=> ∃FY:List Part,LY=(FY)∧ ∃Ib:AV,bG Ib∧s=[u,u,u,u,u,u,Ib,u,u,u,u,u,u,u,u,u,u,u,u,u,u,u,u,u,u,u,u,u,u,u,u,u,u,u,u,u,u]∧aC H (⟨Ib,4,FY.map GB⟩::F)) (fun HA F5=> ?_) (fun s H hq=> ?_)
  ·refine C0 fun HR Gl=> ?_;refine DE gC N1 (fun x s H=>match x with|(GV,Gv)=> ∃v10:AV,bG v10∧s=[.int .i64 a0,.str a1,u,u,u,u,v10,.int .i64 Gv,u,u,u,u,u,u,u,u,u,u,u,u,u,u,u,u,u,u,u,u,u,u,u,u,u,u,u,u,u]∧aC H (⟨v10,4,GV.map GB⟩::F)) ⟨_,vu,rfl,(hS.BA 4)⟩ (fun x N2 s H h N3 hi Ip Gq=> ?_)
   obtain ⟨GV,Gv⟩:=x;try dsimp only at hi
   obtain ⟨v10,HB,rfl,hS⟩:=hi;simp only [Mw] at h;refine CZ fun M3 HS=> ?_;refine CZ fun JP Hb=> ?_;refine Dh gC ?_;try simp only [W,Fv,Nat.reduceAdd]
   refine C6 Hb ?_;refine C4 ?_;simp only [W];refine Dg h (fun hc h=> ?_) (fun hc h=> ?_)
   ·refine C1 ?_;refine C6 HS ?_;refine CZ fun JQ GQ=> ?_;refine C0 fun Ic Gr=> ?_;refine Dh gC ?_;try simp only [W,Fv,Nat.reduceAdd]
    refine DP rfl rfl h fun NN Xs h=> ?_;try simp only [W,Fv]
    refine D5 rfl rfl rfl rfl rfl ?_;try simp only [W]
    refine DB (el:=([(⟨a0,Gv,(a1.length:Int),NN⟩:Part)]:List Part).map GB) hS rfl rfl rfl rfl rfl rfl rfl fun v28 H N4 hS=> ?_;try simp only [W,Fv]
    refine DS (l:=GV) (c:=GB) 1 hS rfl HB rfl rfl rfl (hS.iK 0 rfl N4) (fun _=>rfl) rfl h fun v31 H I7 M4 hm h hS=> ?_;try simp only [W]
    refine C_ Gr ?_;refine C6 GQ ?_;refine Dh gC ?_;try simp only [W,Fv,Nat.reduceAdd]
    exact DF Gq h ⟨_,M4,rfl,(hS.D0 2 [1] (by decide))⟩
   ·refine C3 ?_;refine C8 HS ?_;try obtain rfl:=Option.some.inj h
    obtain rfl:=N3 _ rfl;have h:(some (GV):Option ((List Part)))=some (GV):=rfl;refine DG Gq ?_;refine Da Gl ?_;exact DJ F5 ⟨_,(Option.some.inj h).symm,_,HB,rfl,hS⟩
  ·obtain ⟨FY,FI,Ib,L4,rfl,hS⟩:=hq;obtain rfl:=FI.symm;replace h:=g22;try dsimp only at h
   refine C6 GK ?_;refine CZ fun L5 HC=> ?_;refine Dh gC ?_;try simp only [W,Nat.reduceAdd]
   refine C6 HC ?_;refine C2 ?_;refine De Fy rfl rfl ?_;try obtain rfl:=Option.some.inj h
   exact hP _ L4 _ hS
theorem M5 {a0:Int} {a1:Int} {a2:Int} {r:(Bool)} (h:I8 a0 a1 a2=some r) {F:List It} {H:J} (hS:aC H (F)) {P:AV→J→Prop} (hP: ∀H',aC H' (F)→P (.bool r) H'):aq C 90 [.int .i64 a0,.int .i64 a1,.int .i64 a2] H P:=by
 refine Dk gC (res:=[.tmp 6]) (n:=15) rfl rfl rfl rfl fun K0 Fy=> ?_;simp only [W,Nat.reduceSub,Nat.reduceAdd,List.replicate];unfold I8 at h;refine CZ fun K1 FA=> ?_;refine Dh gC ?_;try simp only [W,Nat.reduceAdd]
 refine C6 FA ?_;refine CZ fun K2 Bc=> ?_;refine Dh gC ?_;try simp only [W,Fv,Nat.reduceAdd]
 refine D4 h (fun hc h=> ?_) (fun hc h=> ?_)
 ·try simp only [W,Fv,reduceIte,hc]
  refine C6 Bc ?_;refine C2 ?_;refine Dd Fy rfl ?_;try obtain rfl:=Option.some.inj h
  exact hP _ hS
 ·try simp only [W,hc]
  refine C6 Bc ?_;refine C2 ?_;refine Dd Fy rfl ?_;try obtain rfl:=Option.some.inj h
  exact hP _ hS
theorem M6 {a0:Int} {a1:Int} {r:(Bool)} (h:I9 a0 a1=some r) {F:List It} {H:J} (hS:aC H (F)) {P:AV→J→Prop} (hP: ∀H',aC H' (F)→P (.bool r) H'):aq C 94 [.int .i64 a0,.int .i64 a1] H P:=by
 refine Dk gC (res:=[.tmp 4]) (n:=11) rfl rfl rfl rfl fun K0 Fy=> ?_;simp only [W,Nat.reduceSub,Nat.reduceAdd,List.replicate];unfold I9 at h;refine CZ fun K1 FA=> ?_;refine Dh gC ?_;try simp only [W,Nat.reduceAdd]
 refine C6 FA ?_;refine CZ fun K2 Bc=> ?_;refine Dh gC ?_;try simp only [W,Nat.reduceAdd]
 refine DC h fun b3 lj h=> ?_;refine M5 lj hS fun H hS=> ?_;try simp only [W]
 refine D4 h (fun hc h=> ?_) (fun hc h=> ?_)
 ·try simp only [W,hc]
  refine DC h fun Gk IP h=> ?_;refine M5 IP hS fun H hS=> ?_;try simp only [W,reduceIte]
  refine C6 Bc ?_;refine C2 ?_;refine Dd Fy rfl ?_;try obtain rfl:=Option.some.inj h
  exact hP _ hS
 ·try simp only [W,hc]
  refine C6 Bc ?_;refine C2 ?_;refine Dd Fy rfl ?_;try obtain rfl:=Option.some.inj h
  exact hP _ hS
theorem PZ {a0:Int} {a1:Int} {r:(Int)} (h:J7 a0 a1=some r) {F:List It} {H:J} (hS:aC H (F)) {P:AV→J→Prop} (hP: ∀H',aC H' (F)→P (.int .i64 r) H'):aq C 95 [.int .i64 a0,.int .i64 a1] H P:=by
 refine Dk gC (res:=[.tmp 4]) (n:=10) rfl rfl rfl rfl fun K0 Fy=> ?_;simp only [W,Nat.reduceSub,Nat.reduceAdd,List.replicate];unfold J7 at h;refine CZ fun K1 FA=> ?_;refine Dh gC ?_;try simp only [W,Nat.reduceAdd]
 refine C6 FA ?_;refine CZ fun K2 Bc=> ?_;refine CZ fun K3 Gf=> ?_;refine Dh gC ?_;try simp only [W,Fv,Nat.reduceAdd]
 refine C6 Gf ?_;refine C4 ?_;simp only [W];refine Dg h (fun hc h=> ?_) (fun hc h=> ?_)
 ·refine CZ fun K4 FG=> ?_;refine Dh gC ?_;try simp only [W,Nat.reduceAdd]
  refine C6 FG ?_;refine C2 ?_;refine C7 Bc ?_;refine Dd Fy rfl ?_;try obtain rfl:=Option.some.inj h
  exact hP _ hS
 ·refine C1 ?_;refine C6 Bc ?_;refine CZ fun K5 FX=> ?_;refine Dh gC ?_;try simp only [W,Nat.reduceAdd]
  refine C6 FX ?_;refine C2 ?_;refine Dd Fy rfl ?_;try obtain rfl:=Option.some.inj h
  exact hP _ hS
theorem N5 {a0:Int} {a1:List UInt8} {r:(List Part×Bool)} (h:JD a0 a1=some r) {F:List It} {H:J} (hS:aC H (F)) {P:AV→J→Prop} (hP: ∀v37:AV,bG v37→ ∀H',aC H' (⟨v37,4,r.1.map GB⟩::F)→P (.aA [v37,.bool r.2]) H'):aq C 36 [.int .i64 a0,.str a1] H P:=by
 refine Dk gC (res:=[.tmp 4,.tmp 5]) (n:=36) rfl rfl rfl rfl fun K0 Fy=> ?_;simp only [W,Nat.reduceSub,Nat.reduceAdd,List.replicate];unfold JD at h;refine CZ fun K1 FA=> ?_;refine Dh gC ?_;try simp only [W,Nat.reduceAdd]
 refine C6 FA ?_;refine CZ fun K2 Bc=> ?_;refine CZ fun K3 Gf=> ?_;refine Dh gC ?_;try simp only [W,Fv,Nat.reduceAdd]
 refine DC h fun Gk IP h=> ?_;refine M6 IP hS fun H hS=> ?_;try simp only [W]
 refine C6 Gf ?_;refine C4 ?_;simp only [W];refine Dg h (fun hc h=> ?_) (fun hc h=> ?_)
 ·refine CZ fun K5 FX=> ?_;refine Dh gC ?_;try simp only [W,Nat.reduceAdd]
  refine C6 FX ?_;refine C2 ?_;refine C7 Bc ?_;refine De Fy rfl rfl ?_;try obtain rfl:=Option.some.inj h
  exact hP _ Bn _ (hS.DT 4)
 ·refine C1 ?_;refine C6 Bc ?_;refine CZ fun K6 G7=> ?_;refine Dh gC ?_;try simp only [W,Nat.reduceAdd]
  refine C6 G7 ?_;refine CZ fun K7 GK=> ?_;refine CZ fun K8 F4=> ?_;refine Dh gC ?_;try simp only [W,Nat.reduceAdd]
  refine C6 F4 ?_;obtain ⟨LY,N1,g22⟩:=Option.bind_eq_some_iff.1 h;refine DI gC (fun s H=> ∃FY:List Part,LY=(FY)∧ ∃Ib:AV,bG Ib∧s=[u,u,u,u,u,u,Ib,u,u,u,u,u,u,u,u,u,u,u,u,u,u,u,u,u,u,u,u,u,u,u,u,u,u,u,u,u]∧aC H (⟨Ib,4,FY.map GB⟩::F)) (fun HA F5=> ?_) (fun s H hq=> ?_)
  ·refine C0 fun HR Gl=> ?_;refine DE gC N1 (fun x s H=>match x with|(GV,Gv)=> ∃v10:AV,bG v10∧s=[.int .i64 a0,.str a1,u,u,u,u,v10,.int .i64 Gv,u,u,u,u,u,u,u,u,u,u,u,u,u,u,u,u,u,u,u,u,u,u,u,u,u,u,u,u]∧aC H (⟨v10,4,GV.map GB⟩::F)) ⟨_,Bn,rfl,(hS.DT 4)⟩ (fun x N2 s H h N3 hi Ip Gq=> ?_)
   obtain ⟨GV,Gv⟩:=x;try dsimp only at hi
   obtain ⟨v10,HB,rfl,hS⟩:=hi;simp only [Mx] at h;refine CZ fun M3 HS=> ?_;refine CZ fun JP Hb=> ?_;refine Dh gC ?_;try simp only [W,Fv,Nat.reduceAdd]
   refine C6 Hb ?_;refine C4 ?_;simp only [W];refine Dg h (fun hc h=> ?_) (fun hc h=> ?_)
   ·refine C1 ?_;refine C6 HS ?_;refine CZ fun JQ GQ=> ?_;refine C0 fun Ic Gr=> ?_;refine Dh gC ?_;try simp only [W,Fv,Nat.reduceAdd]
    refine DC h fun JC N6 h=> ?_;refine PZ N6 hS fun H hS=> ?_;try simp only [W,Fv]
    refine DP rfl rfl h fun HL Xt h=> ?_;try simp only [W,Fv]
    refine D5 rfl rfl rfl rfl rfl ?_;try simp only [W]
    refine DB (el:=([(⟨a0,Gv,(a1.length:Int),HL⟩:Part)]:List Part).map GB) hS rfl rfl rfl rfl rfl rfl rfl fun L6 H N7 hS=> ?_;try simp only [W,Fv]
    refine DS (l:=GV) (c:=GB) 1 hS rfl HB rfl rfl rfl (hS.iK 0 rfl N7) (fun _=>rfl) rfl h fun v32 H Gn RS hm h hS=> ?_;try simp only [W]
    refine C_ Gr ?_;refine C6 GQ ?_;refine Dh gC ?_;try simp only [W,Fv,Nat.reduceAdd]
    exact DF Gq h ⟨_,RS,rfl,(hS.D0 2 [1] (by decide))⟩
   ·refine C3 ?_;refine C8 HS ?_;try obtain rfl:=Option.some.inj h
    obtain rfl:=N3 _ rfl;have h:(some (GV):Option ((List Part)))=some (GV):=rfl;refine DG Gq ?_;refine Da Gl ?_;exact DJ F5 ⟨_,(Option.some.inj h).symm,_,HB,rfl,hS⟩
  ·obtain ⟨FY,FI,Ib,L4,rfl,hS⟩:=hq;obtain rfl:=FI.symm;replace h:=g22;try dsimp only at h
   refine C6 GK ?_;refine CZ fun L7 HF=> ?_;refine Dh gC ?_;try simp only [W,Nat.reduceAdd]
   refine C6 HF ?_;refine C2 ?_;refine De Fy rfl rfl ?_;try obtain rfl:=Option.some.inj h
   exact hP _ L4 _ hS
theorem RT {a0:List UInt8} {a1:Int} {r:List UInt8} (h:strings_Repeat a0 a1=some r) {F:List It} {H:J} (hS:aC H F) {P:AV→J→Prop} (hP: ∀H',aC H' F→P (.str r) H'):aq C 131 [.str a0,.int .i64 a1] H P:=
 Fs (I:=IK) rfl (by simp [IK,mb]) h hS hP
theorem RU {a0:Int} {a1:Int} {r:(FD)} (h:KI a0 a1=some r) {F:List It} {H:J} (hS:aC H (F)) {P:AV→J→Prop} (hP: ∀v6:AV,bG v6→ ∀H',aC H' (⟨v6,2,r.Has.map Fx⟩::F)→P (.agg [.int .i64 r.Id,.int .i64 r.Fw,.str r.Text,v6]) H'):aq C 96 [.int .i64 a0,.int .i64 a1] H P:=by
 refine Dk gC (res:=[.cell 4 55]) (n:=10) rfl rfl rfl rfl fun K0 Fy=> ?_;simp only [W,Nat.reduceSub,Nat.reduceAdd,List.replicate];unfold KI at h;refine CZ fun K1 FA=> ?_;refine Dh gC ?_;try simp only [W,Nat.reduceAdd]
 refine Dr hS rfl rfl fun FB FC H hS=> ?_;try simp only [W]
 refine C6 FA ?_;refine CZ fun K4 FG=> ?_;refine Dh gC ?_;try simp only [W,Nat.reduceAdd]
 refine DC h fun FP Hp h=> ?_;refine RT Hp hS fun H hS=> ?_;try simp only [W,Fv]
 refine D5 rfl rfl rfl rfl rfl ?_;try simp only [W]
 refine Ds (a:= .agg [.int .i64 a0,.int .i64 a1,.str FP,.nil]) (y' := .agg [.int .i64 a0,.int .i64 a1,.str FP,.nil]) 0 hS rfl rfl rfl rfl rfl rfl rfl rfl fun H hS=> ?_
 try simp only [W]
 refine C6 FG ?_;refine C2 ?_;refine Dc Fy (D2 rfl rfl (hS.var 0 rfl) rfl rfl) ?_;try obtain rfl:=Option.some.inj h
 exact hP _ Bn _ ((hS.DT 2).D0 2 [0] (by decide))
theorem P0 {a0:Int} {a1:Int} {r:(FD×Bool)} (h:JE a0 a1=some r) {F:List It} {H:J} (hS:aC H (F)) {P:AV→J→Prop} (hP: ∀v12:AV,bG v12→ ∀H',aC H' (⟨v12,2,r.1.Has.map Fx⟩::F)→P (.aA [.agg [.int .i64 r.1.Id,.int .i64 r.1.Fw,.str r.1.Text,v12],.bool r.2]) H'):aq C 37 [.int .i64 a0,.int .i64 a1] H P:=by
 refine Dk gC (res:=[.cell 4 55,.tmp 5]) (n:=14) rfl rfl rfl rfl fun K0 Fy=> ?_;simp only [W,Nat.reduceSub,Nat.reduceAdd,List.replicate];unfold JE at h;refine CZ fun K1 FA=> ?_;refine Dh gC ?_;try simp only [W,Nat.reduceAdd]
 refine Dr hS rfl rfl fun FB FC H hS=> ?_;try simp only [W]
 refine C6 FA ?_;refine CZ fun K4 FG=> ?_;refine CZ fun K5 FX=> ?_;refine Dh gC ?_;try simp only [W,Nat.reduceAdd]
 refine DC h fun F7 G3 h=> ?_;refine M2 G3 hS fun H hS=> ?_;try simp only [W]
 refine C6 FX ?_;refine C4 ?_;simp only [W];refine Dg h (fun hc h=> ?_) (fun hc h=> ?_)
 ·refine CZ fun K7 GK=> ?_;refine Dh gC ?_;try simp only [W,Fv,Nat.reduceAdd]
  refine D5 rfl rfl rfl rfl rfl ?_;try simp only [W]
  refine Ds (a:= .agg [.int .i64 0,.int .i64 0,.str ([]),.nil]) (y' := .agg [.int .i64 0,.int .i64 0,.str ([]),.nil]) 0 hS rfl rfl rfl rfl rfl rfl rfl rfl fun H hS=> ?_
  try simp only [W]
  refine C6 GK ?_;refine C2 ?_;refine C7 FG ?_;refine Dc Fy (D2 rfl rfl (hS.var 0 rfl) rfl (D3 rfl rfl)) ?_;try obtain rfl:=Option.some.inj h
  exact hP _ Bn _ ((hS.DT 2).D0 2 [0] (by decide))
 ·refine C1 ?_;refine C6 FG ?_;refine CZ fun K8 F4=> ?_;refine Dh gC ?_;try simp only [W,Nat.reduceAdd]
  refine DC h fun FN JR h=> ?_;refine RU JR hS fun v10 HB H hS=> ?_;try simp only [W]
  refine Ds (a:= .agg [.int .i64 FN.Id,.int .i64 FN.Fw,.str FN.Text,v10]) (y' := .agg [.int .i64 FN.Id,.int .i64 FN.Fw,.str FN.Text,v10]) 1 hS rfl rfl rfl rfl rfl (by simp only [dP,List.all_cons,List.all_nil,HB.q8];rfl) rfl rfl fun H hS=> ?_
  try simp only [W]
  refine C6 F4 ?_;refine C2 ?_;refine Dc Fy (D2 rfl rfl (hS.var 1 rfl) rfl (D3 rfl rfl)) ?_;try obtain rfl:=Option.some.inj h
  exact hP _ HB _ (hS.D0 2 [0] (by decide))
theorem RV {a0:List Int} {r:(Int)} (h:KJ a0=some r) {F:List It} {H:J} (hS:aC H (F)) {P:AV→J→Prop} (hP: ∀H',aC H' (F)→P (.int .i64 r) H'):aq C 24 [.fz (a0.map (AV.int .u8))] H P:=by
 refine Dk gC (res:=[.tmp 2]) (n:=20) rfl rfl rfl rfl fun K0 Fy=> ?_;simp only [W,Nat.reduceSub,Nat.reduceAdd,List.replicate];unfold KJ at h;refine CZ fun K1 FA=> ?_;refine Dh gC ?_;try simp only [W,Nat.reduceAdd]
 refine C6 FA ?_;refine CZ fun K2 Bc=> ?_;refine Dh gC ?_;try simp only [W,Nat.reduceAdd]
 refine C6 Bc ?_;refine CZ fun K3 Gf=> ?_;refine CZ fun K4 FG=> ?_;refine Dh gC ?_;try simp only [W,Fv,Nat.reduceAdd]
 refine C6 FG ?_;obtain ⟨IQ,IS,g15⟩:=Option.bind_eq_some_iff.1 h;refine DI gC (fun s H=> ∃FM:Int,IQ=(FM)∧s=[u,u,u,.int .i64 FM,u,u,u,u,u,u,u,u,u,u,u,u,u,u,u,u]∧aC H (F)) (fun Ji GD=> ?_) (fun s H hq=> ?_)
 ·refine C0 fun LX HE=> ?_;refine DE gC IS (fun x s H=>match x with|(FQ,FU)=>s=[u,u,u,.int .i64 FQ,u,u,.fz (a0.map (AV.int .u8)),.int .i64 (a0.length:Int),.int .i64 FU,u,u,u,u,u,u,u,u,u,u,u]∧aC H (F)) ⟨rfl,hS⟩ (fun x Kx s H h Ie hi Ku GY=> ?_)
  obtain ⟨FQ,FU⟩:=x;try dsimp only at hi
  obtain ⟨rfl,hS⟩:=hi;simp only [My] at h;refine CZ fun Io GC=> ?_;refine Dh gC ?_;try simp only [W,Fv,Nat.reduceAdd]
  refine C6 GC ?_;refine CZ fun HA F5=> ?_;refine C4 ?_;simp only [W];refine Dg h (fun hc h=> ?_) (fun hc h=> ?_)
  ·refine C1 ?_;refine C6 F5 ?_;refine CZ fun HR Gl=> ?_;refine C0 fun Ip Gq=> ?_;refine CZ fun Jk GP=> ?_;refine Dh gC ?_;try simp only [W,Fv,Nat.reduceAdd]
   refine Dv rfl rfl rfl (fun _=>rfl) h fun FL L8 h=> ?_;try simp only [W,Fv]
   refine C6 GP ?_;refine Dh gC ?_;try simp only [W,Fv,Nat.reduceAdd]
   rw [Dl _ _ rfl,Option.map_some,ur];try simp only [W]
   refine C_ Gq ?_;refine C6 Gl ?_;refine Dh gC ?_;try simp only [W,Fv,Nat.reduceAdd]
   exact DF GY h ⟨rfl,hS⟩
  ·refine C3 ?_;refine C8 F5 ?_;try obtain rfl:=Option.some.inj h
   obtain rfl:=Ie _ rfl;have h:(some (FQ):Option (Int))=some (FQ):=rfl;refine DG GY ?_;refine Da HE ?_;exact DJ GD ⟨_,(Option.some.inj h).symm,rfl,hS⟩
 ·obtain ⟨FM,FI,rfl,hS⟩:=hq;obtain rfl:=FI.symm;replace h:=g15;try dsimp only at h
  refine C6 Gf ?_;refine CZ fun JP Hb=> ?_;refine Dh gC ?_;try simp only [W,Nat.reduceAdd]
  refine C6 Hb ?_;refine C2 ?_;refine Dd Fy rfl ?_;try obtain rfl:=Option.some.inj h
  exact hP _ hS
theorem P1 {a0:Span} {r:(Bool)} (h:J8 a0=some r) {F:List It} {H:J} (hS:aC H (F)) {P:AV→J→Prop} (hP: ∀H',aC H' (F)→P (.bool r) H'):aq C 132 [.agg [.int .i64 a0.Fz,.int .i64 a0.To]] H P:=by
 refine Dk gC (res:=[.tmp 2]) (n:=18) rfl rfl rfl rfl fun K0 Fy=> ?_;simp only [W,Nat.reduceSub,Nat.reduceAdd,List.replicate];unfold J8 at h;refine CZ fun K1 FA=> ?_;refine Dh gC ?_;try simp only [W,Nat.reduceAdd]
 refine Dq hS rfl rfl rfl rfl fun FB FC H hS=> ?_;try simp only [W]
 refine C6 FA ?_;refine CZ fun K4 FG=> ?_;refine Dh gC ?_;try simp only [W,Fv,Nat.reduceAdd,Nat.reduceBEq,hS.var 0 rfl]
 refine D4 h (fun hc h=> ?_) (fun hc h=> ?_)
 ·try simp only [W,Fv,reduceIte,Nat.reduceAdd,Nat.reduceBEq,hS.var 0 rfl,hc]
  refine D4 h (fun hc h=> ?_) (fun hc h=> ?_)
  ·try simp only [W,Fv,reduceIte,Nat.reduceAdd,Nat.reduceBEq,hS.var 0 rfl,hc]
   refine C6 FG ?_;refine C2 ?_;refine Dd Fy rfl ?_;try obtain rfl:=Option.some.inj h
   exact hP _ (hS.D0 1 [] (by decide))
  ·try simp only [W,hc]
   refine C6 FG ?_;refine C2 ?_;refine Dd Fy rfl ?_;try obtain rfl:=Option.some.inj h
   exact hP _ (hS.D0 1 [] (by decide))
 ·try simp only [W,hc]
  refine C6 FG ?_;refine C2 ?_;refine Dd Fy rfl ?_;try obtain rfl:=Option.some.inj h
  exact hP _ (hS.D0 1 [] (by decide))
theorem P2 {a0:List Span} {r:(Bool)} (h:J9 a0=some r) {F:List It} {H:J} (hS:aC H (F)) {P:AV→J→Prop} (hP: ∀H',aC H' (F)→P (.bool r) H'):aq C 122 [.fz (a0.map Fx)] H P:=by
 refine Dk gC (res:=[.tmp 2]) (n:=34) rfl rfl rfl rfl fun K0 Fy=> ?_;simp only [W,Nat.reduceSub,Nat.reduceAdd,List.replicate];unfold J9 at h;refine CZ fun K1 FA=> ?_;refine Dh gC ?_;try simp only [W,Nat.reduceAdd]
 refine C6 FA ?_;refine CZ fun K2 Bc=> ?_;refine CZ fun K3 Gf=> ?_;refine Dh gC ?_;try simp only [W,Fv,Nat.reduceAdd]
 refine C6 Gf ?_;refine C4 ?_;simp only [W];refine Dg h (fun hc h=> ?_) (fun hc h=> ?_)
 ·refine CZ fun K4 FG=> ?_;refine Dh gC ?_;try simp only [W,Nat.reduceAdd]
  refine C6 FG ?_;refine C2 ?_;refine C7 Bc ?_;refine Dd Fy rfl ?_;try obtain rfl:=Option.some.inj h
  exact hP _ hS
 ·refine C1 ?_;refine C6 Bc ?_;refine CZ fun K5 FX=> ?_;refine CZ fun K6 G7=> ?_;refine Dh gC ?_;try simp only [W,Fv,Nat.reduceAdd]
  refine C6 G7 ?_;obtain ⟨IQ,IS,g15⟩:=Option.bind_eq_some_iff.1 h;refine DI gC (fun s H=>IQ=LR.next ()∧s=[u,u,u,u,u,u,u,u,u,u,u,u,u,u,u,u,u,u,u,u,u,u,u,u,u,u,u,u,u,u,u,u,u,u]∧aC H (F)) (fun Ji GD=> ?_) (fun s H hq=> ?_)
  ·refine C0 fun LX HE=> ?_;refine DE gC IS (fun x s H=>s=[.fz (a0.map Fx),u,u,u,u,u,u,u,.fz (a0.map Fx),.int .i64 (a0.length:Int),.int .i64 x,u,u,u,u,u,u,u,u,u,u,u,u,u,u,u,u,u,u,u,u,u,u,u]∧aC H (F)) ⟨rfl,hS⟩ (fun FM Kx s H h Ie hi Ku GY=> ?_)
   skip
   try dsimp only at hi
   obtain ⟨rfl,hS⟩:=hi;simp only [KK] at h;refine CZ fun Io GC=> ?_;refine Dh gC ?_;try simp only [W,Fv,Nat.reduceAdd]
   refine C6 GC ?_;refine CZ fun HA F5=> ?_;refine C4 ?_;simp only [W];refine Dg h (fun hc h=> ?_) (fun hc h=> ?_)
   ·refine C1 ?_;refine C6 F5 ?_;refine CZ fun HR Gl=> ?_;refine C0 fun Ip Gq=> ?_;refine CZ fun Jk GP=> ?_;refine Dh gC ?_;try simp only [W,Fv,Nat.reduceAdd]
    refine Dv rfl rfl rfl (fun _=>rfl) h fun FL L8 h=> ?_;try simp only [W,Fv,F3,reduceIte,Nat.reduceAdd,Nat.reduceLeDiff]
    refine Dr hS rfl rfl fun P3 P4 H hS=> ?_;try simp only [W]
    refine Ds (a:= .agg [.int .i64 FL.Fz,.int .i64 FL.To]) (y' := .agg [.int .i64 FL.Fz,.int .i64 FL.To]) 0 hS rfl rfl rfl rfl rfl rfl rfl rfl fun H hS=> ?_
    try simp only [W]
    refine C6 GP ?_;refine CZ fun JP Hb=> ?_;obtain ⟨P5,h,N8⟩:=Option.bind_eq_some_iff.1 h;refine DI gC (fun s H=> ∃KL:Bool,P5=(KL)∧s=[.fz (a0.map Fx),u,u,u,u,u,u,u,.fz (a0.map Fx),.int .i64 (a0.length:Int),.int .i64 FM,u,u,u,u,u,u,u,u,u,u,u,u,u,u,u,u,u,u,u,u,u,.bool KL,u]∧aC H (F)) (fun Jl GL=> ?_) (fun s H hq=> ?_)
    ·refine CZ fun JN G4=> ?_;refine Dj gC (by kernel_rfl) ?_
     try simp only [W,Fv,reduceIte,Nat.reduceAdd,Nat.reduceLeDiff,hS.var 0 rfl]
     refine Ev (bT:=[[.sc]]) (ys:=[.agg [.int .i64 FL.Fz,.int .i64 FL.To]]) h rfl (by rfl) fun Iy RW h=>⟨.bool Iy,P1 RW (aC.nil _) fun H hS=>En rfl (Ek rfl (Ej rfl)),⟨rfl,rfl,fun _=>rfl⟩,?_⟩
     try simp only [W]
     refine D4 h (fun hc h=> ?_) (fun hc h=> ?_)
     ·try simp only [W,hc]
      refine C6 G4 ?_;refine C5 ?_;exact DJ GL ⟨_,(Option.some.inj h).symm,rfl,(hS.D0 1 [] (by decide))⟩
     ·try simp only [W,Fv,hc]
      refine D4 h (fun hc h=> ?_) (fun hc h=> ?_)
      ·try simp only [W,Fv,Nat.reduceAdd,Nat.reduceBEq,hS.var 0 rfl,hc]
       refine Dv rfl rfl rfl (fun _=>rfl) h fun I_ P6 h=> ?_;try simp only [W,Fv,F3,reduceIte,Nat.reduceAdd,Nat.reduceBEq,Bool.false_eq_true]
       refine C6 G4 ?_;refine C5 ?_;exact DJ GL ⟨_,(Option.some.inj h).symm,rfl,(hS.D0 1 [] (by decide))⟩
      ·try simp only [W,reduceIte,Bool.false_eq_true,hc]
       refine C6 G4 ?_;refine C5 ?_;exact DJ GL ⟨_,(Option.some.inj h).symm,rfl,(hS.D0 1 [] (by decide))⟩
    ·obtain ⟨KL,FI,rfl,hS⟩:=hq;obtain rfl:=FI.symm;replace h:=N8;try dsimp only at h
     refine C6 Hb ?_;refine C4 ?_;simp only [W];refine Dg h (fun hc h=> ?_) (fun hc h=> ?_)
     ·refine CZ fun RX N9=> ?_;refine Dh gC ?_;try simp only [W,Nat.reduceAdd]
      refine C6 N9 ?_;refine C2 ?_;refine Db Gq ?_;refine C7 Gl ?_;try obtain rfl:=Option.some.inj h
      obtain rfl:=Ie _ rfl;have h:(some (LR.done false):Option (LR Unit (Bool)))=some (LR.done false):=rfl;refine DH GY ?_;refine Db HE ?_;try obtain rfl:=Option.some.inj h
      obtain rfl:=Option.some.inj g15;have h:(some false:Option (Bool))=some false:=rfl;refine DK GD ?_;refine C7 FX ?_;refine Dd Fy rfl ?_;try obtain rfl:=Option.some.inj h
      exact hP _ hS
     ·refine C1 ?_;refine C_ Gq ?_;refine C6 Gl ?_;refine Dh gC ?_;try simp only [W,Fv,Nat.reduceAdd]
      exact DF GY h ⟨rfl,hS⟩
   ·refine C3 ?_;refine C8 F5 ?_;try obtain rfl:=Option.some.inj h
    obtain rfl:=Ie _ rfl;have h:(some (LR.next ()):Option (LR Unit (Bool)))=some (LR.next ()):=rfl
    refine DG GY ?_;refine Da HE ?_;exact DJ GD ⟨(Option.some.inj h).symm,rfl,hS⟩
  ·obtain ⟨rfl,rfl,hS⟩:=hq;replace h:=g15;try dsimp only at h
   refine C6 FX ?_;refine CZ fun N_ Jm=> ?_;refine Dh gC ?_;try simp only [W,Nat.reduceAdd]
   refine C6 Jm ?_;refine C2 ?_;refine Dd Fy rfl ?_;try obtain rfl:=Option.some.inj h
   exact hP _ hS
theorem RY {a0:List Span} {a1:Int} {r:(Bool)} (h:KM a0 a1=some r) {F:List It} {H:J} (hS:aC H (F)) {P:AV→J→Prop} (hP: ∀H',aC H' (F)→P (.bool r) H'):aq C 101 [.fz (a0.map Fx),.int .i64 a1] H P:=by
 refine Dk gC (res:=[.tmp 4]) (n:=23) rfl rfl rfl rfl fun K0 Fy=> ?_;simp only [W,Nat.reduceSub,Nat.reduceAdd,List.replicate];unfold KM at h;refine CZ fun K1 FA=> ?_;refine Dh gC ?_;try simp only [W,Nat.reduceAdd]
 refine C6 FA ?_;refine CZ fun K2 Bc=> ?_;refine Dh gC ?_;try simp only [W,Nat.reduceAdd]
 refine DC h fun b3 lj h=> ?_;refine P2 lj hS fun H hS=> ?_;try simp only [W]
 refine D4 h (fun hc h=> ?_) (fun hc h=> ?_)
 ·try simp only [W,Fv,hc]
  refine D4 h (fun hc h=> ?_) (fun hc h=> ?_)
  ·try simp only [W,reduceIte,hc]
   refine C6 Bc ?_;refine C2 ?_;refine Dd Fy rfl ?_;try obtain rfl:=Option.some.inj h
   exact hP _ hS
  ·try simp only [W,Fv,hc]
   refine Dv rfl rfl rfl (fun _=>rfl) h fun Gk IP h=> ?_;try simp only [W,Fv,F3,reduceIte,Nat.reduceAdd,Nat.reduceBEq,Bool.false_eq_true]
   refine C6 Bc ?_;refine C2 ?_;refine Dd Fy rfl ?_;try obtain rfl:=Option.some.inj h
   exact hP _ hS
 ·try simp only [W,hc]
  refine C6 Bc ?_;refine C2 ?_;refine Dd Fy rfl ?_;try obtain rfl:=Option.some.inj h
  exact hP _ hS
theorem RZ {a0:Span} {a1:Int} {i1:Nat} {w1:Nat} {r:(Bool)} (h:Mz a0 a1=some r) {F:List It} {H:J} (P7:⟨.ptr i1 w1 0 0,1,[.int .i64 a1]⟩∈F) (hS:aC H (F)) {P:AV→J→Prop} (hP: ∀H',aC H' (F)→P (.bool r) H'):aq C 135 [.agg [.int .i64 a0.Fz,.int .i64 a0.To],.ptr i1 w1 0 0] H P:=by
 refine Dk gC (res:=[.tmp 3]) (n:=14) rfl rfl rfl rfl fun K0 Fy=> ?_;simp only [W,Nat.reduceSub,Nat.reduceAdd,List.replicate];unfold Mz at h;refine CZ fun K1 FA=> ?_;refine Dh gC ?_;try simp only [W,Nat.reduceAdd]
 refine Dq hS rfl rfl rfl rfl fun FB FC H hS=> ?_;try simp only [W]
 refine C6 FA ?_;refine CZ fun K4 FG=> ?_;refine Dh gC ?_;try simp only [W,Fv,Nat.reduceAdd,Nat.reduceBEq,hS.DU (List.mem_cons_of_mem _ (P7)),hS.var 0 rfl]
 refine D4 h (fun hc h=> ?_) (fun hc h=> ?_)
 ·try simp only [W,Fv,reduceIte,Nat.reduceAdd,Nat.reduceBEq,hS.DU (List.mem_cons_of_mem _ (P7)),hS.var 0 rfl,hc]
  refine C6 FG ?_;refine C2 ?_;refine Dd Fy rfl ?_;try obtain rfl:=Option.some.inj h
  exact hP _ (hS.D0 1 [] (by decide))
 ·try simp only [W,hc]
  refine C6 FG ?_;refine C2 ?_;refine Dd Fy rfl ?_;try obtain rfl:=Option.some.inj h
  exact hP _ (hS.D0 1 [] (by decide))
theorem R0 {a0:List Span} {g1:Span→Option Bool} {f1:FuncId} {c1:List AV} {r:(Int)} (h:KN a0 g1=some r) {F:List It} {H:J} (cS: ∀{x0:Span} {r:Bool},g1 x0=some r→ ∀(L:List It) (n:Nat),L.drop n=F→ ∀(H:J),aC H L→ ∀(P:AV→J→Prop),(∀H',aC H' L→P (.bool r) H')→aq C f1 ([.agg [.int .i64 x0.Fz,.int .i64 x0.To]] ++ c1) H P) (hS:aC H (F)) {P:AV→J→Prop} (hP: ∀H',aC H' (F)→P (.int .i64 r) H'):aq C 168 [.fz (a0.map Fx),.fn f1 c1] H P:=by
 refine Dk gC (res:=[.tmp 4]) (n:=19) rfl rfl rfl rfl fun K0 Fy=> ?_;simp only [W,Nat.reduceSub,Nat.reduceAdd,List.replicate];unfold KN at h;refine CZ fun K1 FA=> ?_;refine Dh gC ?_;try simp only [W,Nat.reduceAdd]
 refine C6 FA ?_;refine CZ fun K2 Bc=> ?_;refine CZ fun K3 Gf=> ?_;refine Dh gC ?_;try simp only [W,Fv,Nat.reduceAdd]
 refine C6 Gf ?_;obtain ⟨L9,L_,g12⟩:=Option.bind_eq_some_iff.1 h;refine DI gC (fun s H=>L9=LR.next ()∧s=[u,u,u,u,u,u,u,u,u,u,u,u,u,u,u,u,u,u,u]∧aC H (F)) (fun K7 GK=> ?_) (fun s H hq=> ?_)
 ·refine C0 fun K8 F4=> ?_;refine DE gC L_ (fun x s H=>s=[.fz (a0.map Fx),.fn f1 c1,u,u,u,u,u,.int .i64 (a0.length:Int),.int .i64 x,u,u,u,u,u,u,u,u,u,u]∧aC H (F)) ⟨rfl,hS⟩ (fun Gx Ky s H h Jn hi K9 FW=> ?_)
  skip
  try dsimp only at hi
  obtain ⟨rfl,hS⟩:=hi;simp only [NO] at h;refine CZ fun IL Gw=> ?_;refine Dh gC ?_;try simp only [W,Fv,Nat.reduceAdd]
  refine C6 Gw ?_;refine CZ fun IM Gh=> ?_;refine C4 ?_;simp only [W];refine Dg h (fun hc h=> ?_) (fun hc h=> ?_)
  ·refine C1 ?_;refine C6 Gh ?_;refine CZ fun JM G6=> ?_;refine C0 fun Io GC=> ?_;refine CZ fun HA F5=> ?_;refine Dh gC ?_;try simp only [W,Nat.reduceAdd]
   refine C6 F5 ?_;refine CZ fun HR Gl=> ?_;refine Dh gC ?_;try simp only [W,Fv,Nat.reduceAdd]
   refine Dv rfl rfl rfl (fun _=>rfl) h fun Ja Kw h=> ?_;try simp only [W,Fv,F3,reduceIte,Nat.reduceAdd,Nat.reduceLeDiff]
   refine DC h fun Gt R1 h=> ?_;refine cS R1 _ 0 rfl _ hS _ fun H hS=> ?_;try simp only [W]
   refine C6 Gl ?_;refine C4 ?_;simp only [W];refine Dg h (fun hc h=> ?_) (fun hc h=> ?_)
   ·refine CZ fun Kz G8=> ?_;refine Dh gC ?_;try simp only [W,Nat.reduceAdd]
    refine C6 G8 ?_;refine C2 ?_;refine Db GC ?_;refine C7 G6 ?_;try obtain rfl:=Option.some.inj h
    obtain rfl:=Jn _ rfl;have h:(some (LR.done Gx):Option (LR Unit (Int)))=some (LR.done Gx):=rfl;refine DH FW ?_;refine Db F4 ?_;try obtain rfl:=Option.some.inj h
    obtain rfl:=Option.some.inj g12;have h:(some Gx:Option (Int))=some Gx:=rfl;refine DK GK ?_;refine C7 Bc ?_;refine Dd Fy rfl ?_;try obtain rfl:=Option.some.inj h
    exact hP _ hS
   ·refine C1 ?_;refine C_ GC ?_;refine C6 G6 ?_;refine Dh gC ?_;try simp only [W,Fv,Nat.reduceAdd]
    exact DF FW h ⟨rfl,hS⟩
  ·refine C3 ?_;refine C8 Gh ?_;try obtain rfl:=Option.some.inj h
   obtain rfl:=Jn _ rfl;have h:(some (LR.next ()):Option (LR Unit (Int)))=some (LR.next ()):=rfl
   refine DG FW ?_;refine Da F4 ?_;exact DJ GK ⟨(Option.some.inj h).symm,rfl,hS⟩
 ·obtain ⟨rfl,rfl,hS⟩:=hq;replace h:=g12;try dsimp only at h
  refine C6 Bc ?_;refine CZ fun Jl GL=> ?_;refine Dh gC ?_;try simp only [W,Nat.reduceAdd]
  refine C6 GL ?_;refine C2 ?_;refine Dd Fy rfl ?_;try obtain rfl:=Option.some.inj h
  exact hP _ hS
theorem R2 {a0:List Span} {g1:Span→Option Bool} {f1:FuncId} {c1:List AV} {r:(Bool)} (h:KO a0 g1=some r) {F:List It} {H:J} (cS: ∀{x0:Span} {r:Bool},g1 x0=some r→ ∀(L:List It) (n:Nat),L.drop n=F→ ∀(H:J),aC H L→ ∀(P:AV→J→Prop),(∀H',aC H' L→P (.bool r) H')→aq C f1 ([.agg [.int .i64 x0.Fz,.int .i64 x0.To]] ++ c1) H P) (hS:aC H (F)) {P:AV→J→Prop} (hP: ∀H',aC H' (F)→P (.bool r) H'):aq C 134 [.fz (a0.map Fx),.fn f1 c1] H P:=by
 refine Dk gC (res:=[.tmp 4]) (n:=9) rfl rfl rfl rfl fun K0 Fy=> ?_;simp only [W,Nat.reduceSub,Nat.reduceAdd,List.replicate];unfold KO at h;refine CZ fun K1 FA=> ?_;refine Dh gC ?_;try simp only [W,Nat.reduceAdd]
 refine C6 FA ?_;refine CZ fun K2 Bc=> ?_;refine Dh gC ?_;try simp only [W,Nat.reduceAdd]
 refine DC h fun b3 lj h=> ?_;refine R0 lj cS hS fun H hS=> ?_;try simp only [W,Fv]
 refine C6 Bc ?_;refine C2 ?_;refine Dd Fy rfl ?_;try obtain rfl:=Option.some.inj h
 exact hP _ hS
theorem P8 {a0:List Span} {a1:Int} {r:(Bool)} (h:J_ a0 a1=some r) {F:List It} {H:J} (hS:aC H (F)) {P:AV→J→Prop} (hP: ∀H',aC H' (F)→P (.bool r) H'):aq C 100 [.fz (a0.map Fx),.int .i64 a1] H P:=by
 refine Dk gC (res:=[.tmp 4]) (n:=8) rfl rfl rfl rfl fun K0 Fy=> ?_;simp only [W,Nat.reduceSub,Nat.reduceAdd,List.replicate];unfold J_ at h;refine CZ fun K1 FA=> ?_;refine Dh gC ?_;try simp only [W,Nat.reduceAdd]
 refine Dq hS rfl rfl rfl rfl fun FB FC H hS=> ?_;try simp only [W]
 refine C6 FA ?_;refine CZ fun K4 FG=> ?_;refine Dh gC ?_;try simp only [W,Nat.reduceAdd]
 refine DC h fun FP Hp h=> ?_;refine R2 Hp (fun h _ n hL _ hS _ hP=>RZ h (D1 hL (List.mem_of_getElem? (i:=0) rfl)) hS hP) hS fun H hS=> ?_;try simp only [W]
 refine C6 FG ?_;refine C2 ?_;refine Dd Fy rfl ?_;try obtain rfl:=Option.some.inj h
 exact hP _ (hS.D0 1 [] (by decide))
theorem M7 {a0:FD} {r:(Bool)} (h:Iz a0=some r) {F:List It} {H:J} (hS:aC H (F)) {P:AV→J→Prop} (hP: ∀H',aC H' (F)→P (.bool r) H'):aq C 40 [.agg [.int .i64 a0.Id,.int .i64 a0.Fw,.str a0.Text,.fz (a0.Has.map Fx)]] H P:=by
 refine Dk gC (res:=[.tmp 2]) (n:=44) rfl rfl rfl rfl fun K0 Fy=> ?_;simp only [W,Nat.reduceSub,Nat.reduceAdd,List.replicate];unfold Iz at h;refine CZ fun K1 FA=> ?_;refine Dh gC ?_;try simp only [W,Nat.reduceAdd]
 refine Dq hS rfl rfl rfl rfl fun FB FC H hS=> ?_;try simp only [W]
 refine C6 FA ?_;refine CZ fun K4 FG=> ?_;refine CZ fun K5 FX=> ?_;obtain ⟨Ma,h,g8⟩:=Option.bind_eq_some_iff.1 h;refine DI gC (fun s H=> ∃FU:Bool,Ma=(FU)∧s=[u,.ptr FB FC 0 0,u,u,u,u,u,u,u,u,u,u,u,u,u,u,u,u,u,u,u,u,u,u,u,.bool FU,u,u,u,u,u,u,u,u,u,u,u,u,u,u,u,u,u,u]∧aC H (⟨.ptr FB FC 0 0,4,[.agg [.int .i64 a0.Id,.int .i64 a0.Fw,.str a0.Text,.fz (a0.Has.map Fx)]]⟩::F)) (fun K9 FW=> ?_) (fun s H hq=> ?_)
 ·refine CZ fun Ji GD=> ?_;refine Dh gC ?_;try simp only [W,Fv,Nat.reduceAdd,Nat.reduceBEq,hS.var 0 rfl]
  refine DC h fun FE IN h=> ?_;refine M2 IN hS fun H hS=> ?_;try simp only [W]
  refine D4 h (fun hc h=> ?_) (fun hc h=> ?_)
  ·try simp only [W,hc]
   refine C6 GD ?_;refine C5 ?_;exact DJ FW ⟨_,(Option.some.inj h).symm,rfl,hS⟩
  ·try simp only [W,Fv,reduceIte,Nat.reduceAdd,Nat.reduceBEq,Bool.false_eq_true,hS.var 0 rfl,hc]
   refine D4 h (fun hc h=> ?_) (fun hc h=> ?_)
   ·try simp only [W,hc]
    refine C6 GD ?_;refine C5 ?_;exact DJ FW ⟨_,(Option.some.inj h).symm,rfl,hS⟩
   ·try simp only [W,Fv,Nat.reduceAdd,Nat.reduceBEq,hS.var 0 rfl,hc]
    refine DC h fun F8 Mb h=> ?_;refine RY Mb hS fun H hS=> ?_;try simp only [W,reduceIte,Bool.false_eq_true]
    refine C6 GD ?_;refine C5 ?_;exact DJ FW ⟨_,(Option.some.inj h).symm,rfl,hS⟩
 ·obtain ⟨FU,FI,rfl,hS⟩:=hq;obtain rfl:=FI.symm;replace h:=g8;try dsimp only at h
  refine C6 FX ?_;refine C4 ?_;simp only [W];refine Dg h (fun hc h=> ?_) (fun hc h=> ?_)
  ·refine CZ fun IL Gw=> ?_;refine Dh gC ?_;try simp only [W,Nat.reduceAdd]
   refine C6 Gw ?_;refine C2 ?_;refine C7 FG ?_;refine Dd Fy rfl ?_;try obtain rfl:=Option.some.inj h
   exact hP _ (hS.D0 1 [] (by decide))
  ·refine C1 ?_;refine C6 FG ?_;refine CZ fun IM Gh=> ?_;refine CZ fun JM G6=> ?_;refine Dh gC ?_;try simp only [W,Fv,Nat.reduceAdd,Nat.reduceBEq,hS.var 0 rfl]
   refine C6 G6 ?_;obtain ⟨LZ,Oa,g24⟩:=Option.bind_eq_some_iff.1 h;refine DI gC (fun s H=>LZ=LR.next ()∧s=[u,u,u,u,u,u,u,u,u,u,u,u,u,u,u,u,u,u,u,u,u,u,u,u,u,u,u,u,u,u,u,u,u,u,u,u,u,u,u,u,u,u,u,u]∧aC H (F)) (fun Ip Gq=> ?_) (fun s H hq=> ?_)
   ·refine C0 fun Jk GP=> ?_;refine DE gC Oa (fun x s H=>s=[u,.ptr FB FC 0 0,u,u,u,u,u,u,u,u,u,u,u,u,u,u,u,u,u,u,u,u,u,u,u,u,u,.int .i64 a0.Fw,.int .i64 x,u,u,u,u,u,u,u,u,u,u,u,u,u,u,u]∧aC H (⟨.ptr FB FC 0 0,4,[.agg [.int .i64 a0.Id,.int .i64 a0.Fw,.str a0.Text,.fz (a0.Has.map Fx)]]⟩::F)) ⟨rfl,hS⟩ (fun Ge Mc s H h Md hi Kz G8=> ?_)
    skip
    try dsimp only at hi
    obtain ⟨rfl,hS⟩:=hi;simp only [KP] at h;refine CZ fun JQ GQ=> ?_;refine Dh gC ?_;try simp only [W,Fv,Nat.reduceAdd]
    refine C6 GQ ?_;refine CZ fun Ic Gr=> ?_;refine C4 ?_;simp only [W];refine Dg h (fun hc h=> ?_) (fun hc h=> ?_)
    ·refine C1 ?_;refine C6 Gr ?_;refine CZ fun Jo GI=> ?_;refine C0 fun Jl GL=> ?_;refine CZ fun JN G4=> ?_;refine Dh gC ?_;try simp only [W,Nat.reduceAdd]
     refine C6 G4 ?_;refine CZ fun Me If=> ?_;obtain ⟨Mf,h,Ob⟩:=Option.bind_eq_some_iff.1 h;refine DI gC (fun s H=> ∃Gn:Bool,Mf=(Gn)∧s=[u,.ptr FB FC 0 0,u,u,u,u,u,u,u,u,u,u,u,u,u,u,u,u,u,u,u,u,u,u,u,u,u,.int .i64 a0.Fw,.int .i64 Ge,u,u,u,u,u,u,u,u,u,u,u,u,u,.bool Gn,u]∧aC H (⟨.ptr FB FC 0 0,4,[.agg [.int .i64 a0.Id,.int .i64 a0.Fw,.str a0.Text,.fz (a0.Has.map Fx)]]⟩::F)) (fun KA Hc=> ?_) (fun s H hq=> ?_)
     ·refine CZ fun L5 HC=> ?_;refine Dh gC ?_;try simp only [W,Fv,Nat.reduceAdd,Nat.reduceBEq,hS.var 0 rfl]
      refine Du h fun KQ P9 h=> ?_;try simp only [W,Fv]
      refine D4 h (fun hc h=> ?_) (fun hc h=> ?_)
      ·try simp only [W,Fv,Nat.reduceAdd,Nat.reduceBEq,hS.var 0 rfl,hc]
       refine DC h fun Ka Oc h=> ?_;refine P8 Oc hS fun H hS=> ?_;try simp only [W,reduceIte]
       refine C6 HC ?_;refine C5 ?_;exact DJ Hc ⟨_,(Option.some.inj h).symm,rfl,hS⟩
      ·try simp only [W,hc]
       refine C6 HC ?_;refine C5 ?_;exact DJ Hc ⟨_,(Option.some.inj h).symm,rfl,hS⟩
     ·obtain ⟨Gn,FI,rfl,hS⟩:=hq;obtain rfl:=FI.symm;replace h:=Ob;try dsimp only at h
      refine C6 If ?_;refine C4 ?_;simp only [W];refine Dg h (fun hc h=> ?_) (fun hc h=> ?_)
      ·refine CZ fun Xu R3=> ?_;refine Dh gC ?_;try simp only [W,Nat.reduceAdd]
       refine C6 R3 ?_;refine C2 ?_;refine Db GL ?_;refine C7 GI ?_;try obtain rfl:=Option.some.inj h
       obtain rfl:=Md _ rfl;have h:(some (LR.done false):Option (LR Unit (Bool)))=some (LR.done false):=rfl;refine DH G8 ?_;refine Db GP ?_;try obtain rfl:=Option.some.inj h
       obtain rfl:=Option.some.inj g24;have h:(some false:Option (Bool))=some false:=rfl;refine DK Gq ?_;refine C7 Gh ?_;refine Dd Fy rfl ?_;try obtain rfl:=Option.some.inj h
       exact hP _ (hS.D0 1 [] (by decide))
      ·refine C1 ?_;refine C_ GL ?_;refine C6 GI ?_;refine Dh gC ?_;try simp only [W,Fv,Nat.reduceAdd]
       exact DF G8 h ⟨rfl,hS⟩
    ·refine C3 ?_;refine C8 Gr ?_;try obtain rfl:=Option.some.inj h
     obtain rfl:=Md _ rfl;have h:(some (LR.next ()):Option (LR Unit (Bool)))=some (LR.next ()):=rfl
     refine DG G8 ?_;refine Da GP ?_;exact DJ Gq ⟨(Option.some.inj h).symm,rfl,(hS.D0 1 [] (by decide))⟩
   ·obtain ⟨rfl,rfl,hS⟩:=hq;replace h:=g24;try dsimp only at h
    refine C6 Gh ?_;refine CZ fun M8 Iq=> ?_;refine Dh gC ?_;try simp only [W,Nat.reduceAdd]
    refine C6 Iq ?_;refine C2 ?_;refine Dd Fy rfl ?_;try obtain rfl:=Option.some.inj h
    exact hP _ hS
theorem Od {a0:List Span} {r:(Int)} (h:JF a0=some r) {F:List It} {H:J} (hS:aC H (F)) {P:AV→J→Prop} (hP: ∀H',aC H' (F)→P (.int .i64 r) H'):aq C 123 [.fz (a0.map Fx)] H P:=by
 refine Dk gC (res:=[.tmp 2]) (n:=21) rfl rfl rfl rfl fun K0 Fy=> ?_;simp only [W,Nat.reduceSub,Nat.reduceAdd,List.replicate];unfold JF at h;refine CZ fun K1 FA=> ?_;refine Dh gC ?_;try simp only [W,Nat.reduceAdd]
 refine C6 FA ?_;refine CZ fun K2 Bc=> ?_;refine Dh gC ?_;try simp only [W,Nat.reduceAdd]
 refine C6 Bc ?_;refine CZ fun K3 Gf=> ?_;refine CZ fun K4 FG=> ?_;refine Dh gC ?_;try simp only [W,Fv,Nat.reduceAdd]
 refine C6 FG ?_;obtain ⟨IQ,IS,g15⟩:=Option.bind_eq_some_iff.1 h;refine DI gC (fun s H=> ∃FM:Int,IQ=(FM)∧s=[u,u,u,.int .i64 FM,u,u,u,u,u,u,u,u,u,u,u,u,u,u,u,u,u]∧aC H (F)) (fun Ji GD=> ?_) (fun s H hq=> ?_)
 ·refine C0 fun LX HE=> ?_;refine DE gC IS (fun x s H=>match x with|(FQ,FU)=>s=[u,u,u,.int .i64 FQ,u,u,.fz (a0.map Fx),.int .i64 (a0.length:Int),.int .i64 FU,u,u,u,u,u,u,u,u,u,u,u,u]∧aC H (F)) ⟨rfl,hS⟩ (fun x Kx s H h Ie hi Ku GY=> ?_)
  obtain ⟨FQ,FU⟩:=x;try dsimp only at hi
  obtain ⟨rfl,hS⟩:=hi;simp only [KR] at h;refine CZ fun Io GC=> ?_;refine Dh gC ?_;try simp only [W,Fv,Nat.reduceAdd]
  refine C6 GC ?_;refine CZ fun HA F5=> ?_;refine C4 ?_;simp only [W];refine Dg h (fun hc h=> ?_) (fun hc h=> ?_)
  ·refine C1 ?_;refine C6 F5 ?_;refine CZ fun HR Gl=> ?_;refine C0 fun Ip Gq=> ?_;refine CZ fun Jk GP=> ?_;refine Dh gC ?_;try simp only [W,Fv,Nat.reduceAdd]
   refine Dv rfl rfl rfl (fun _=>rfl) h fun FL L8 h=> ?_;try simp only [W,Fv,F3,reduceIte,Nat.reduceAdd,Nat.reduceLeDiff]
   refine Dr hS rfl rfl fun P3 P4 H hS=> ?_;try simp only [W]
   refine Ds (a:= .agg [.int .i64 FL.Fz,.int .i64 FL.To]) (y' := .agg [.int .i64 FL.Fz,.int .i64 FL.To]) 0 hS rfl rfl rfl rfl rfl rfl rfl rfl fun H hS=> ?_
   try simp only [W]
   refine C6 GP ?_;refine Dh gC ?_;try simp only [W,Fv,Nat.reduceAdd,Nat.reduceBEq,hS.var 0 rfl]
   refine C_ Gq ?_;refine C6 Gl ?_;refine Dh gC ?_;try simp only [W,Fv,Nat.reduceAdd]
   exact DF GY h ⟨rfl,(hS.D0 1 [] (by decide))⟩
  ·refine C3 ?_;refine C8 F5 ?_;try obtain rfl:=Option.some.inj h
   obtain rfl:=Ie _ rfl;have h:(some (FQ):Option (Int))=some (FQ):=rfl;refine DG GY ?_;refine Da HE ?_;exact DJ GD ⟨_,(Option.some.inj h).symm,rfl,hS⟩
 ·obtain ⟨FM,FI,rfl,hS⟩:=hq;obtain rfl:=FI.symm;replace h:=g15;try dsimp only at h
  refine C6 Gf ?_;refine CZ fun Ic Gr=> ?_;refine Dh gC ?_;try simp only [W,Nat.reduceAdd]
  refine C6 Gr ?_;refine C2 ?_;refine Dd Fy rfl ?_;try obtain rfl:=Option.some.inj h
  exact hP _ hS
theorem R4 {a0:FD} {i0:Nat} {w0:Nat} {r:(Bool)} (h:MA a0=some r) {F:List It} {H:J} (yz:⟨.ptr i0 w0 0 0,4,[.agg [.int .i64 a0.Id,.int .i64 a0.Fw,.str a0.Text,.fz (a0.Has.map Fx)]]⟩∈F) (hS:aC H (F)) {P:AV→J→Prop} (hP: ∀H',aC H' (F)→P (.bool r) H'):aq C 97 [.ptr i0 w0 0 0] H P:=by
 refine Dk gC (res:=[.tmp 2]) (n:=13) rfl rfl rfl rfl fun K0 Fy=> ?_;simp only [W,Nat.reduceSub,Nat.reduceAdd,List.replicate];unfold MA at h;refine CZ fun K1 FA=> ?_;refine Dh gC ?_;try simp only [W,Nat.reduceAdd]
 refine C6 FA ?_;refine CZ fun K2 Bc=> ?_;refine Dj gC (by kernel_rfl) ?_
 try simp only [W,Fv,Nat.reduceAdd,Nat.reduceBEq,hS.DU yz]
 refine Ev (bT:=[[.sc]]) (ys:=[.fz (a0.Has.map Fx)]) h rfl (by rfl) fun b3 lj h=>⟨.int .i64 b3,Od lj (aC.nil _) fun H hS=>En rfl (Ek rfl (Ej rfl)),⟨rfl,rfl,fun _=>rfl⟩,?_⟩
 try simp only [W,Fv,Nat.reduceAdd,Nat.reduceBEq,hS.DU yz]
 refine C6 Bc ?_;refine C2 ?_;refine Dd Fy rfl ?_;try obtain rfl:=Option.some.inj h
 exact hP _ hS
theorem Oe {a0:FD} {r:(Bool×Bool)} (h:Jb a0=some r) {F:List It} {H:J} (hS:aC H (F)) {P:AV→J→Prop} (hP: ∀H',aC H' (F)→P (.aA [.bool r.1,.bool r.2]) H'):aq C 38 [.agg [.int .i64 a0.Id,.int .i64 a0.Fw,.str a0.Text,.fz (a0.Has.map Fx)]] H P:=by
 refine Dk gC (res:=[.tmp 2,.tmp 3]) (n:=8) rfl rfl rfl rfl fun K0 Fy=> ?_;simp only [W,Nat.reduceSub,Nat.reduceAdd,List.replicate];unfold Jb at h;refine CZ fun K1 FA=> ?_;refine Dh gC ?_;try simp only [W,Nat.reduceAdd]
 refine Dq hS rfl rfl rfl rfl fun FB FC H hS=> ?_;try simp only [W]
 refine C6 FA ?_;refine CZ fun K4 FG=> ?_;refine CZ fun K5 FX=> ?_;refine Dh gC ?_;try simp only [W,Fv,reduceIte,Nat.reduceAdd,Nat.reduceLeDiff,hS.var 0 rfl]
 refine DC h fun F7 G3 h=> ?_;refine M7 G3 hS fun H hS=> ?_;try simp only [W]
 refine C6 FX ?_;refine C4 ?_;simp only [W];refine Dg h (fun hc h=> ?_) (fun hc h=> ?_)
 ·refine CZ fun K7 GK=> ?_;refine Dh gC ?_;try simp only [W,Nat.reduceAdd]
  refine C6 GK ?_;refine C2 ?_;refine C7 FG ?_;refine De Fy rfl rfl ?_;try obtain rfl:=Option.some.inj h
  exact hP _ (hS.D0 1 [] (by decide))
 ·refine C1 ?_;refine C6 FG ?_;refine CZ fun K8 F4=> ?_;refine Dh gC ?_;try simp only [W,Nat.reduceAdd]
  refine DC h fun FN JR h=> ?_;refine R4 JR (List.mem_of_getElem? (i:=0) rfl) hS fun H hS=> ?_;try simp only [W]
  refine C6 F4 ?_;refine C2 ?_;refine De Fy rfl rfl ?_;try obtain rfl:=Option.some.inj h
  exact hP _ (hS.D0 1 [] (by decide))
theorem R5 {a0:Part} {r:(Bool)} (h:KS a0=some r) {F:List It} {H:J} (hS:aC H (F)) {P:AV→J→Prop} (hP: ∀H',aC H' (F)→P (.bool r) H'):aq C 98 [.agg [.int .i64 a0.Id,.int .i64 a0.At,.int .i64 a0.Fw,.str a0.Text]] H P:=by
 refine Dk gC (res:=[.tmp 2]) (n:=25) rfl rfl rfl rfl fun K0 Fy=> ?_;simp only [W,Nat.reduceSub,Nat.reduceAdd,List.replicate];unfold KS at h;refine CZ fun K1 FA=> ?_;refine Dh gC ?_;try simp only [W,Nat.reduceAdd]
 refine Dq hS rfl rfl rfl rfl fun FB FC H hS=> ?_;try simp only [W]
 refine C6 FA ?_;refine CZ fun K4 FG=> ?_;refine Dh gC ?_;try simp only [W,Fv,Nat.reduceAdd,Nat.reduceBEq,hS.var 0 rfl]
 refine DC h fun FP Hp h=> ?_;refine M2 Hp hS fun H hS=> ?_;try simp only [W]
 refine D4 h (fun hc h=> ?_) (fun hc h=> ?_)
 ·try simp only [W,Fv,Nat.reduceAdd,Nat.reduceBEq,hS.var 0 rfl,hc]
  refine DC h fun F7 G3 h=> ?_;refine M1 G3 hS fun H hS=> ?_;try simp only [W,reduceIte]
  refine D4 h (fun hc h=> ?_) (fun hc h=> ?_)
  ·try simp only [W,Fv,Nat.reduceAdd,Nat.reduceBEq,hS.var 0 rfl,hc]
   refine DC h fun FT JS h=> ?_;refine M1 JS hS fun H hS=> ?_;try simp only [W,reduceIte]
   refine C6 FG ?_;refine C2 ?_;refine Dd Fy rfl ?_;try obtain rfl:=Option.some.inj h
   exact hP _ (hS.D0 1 [] (by decide))
  ·try simp only [W,hc]
   refine C6 FG ?_;refine C2 ?_;refine Dd Fy rfl ?_;try obtain rfl:=Option.some.inj h
   exact hP _ (hS.D0 1 [] (by decide))
 ·try simp only [W,hc]
  refine C6 FG ?_;refine C2 ?_;refine Dd Fy rfl ?_;try obtain rfl:=Option.some.inj h
  exact hP _ (hS.D0 1 [] (by decide))
theorem P_ {a0:List Span} {r:List Span} (h:KT a0=some r) {F:List It} {H:J} (hS:aC H F) {P:AV→J→Prop} (hP: ∀v0:AV,bG v0→ ∀H',aC H' (⟨v0,2,r.map Fx⟩::F)→P v0 H'):aq C 133 [.fz (a0.map Fx)] H P:=
 Fo (I:=IK) rfl (sz:=2) (b:=16) (by simp [IK,MY]) (fun _=>rfl) (by decide) h hS hP
theorem R6 {a0 r:List Span} (h:NP a0=some r) {F:List It} {H:J} {m0:AV} (hS:aC H (⟨m0,2,a0.map Fx⟩::F)) (M9:bG m0) {P:AV→J→Prop} (hP: ∀H',aC H' (⟨m0,2,r.map Fx⟩::F)→P (.aA []) H'):aq C 147 [m0,.fn 148 []] H P:=
 Fp (I:=IK) rfl (by simp [IK,qX]) (by decide) (fun _=>rfl) (fun _=>rfl) h hS M9 hP
theorem R7 {a0:List Span} {r:(List Span)} (h:Kb a0=some r) {F:List It} {H:J} (hS:aC H (F)) {P:AV→J→Prop} (hP: ∀Og:AV,bG Og→ ∀H',aC H' (⟨Og,2,r.map Fx⟩::F)→P (Og) H'):aq C 119 [.fz (a0.map Fx)] H P:=by
 refine Dk gC (res:=[.tmp 2]) (n:=52) rfl rfl rfl rfl fun K0 Fy=> ?_;simp only [W,Nat.reduceSub,Nat.reduceAdd,List.replicate];unfold Kb at h;refine CZ fun K1 FA=> ?_;refine Dh gC ?_;try simp only [W,Nat.reduceAdd]
 refine C6 FA ?_;refine CZ fun K2 Bc=> ?_;refine Dh gC ?_;try simp only [W,Nat.reduceAdd]
 refine DC h fun b3 lj h=> ?_;refine P_ lj hS fun v4 Oh H hS=> ?_;try simp only [W]
 refine DA rfl rfl ?_;try simp only [W]
 refine C6 Bc ?_;refine CZ fun K6 G7=> ?_;refine Dh gC ?_;try simp only [W,Nat.reduceAdd]
 refine DC h fun FT JS h=> ?_;refine R6 JS hS Oh fun H hS=> ?_;try simp only [W]
 refine C6 G7 ?_;refine CZ fun K8 F4=> ?_;refine CZ fun K9 FW=> ?_;refine Dh gC ?_;try simp only [W,Fv,Nat.reduceAdd]
 refine Dz 0 hS rfl Oh rfl ?_;try simp only [W]
 refine C6 FW ?_;obtain ⟨R8,R9,g23⟩:=Option.bind_eq_some_iff.1 h;refine DI gC (fun s H=> ∃G_:List Span,R8=(G_)∧ ∃M_:AV,bG M_∧s=[u,u,u,u,M_,u,u,u,u,u,u,u,u,u,u,u,u,u,u,u,u,u,u,u,u,u,u,u,u,u,u,u,u,u,u,u,u,u,u,u,u,u,u,u,u,u,u,u,u,u,u,u]∧aC H (⟨M_,2,G_.map Fx⟩::F)) (fun HR Gl=> ?_) (fun s H hq=> ?_)
 ·refine C0 fun Ip Gq=> ?_;refine DE gC R9 (fun x s H=>match x with|(FO,FY)=> ∃v11:AV,bG v11∧s=[u,u,u,u,v11,u,u,u,u,u,u,u,u,v4,.int .i64 (FT.length:Int),.int .i64 FY,u,u,u,u,u,u,u,u,u,u,u,u,u,u,u,u,u,u,u,u,u,u,u,u,u,u,u,u,u,u,u,u,u,u,u,u]∧aC H (⟨v11,2,FO.map Fx⟩::⟨v4,2,FT.map Fx⟩::F)) ⟨_,vu,rfl,(hS.BA 2)⟩ (fun x Xv s H h R_ hi Jk GP=> ?_)
  obtain ⟨FO,FY⟩:=x;try dsimp only at hi
  obtain ⟨v11,IT,rfl,hS⟩:=hi;simp only [KU] at h;refine CZ fun JP Hb=> ?_;refine Dh gC ?_;try simp only [W,Fv,Nat.reduceAdd]
  refine C6 Hb ?_;refine CZ fun JQ GQ=> ?_;refine C4 ?_;simp only [W];refine Dg h (fun hc h=> ?_) (fun hc h=> ?_)
  ·refine C1 ?_;refine C6 GQ ?_;refine CZ fun Ic Gr=> ?_;obtain ⟨Oi,h,Oj⟩:=Option.bind_eq_some_iff.1 h;refine DI gC (fun s H=> ∃HL:List Span,Oi=(HL)∧ ∃L6:AV,bG L6∧s=[u,u,u,u,L6,u,u,u,u,u,u,u,u,v4,.int .i64 (FT.length:Int),.int .i64 FY,u,u,u,u,u,u,u,u,u,u,u,u,u,u,u,u,u,u,u,u,u,u,u,u,u,u,u,u,u,u,u,u,u,u,u,u]∧aC H (⟨L6,2,HL.map Fx⟩::⟨v4,2,FT.map Fx⟩::F)) (fun Ol Ir=> ?_) (fun s H hq=> ?_)
   ·refine C0 fun Jo GI=> ?_;refine CZ fun KA Hc=> ?_;refine Dh gC ?_;try simp only [W,Fv,Nat.reduceAdd]
    refine Dw 1 hS rfl rfl rfl rfl rfl h (fun F1 Xw Xx Xy Na h Sa=> ?_) Oh.ne;obtain ⟨Xz,Sb,Sc⟩:=hS.elem 1 rfl Sa Na;try simp only [W,Fv,F3,reduceIte,Nat.reduceAdd,Nat.reduceLeDiff,Sb,Sc]
    refine Dr hS rfl rfl fun GR GS H hS=> ?_;try simp only [W]
    refine Ds (a:= .agg [.int .i64 F1.Fz,.int .i64 F1.To]) (y' := .agg [.int .i64 F1.Fz,.int .i64 F1.To]) 0 hS rfl rfl rfl rfl rfl rfl rfl rfl fun H hS=> ?_
    try simp only [W]
    refine C6 Hc ?_;refine CZ fun N_ Jm=> ?_;refine CZ fun Nb IU=> ?_;refine Dh gC ?_;try simp only [W,Fv,Nat.reduceAdd]
    refine Dz 1 hS rfl IT rfl ?_;try simp only [W,Fv]
    refine C6 IU ?_;refine CZ fun Qa JT=> ?_;obtain ⟨Qb,h,Om⟩:=Option.bind_eq_some_iff.1 h;refine DI gC (fun s H=> ∃Gz:Bool,Qb=(Gz)∧s=[u,u,u,u,v11,u,.ptr GR GS 0 0,.int .i64 (IntKind.i64.wrap ((FO.length:Int)-1)),u,u,u,u,u,v4,.int .i64 (FT.length:Int),.int .i64 FY,u,u,u,u,u,u,u,u,u,u,u,u,u,u,u,u,u,.bool Gz,u,u,u,u,u,u,u,u,u,u,u,u,u,u,u,u,u,u]∧aC H (⟨v11,2,FO.map Fx⟩::⟨v4,2,FT.map Fx⟩::⟨.ptr GR GS 0 0,2,[.agg [.int .i64 F1.Fz,.int .i64 F1.To]]⟩::F)) (fun M8 Iq=> ?_) (fun s H hq=> ?_)
    ·refine CZ fun Sd Mg=> ?_;refine Dj gC (by kernel_rfl) ?_
     try simp only [W,Fv,Nat.reduceAdd]
     refine D4 h (fun hc h=> ?_) (fun hc h=> ?_)
     ·try simp only [W,Fv,Nat.reduceAdd,Nat.reduceBEq,hS.var 0 rfl,hc]
      refine Dw 1 hS rfl rfl rfl rfl rfl h (fun NQ Se Sf Sg Nc h Nd=> ?_) IT.ne;obtain ⟨Si,Qc,Qd⟩:=hS.elem 1 rfl Nd Nc;try simp only [W,Fv,F3,reduceIte,Nat.reduceAdd,Nat.reduceBEq,Qc,Qd]
      refine C6 Mg ?_;refine C5 ?_;exact DJ Iq ⟨_,(Option.some.inj h).symm,rfl,(hS.D0 3 [1,2,0] (by decide))⟩
     ·try simp only [W,hc]
      refine C6 Mg ?_;refine C5 ?_;exact DJ Iq ⟨_,(Option.some.inj h).symm,rfl,(hS.D0 3 [1,2,0] (by decide))⟩
    ·obtain ⟨Gz,FI,rfl,hS⟩:=hq;obtain rfl:=FI.symm;replace h:=Om;try dsimp only at h
     refine C6 JT ?_;refine C4 ?_;simp only [W];refine Dg h (fun hc h=> ?_) (fun hc h=> ?_)
     ·refine CZ fun Sj On=> ?_;refine D6 gC [(12,[])] (by kernel_rfl) rfl (by kernel_rfl) ?_
      try simp only [W,Fv,reduceIte,Nat.reduceAdd,jl,l7,Nat.reduceEqDiff]
      refine Dw 0 hS rfl rfl rfl rfl rfl h (fun JG XA XB XC Sk h Sl=> ?_) IT.ne;obtain ⟨XD,Sm,Sn⟩:=hS.elem 0 rfl Sl Sk;try simp only [W,Fv,F3,Nat.reduceAdd,Nat.reduceBEq,hS.var 2 rfl,Sm,Sn]
      refine Dw 0 hS rfl rfl rfl rfl rfl h (fun JH XE XF XG Nf h Qe=> ?_) IT.ne;obtain ⟨XH,Sp,XI⟩:=hS.elem 0 rfl Qe Nf;try simp only [W,Fv,Nat.reduceAdd,Nat.reduceBEq,Sp]
      refine Dx (a:= .int .i64 (if F1.To>JG.To then F1.To else JG.To)) (y' :=(⟨JH.Fz,(if F1.To>JG.To then F1.To else JG.To)⟩:Span)) 0 hS rfl Qe Nf rfl rfl rfl rfl rfl rfl rfl fun H hS=> ?_
      try simp only [W]
      refine C6 On ?_;refine C3 ?_;refine C8 Jm ?_;refine Da GI ?_;exact DJ Ir ⟨_,(Option.some.inj h).symm,_,IT,rfl,(hS.D0 3 [0,1] (by decide))⟩
     ·refine C1 ?_;refine C6 Jm ?_;refine Dh gC ?_;try simp only [W,Fv,reduceIte,Nat.reduceAdd,Nat.reduceLeDiff,hS.var 2 rfl]
      refine DB (el:=([F1]:List Span).map Fx) hS rfl rfl rfl rfl rfl rfl rfl fun v54 H Sq hS=> ?_;try simp only [W,Fv]
      refine DS (l:=FO) (c:=Fx) 1 hS rfl IT rfl rfl rfl (hS.iK 0 rfl Sq) (fun _=>rfl) rfl h fun XJ H Jc Sr hm h hS=> ?_;try simp only [W]
      refine C9 GI ?_;exact DJ Ir ⟨_,(Option.some.inj h).symm,_,Sr,rfl,(hS.D0 4 [1,2] (by decide))⟩
   ·obtain ⟨HL,FI,L6,N7,rfl,hS⟩:=hq;obtain rfl:=FI.symm;replace h:=Oj;try dsimp only at h
    refine C6 Gr ?_;refine Dh gC ?_;try simp only [W,Fv,Nat.reduceAdd]
    exact DF GP h ⟨_,N7,rfl,hS⟩
  ·refine C3 ?_;refine C8 GQ ?_;try obtain rfl:=Option.some.inj h
   obtain rfl:=R_ _ rfl;have h:(some (FO):Option ((List Span)))=some (FO):=rfl;refine DG GP ?_;refine Da Gq ?_;exact DJ Gl ⟨_,(Option.some.inj h).symm,_,IT,rfl,(hS.D0 2 [0] (by decide))⟩
 ·obtain ⟨G_,FI,M_,Ss,rfl,hS⟩:=hq;obtain rfl:=FI.symm;replace h:=g23;try dsimp only at h
  refine C6 F4 ?_;refine CZ fun Qf Ig=> ?_;refine Dh gC ?_;try simp only [W,Nat.reduceAdd]
  refine C6 Ig ?_;refine C2 ?_;refine Dd Fy rfl ?_;try obtain rfl:=Option.some.inj h
  exact hP _ Ss _ hS
theorem Su {a0:List Span} {m0:AV} {r:(List Span×Bool)} (h:Kc a0=some r) {F:List It} {H:J} (hS:aC H (⟨m0,2,a0.map Fx⟩::F)) (M9:bG m0) {P:AV→J→Prop} (hP: ∀v6:AV,bG v6→ ∀H',aC H' (⟨v6,2,r.1.map Fx⟩::F)→P (.aA [v6,.bool r.2]) H'):aq C 118 [m0] H P:=by
 refine Dk gC (res:=[.tmp 2,.tmp 3]) (n:=8) rfl rfl rfl rfl fun K0 Fy=> ?_;simp only [W,Nat.reduceSub,Nat.reduceAdd,List.replicate];unfold Kc at h;refine CZ fun K1 FA=> ?_;refine Dh gC ?_;try simp only [W,Nat.reduceAdd]
 refine C6 FA ?_;refine CZ fun K2 Bc=> ?_;refine CZ fun K3 Gf=> ?_;refine Dh gC ?_;try simp only [W,Fv,Nat.reduceAdd]
 refine Dz 0 hS rfl M9 rfl ?_;try simp only [W,Fv]
 refine C6 Gf ?_;refine C4 ?_;simp only [W];refine Dg h (fun hc h=> ?_) (fun hc h=> ?_)
 ·refine CZ fun K4 FG=> ?_;refine Dh gC ?_;try simp only [W,Nat.reduceAdd]
  refine C6 FG ?_;refine C2 ?_;refine C7 Bc ?_;refine De Fy rfl rfl ?_;try obtain rfl:=Option.some.inj h
  exact hP _ Bn _ ((hS.DT 2).D0 2 [0] (by decide))
 ·refine C1 ?_;refine C6 Bc ?_;refine CZ fun K5 FX=> ?_;refine Dh gC ?_;try simp only [W,Nat.reduceAdd]
  refine C6 FX ?_;refine C2 ?_;refine De Fy rfl rfl ?_;try obtain rfl:=Option.some.inj h
  exact hP _ M9 _ hS
theorem Sv {a0:List Span} {a1:Span} {r:(List Span×Int×Bool)} (h:KV a0 a1=some r) {F:List It} {H:J} (hS:aC H (F)) {P:AV→J→Prop} (hP: ∀v39:AV,bG v39→ ∀H',aC H' (⟨v39,2,r.1.map Fx⟩::F)→P (.aA [v39,.int .i64 r.2.1,.bool r.2.2]) H'):aq C 99 [.fz (a0.map Fx),.agg [.int .i64 a1.Fz,.int .i64 a1.To]] H P:=by
 refine Dk gC (res:=[.tmp 4,.tmp 5,.tmp 6]) (n:=35) rfl rfl rfl rfl fun K0 Fy=> ?_;simp only [W,Nat.reduceSub,Nat.reduceAdd,List.replicate];unfold KV at h;refine CZ fun K1 FA=> ?_;refine Dh gC ?_;try simp only [W,Nat.reduceAdd]
 refine Dq hS rfl rfl rfl rfl fun FB FC H hS=> ?_;try simp only [W]
 refine C6 FA ?_;refine CZ fun K4 FG=> ?_;refine CZ fun K5 FX=> ?_;obtain ⟨Ma,h,g8⟩:=Option.bind_eq_some_iff.1 h;refine DI gC (fun s H=> ∃FU:Bool,Ma=(FU)∧s=[.fz (a0.map Fx),u,u,.ptr FB FC 0 0,u,u,u,u,u,u,u,u,u,u,u,u,.bool FU,u,u,u,u,u,u,u,u,u,u,u,u,u,u,u,u,u,u]∧aC H (⟨.ptr FB FC 0 0,2,[.agg [.int .i64 a1.Fz,.int .i64 a1.To]]⟩::F)) (fun K9 FW=> ?_) (fun s H hq=> ?_)
 ·refine CZ fun Ji GD=> ?_;refine Dh gC ?_;try simp only [W,Nat.reduceAdd]
  refine DC h fun FE IN h=> ?_;refine P2 IN hS fun H hS=> ?_;try simp only [W]
  refine D4 h (fun hc h=> ?_) (fun hc h=> ?_)
  ·try simp only [W,hc]
   refine C6 GD ?_;refine C5 ?_;exact DJ FW ⟨_,(Option.some.inj h).symm,rfl,hS⟩
  ·try simp only [W,Fv,reduceIte,Nat.reduceAdd,Nat.reduceLeDiff,hS.var 0 rfl,hc]
   refine DC h fun F8 Mb h=> ?_;refine P1 Mb hS fun H hS=> ?_;try simp only [W,reduceIte,Bool.false_eq_true]
   refine C6 GD ?_;refine C5 ?_;exact DJ FW ⟨_,(Option.some.inj h).symm,rfl,hS⟩
 ·obtain ⟨FU,FI,rfl,hS⟩:=hq;obtain rfl:=FI.symm;replace h:=g8;try dsimp only at h
  refine C6 FX ?_;refine C4 ?_;simp only [W];refine Dg h (fun hc h=> ?_) (fun hc h=> ?_)
  ·refine CZ fun IL Gw=> ?_;refine Dh gC ?_;try simp only [W,Nat.reduceAdd]
   refine C6 Gw ?_;refine C2 ?_;refine C7 FG ?_;refine Df Fy rfl rfl rfl ?_;try obtain rfl:=Option.some.inj h
   exact hP _ Bn _ ((hS.DT 2).D0 2 [0] (by decide))
  ·refine C1 ?_;refine C6 FG ?_;refine CZ fun IM Gh=> ?_;refine D6 gC [(4,[]),(6,[])] (by kernel_rfl) rfl (by kernel_rfl) ?_
   try simp only [W,reduceIte,Nat.reduceAdd,Nat.reduceBEq,jl,l7,Nat.reduceEqDiff,List.contains_cons,Nat.reduceBEq,Bool.or_true,Bool.or_self]
   refine Ew (bT:=[[.sl [.sc,.sc]]]) (ys:=[.fz (a0.map Fx)]) h rfl (by rfl) fun HY Mh h=>⟨.own 2 (HY.map Fx),P_ Mh (aC.nil _) fun XK Sw H hS=>En rfl (El 0 hS rfl Sw (fun _ _=>by simp [a_,aR,cu,dA,Fx]) fun H hS=>Ej rfl),(Ez _ (fun _=>rfl) _),?_⟩
   refine Et ?_;refine Er hS (fun _ _=>rfl) (fun _=>rfl) fun XL H Sx hS=> ?_;refine Eo ?_;try simp only [List.headD_cons]
   try simp only [W,Fv,reduceIte,Nat.reduceAdd,Nat.reduceLeDiff,hS.var 1 rfl]
   refine DB (el:=([a1]:List Span).map Fx) hS rfl rfl rfl rfl rfl rfl rfl fun Gy H Hq hS=> ?_;try simp only [W,Fv]
   refine DS (l:=HY) (c:=Fx) 1 hS rfl Sx rfl rfl rfl (hS.iK 0 rfl Hq) (fun _=>rfl) rfl h fun v22 H NR Sy hm h hS=> ?_;try simp only [W]
   refine Ew (bT:=[[.sl [.sc,.sc]]]) (ys:=[.fz (NR.map Fx)]) h rfl (Ei (Eg hS 1 rfl Sy (fun _=>rfl)) Eh) fun J5 Sz h=>⟨.own 2 (J5.map Fx),R7 Sz (aC.nil _) fun v25 SA H hS=>En rfl (El 0 hS rfl SA (fun _ _=>by simp [a_,aR,cu,dA,Fx]) fun H hS=>Ej rfl),(Ez _ (fun _=>rfl) _),?_⟩
   refine Et ?_;refine Er hS (fun _ _=>rfl) (fun _=>rfl) fun XM H SB hS=> ?_;refine Eo ?_;try simp only [List.headD_cons]
   try simp only [W]
   refine DC h fun Ke Ng h=> ?_;obtain ⟨HZ,Iy⟩:=Ke;try dsimp only at h
   refine Su Ng hS SB fun v31 M4 H hS=> ?_;try simp only [W]
   refine C6 Gh ?_;refine CZ fun Ol Ir=> ?_;refine CZ fun KA Hc=> ?_;refine Dh gC ?_;try simp only [W,Nat.reduceAdd]
   refine C6 Hc ?_;refine C4 ?_;simp only [W];refine Dg h (fun hc h=> ?_) (fun hc h=> ?_)
   ·refine CZ fun L5 HC=> ?_;refine Dh gC ?_;try simp only [W,Nat.reduceAdd]
    refine C6 HC ?_;refine C2 ?_;refine C7 Ir ?_;refine Df Fy rfl rfl rfl ?_;try obtain rfl:=Option.some.inj h
    exact hP _ Bn _ ((hS.DT 2).D0 5 [0] (by decide))
   ·refine C1 ?_;refine C6 Ir ?_;refine CZ fun L7 HF=> ?_;refine Dh gC ?_;try simp only [W,Nat.reduceAdd]
    refine Ev (bT:=[[.sc]]) (ys:=[.fz (HZ.map Fx)]) h rfl (Ei (Eg hS 0 rfl M4 (fun _=>rfl)) Eh) fun Ka Oc h=>⟨.int .i64 Ka,Od Oc (aC.nil _) fun H hS=>En rfl (Ek rfl (Ej rfl)),⟨rfl,rfl,fun _=>rfl⟩,?_⟩;try simp only [W]
    refine DC h fun KW Oo h=> ?_;refine Od Oo hS fun H hS=> ?_;try simp only [W,Fv]
    refine C6 HF ?_;refine C2 ?_;refine Df Fy rfl rfl rfl ?_;try obtain rfl:=Option.some.inj h
    exact hP _ M4 _ (hS.D0 4 [0] (by decide))
theorem Oq {a0:FD} {a1:Part} {r:(FD×Int×Bool)} (h:Jd a0 a1=some r) {F:List It} {H:J} (hS:aC H (F)) {P:AV→J→Prop} (hP: ∀v67:AV,bG v67→ ∀H',aC H' (⟨v67,2,r.1.Has.map Fx⟩::F)→P (.aA [.agg [.int .i64 r.1.Id,.int .i64 r.1.Fw,.str r.1.Text,v67],.int .i64 r.2.1,.bool r.2.2]) H'):aq C 39 [.agg [.int .i64 a0.Id,.int .i64 a0.Fw,.str a0.Text,.fz (a0.Has.map Fx)],.agg [.int .i64 a1.Id,.int .i64 a1.At,.int .i64 a1.Fw,.str a1.Text]] H P:=by
 refine Dk gC (res:=[.cell 4 55,.tmp 5,.tmp 6]) (n:=91) rfl rfl rfl rfl fun K0 Fy=> ?_;simp only [W,Nat.reduceSub,Nat.reduceAdd,List.replicate];unfold Jd at h;refine CZ fun K1 FA=> ?_;refine Dh gC ?_;try simp only [W,Nat.reduceAdd]
 refine Dq hS rfl rfl rfl rfl fun FB FC H hS=> ?_;try simp only [W]
 refine Dq hS rfl rfl rfl rfl fun Ga Gb H hS=> ?_;try simp only [W]
 refine Dr hS rfl rfl fun Gi Gj H hS=> ?_;try simp only [W]
 refine C6 FA ?_;refine CZ fun K8 F4=> ?_;refine CZ fun K9 FW=> ?_;obtain ⟨Ky,h,g12⟩:=Option.bind_eq_some_iff.1 h;refine DI gC (fun s H=> ∃FO:Bool,Ky=(FO)∧s=(u::u:: .ptr FB FC 0 0:: .ptr Ga Gb 0 0:: .ptr Gi Gj 0 0::u::u::u::u::u::u::u::u::u::u::u::u::u::u::u::u::u::u::u::u::u::u::u::u::u::u::u::u:: .bool FO::u::u::u::u::u::u::u::u::u::u::u::u::u::u::u::u::u::u::u::u::u::u::u::u::u::u::u::u::u::u::u::u::u::u::u::u::u::u::u::u::u::u::u::u::u::u::u::u::u::u::u::u::u::u::u::u::u::[])∧aC H (⟨.ptr FB FC 0 0,4,[.agg [.int .i64 a0.Id,.int .i64 a0.Fw,.str a0.Text,.fz (a0.Has.map Fx)]]⟩::⟨.ptr Ga Gb 0 0,4,[.agg [.int .i64 a1.Id,.int .i64 a1.At,.int .i64 a1.Fw,.str a1.Text]]⟩::⟨.ptr Gi Gj 0 0,4,[.agg [.int .i64 0,.int .i64 0,.str ([]),.nil]]⟩::F)) (fun IL Gw=> ?_) (fun s H hq=> ?_)
 ·refine CZ fun IM Gh=> ?_;refine Dh gC ?_;try simp only [W,Fv,reduceIte,Nat.reduceAdd,Nat.reduceLeDiff,hS.var 2 rfl]
  refine DC h fun HY Mh h=> ?_;refine M7 Mh hS fun H hS=> ?_;try simp only [W]
  refine D4 h (fun hc h=> ?_) (fun hc h=> ?_)
  ·try simp only [W,hc]
   refine C6 Gh ?_;refine EQ (s' :=(u::u:: .ptr FB FC 0 0:: .ptr Ga Gb 0 0:: .ptr Gi Gj 0 0::u::u::u::u::u::u::u::u::u::u::u::u::u::u::u::u::u::u::u::u::u::u::u::u::u::u::u::u:: .bool true::u::u::u::u::u::u::u::u::u::u::u::u::u::u::u::u::u::u::u::u::u::u::u::u::u::u::u::u::u::u::u::u::u::u::u::u::u::u::u::u::u::u::u::u::u::u::u::u::u::u::u::u::u::u::u::u::u::[])) rfl ?_
   exact DJ Gw ⟨_,(Option.some.inj h).symm,rfl,(hS.D0 3 [2,1,0] (by decide))⟩
  ·try simp only [W,Fv,reduceIte,Nat.reduceAdd,Nat.reduceLeDiff,hS.var 1 rfl,hc]
   refine DC h fun IB JU h=> ?_;refine R5 JU hS fun H hS=> ?_;try simp only [W,reduceIte,Bool.false_eq_true]
   refine D4 h (fun hc h=> ?_) (fun hc h=> ?_)
   ·try simp only [W,hc]
    refine C6 Gh ?_;refine EQ (s' :=(u::u:: .ptr FB FC 0 0:: .ptr Ga Gb 0 0:: .ptr Gi Gj 0 0::u::u::u::u::u::u::u::u::u::u::u::u::u::u::u::u::u::u::u::u::u::u::u::u::u::u::u::u:: .bool true::u::u::u::u::u::u::u::u::u::u::u::u::u::u::u::u::u::u::u::u::u::u::u::u::u::u::u::u::u::u::u::u::u::u::u::u::u::u::u::u::u::u::u::u::u::u::u::u::u::u::u::u::u::u::u::u::u::[])) rfl ?_
    exact DJ Gw ⟨_,(Option.some.inj h).symm,rfl,(hS.D0 3 [2,1,0] (by decide))⟩
   ·try simp only [W,Fv,reduceIte,Nat.reduceAdd,Nat.reduceBEq,Bool.false_eq_true,hS.var 2 rfl,hS.var 1 rfl,hc]
    refine D4 h (fun hc h=> ?_) (fun hc h=> ?_)
    ·try simp only [W,hc]
     refine C6 Gh ?_;refine EQ (s' :=(u::u:: .ptr FB FC 0 0:: .ptr Ga Gb 0 0:: .ptr Gi Gj 0 0::u::u::u::u::u::u::u::u::u::u::u::u::u::u::u::u::u::u::u::u::u::u::u::u::u::u::u::u:: .bool true::u::u::u::u::u::u::u::u::u::u::u::u::u::u::u::u::u::u::u::u::u::u::u::u::u::u::u::u::u::u::u::u::u::u::u::u::u::u::u::u::u::u::u::u::u::u::u::u::u::u::u::u::u::u::u::u::u::[])) rfl ?_
     exact DJ Gw ⟨_,(Option.some.inj h).symm,rfl,(hS.D0 3 [2,1,0] (by decide))⟩
    ·try simp only [W,Fv,reduceIte,Nat.reduceAdd,Nat.reduceBEq,Bool.false_eq_true,hS.var 2 rfl,hS.var 1 rfl,hc]
     refine C6 Gh ?_;refine EQ (s' :=(u::u:: .ptr FB FC 0 0:: .ptr Ga Gb 0 0:: .ptr Gi Gj 0 0::u::u::u::u::u::u::u::u::u::u::u::u::u::u::u::u::u::u::u::u::u::u::u::u::u::u::u::u:: .bool (a1.Fw !=a0.Fw)::u::u::u::u::u::u::u::u::u::u::u::u::u::u::u::u::u::u::u::u::u::u::u::u::u::u::u::u::u::u::u::u::u::u::u::u::u::u::u::u::u::u::u::u::u::u::u::u::u::u::u::u::u::u::u::u::u::[])) rfl ?_
     exact DJ Gw ⟨_,(Option.some.inj h).symm,rfl,(hS.D0 3 [2,1,0] (by decide))⟩
 ·obtain ⟨FO,FI,rfl,hS⟩:=hq;obtain rfl:=FI.symm;replace h:=g12;try dsimp only at h
  refine C6 FW ?_;refine C4 ?_;simp only [W];refine Dg h (fun hc h=> ?_) (fun hc h=> ?_)
  ·refine CZ fun HA F5=> ?_;refine Dh gC ?_;try simp only [W,Fv,Nat.reduceAdd]
   refine D5 rfl rfl rfl rfl rfl ?_;try simp only [W]
   refine Ds (a:= .agg [.int .i64 0,.int .i64 0,.str ([]),.nil]) (y' := .agg [.int .i64 0,.int .i64 0,.str ([]),.nil]) 2 hS rfl rfl rfl rfl rfl rfl rfl rfl fun H hS=> ?_
   try simp only [W]
   refine C6 F5 ?_;refine C2 ?_;refine C7 F4 ?_;refine Dc Fy (D2 rfl rfl (hS.var 2 rfl) rfl (D3 rfl (D3 rfl rfl))) ?_;try obtain rfl:=Option.some.inj h
   exact hP _ Bn _ ((hS.DT 2).D0 4 [0] (by decide))
  ·refine C1 ?_;refine C6 F4 ?_;refine CZ fun HR Gl=> ?_;refine Dh gC ?_;try simp only [W,Fv,Nat.reduceAdd,Nat.reduceBEq,hS.var 0 rfl,hS.var 1 rfl]
   refine D5 rfl rfl rfl rfl rfl ?_;try simp only [W]
   refine DC h fun Ja Kw h=> ?_;obtain ⟨Gt,FL,G5⟩:=Ja;try dsimp only at h
   refine Sv Kw hS fun v23 Jp H hS=> ?_;try simp only [W]
   refine C6 Gl ?_;refine CZ fun JQ GQ=> ?_;refine CZ fun Ic Gr=> ?_;refine Dh gC ?_;try simp only [W,Nat.reduceAdd]
   refine C6 Gr ?_;refine C4 ?_;simp only [W];refine Dg h (fun hc h=> ?_) (fun hc h=> ?_)
   ·refine CZ fun Jo GI=> ?_;refine Dh gC ?_;try simp only [W,Fv,Nat.reduceAdd]
    refine D5 rfl rfl rfl rfl rfl ?_;try simp only [W]
    refine Ds (a:= .agg [.int .i64 0,.int .i64 0,.str ([]),.nil]) (y' := .agg [.int .i64 0,.int .i64 0,.str ([]),.nil]) 3 hS rfl rfl rfl rfl rfl rfl rfl rfl fun H hS=> ?_
    try simp only [W]
    refine C6 GI ?_;refine C2 ?_;refine C7 GQ ?_;refine Dc Fy (D2 rfl rfl (hS.var 3 rfl) rfl (D3 rfl (D3 rfl rfl))) ?_;try obtain rfl:=Option.some.inj h
    exact hP _ Bn _ ((hS.DT 2).D0 5 [0] (by decide))
   ·refine C1 ?_;refine C6 GQ ?_;refine CZ fun Jl GL=> ?_;refine Dh gC ?_;try simp only [W,Fv,Nat.reduceAdd,Nat.reduceBEq,hS.var 1 rfl]
    refine DN hS rfl rfl rfl rfl rfl rfl rfl h fun v30 H Pg Qg hb h hS=> ?_;try simp only [W]
    refine C6 GL ?_;refine CZ fun RX N9=> ?_;refine CZ fun Ol Ir=> ?_;refine Dh gC ?_;try simp only [W,Fv,Nat.reduceAdd,Nat.reduceBEq,hS.var 3 rfl]
    refine C6 Ir ?_;obtain ⟨SC,SD,Om⟩:=Option.bind_eq_some_iff.1 h;refine DI gC (fun s H=> ∃JI:List Int,SC=(JI)∧s=(u::u:: .ptr FB FC 0 0::u:: .ptr Gi Gj 0 0::u::u::v23:: .int .i64 FL::u::v30::u::u::u::u::u::u::u::u::u::u::u::u::u::u::u::u::u::u::u::u::u::u::u::u::u::u::u::u::u::u::u::u::u::u::u::u::u::u::u::u::u::u::u::u::u::u::u::u::u::u::u::u::u::u::u::u::u::u::u::u::u::u::u::u::u::u::u::u::u::u::u::u::u::u::u::u::u::u::u::u::[])∧aC H (⟨v23,2,Gt.map Fx⟩::⟨v30,1,JI.map (AV.int .u8)⟩::⟨.ptr FB FC 0 0,4,[.agg [.int .i64 a0.Id,.int .i64 a0.Fw,.str a0.Text,.fz (a0.Has.map Fx)]]⟩::⟨.ptr Gi Gj 0 0,4,[.agg [.int .i64 0,.int .i64 0,.str ([]),.nil]]⟩::F)) (fun N_ Jm=> ?_) (fun s H hq=> ?_)
    ·refine C0 fun Nb IU=> ?_;refine DE gC SD (fun x s H=>match x with|(IA,Hg)=>s=(u::u:: .ptr FB FC 0 0:: .ptr Ga Gb 0 0:: .ptr Gi Gj 0 0::u::u::v23:: .int .i64 FL::u::v30::u::u::u::u::u::u::u::u::u::u::u::u::u::u::u::u::u::u::u::u::u::u::u::u::u::u::u::u::u::u::u::u::u::u::u::u::u::u::u::u::u::u::u::u::u::u::u::u:: .int .i64 (a1.Text.length:Int):: .int .i64 Hg::u::u::u::u::u::u::u::u::u::u::u::u::u::u::u::u::u::u::u::u::u::u::u::u::u::u::u::u::u::u::[])∧aC H (⟨v23,2,Gt.map Fx⟩::⟨v30,1,IA.map (AV.int .u8)⟩::⟨.ptr FB FC 0 0,4,[.agg [.int .i64 a0.Id,.int .i64 a0.Fw,.str a0.Text,.fz (a0.Has.map Fx)]]⟩::⟨.ptr Ga Gb 0 0,4,[.agg [.int .i64 a1.Id,.int .i64 a1.At,.int .i64 a1.Fw,.str a1.Text]]⟩::⟨.ptr Gi Gj 0 0,4,[.agg [.int .i64 0,.int .i64 0,.str ([]),.nil]]⟩::F)) ⟨rfl,(hS.D0 5 [1,0,2,3,4] (by decide))⟩ (fun x Qb s H h SE hi Qa JT=> ?_)
     obtain ⟨IA,Hg⟩:=x;try dsimp only at hi
     obtain ⟨rfl,hS⟩:=hi;simp only [KX] at h;refine CZ fun M8 Iq=> ?_;refine Dh gC ?_;try simp only [W,Fv,Nat.reduceAdd]
     refine C6 Iq ?_;refine CZ fun Sd Mg=> ?_;refine C4 ?_;simp only [W];refine Dg h (fun hc h=> ?_) (fun hc h=> ?_)
     ·refine C1 ?_;refine C6 Mg ?_;refine CZ fun XO SG=> ?_;obtain ⟨SH,h,SI⟩:=Option.bind_eq_some_iff.1 h;refine DI gC (fun s H=> ∃H7:List Int,SH=(H7)∧s=(u::u:: .ptr FB FC 0 0:: .ptr Ga Gb 0 0:: .ptr Gi Gj 0 0::u::u::v23:: .int .i64 FL::u::v30::u::u::u::u::u::u::u::u::u::u::u::u::u::u::u::u::u::u::u::u::u::u::u::u::u::u::u::u::u::u::u::u::u::u::u::u::u::u::u::u::u::u::u::u::u::u::u::u:: .int .i64 (a1.Text.length:Int):: .int .i64 Hg::u::u::u::u::u::u::u::u::u::u::u::u::u::u::u::u::u::u::u::u::u::u::u::u::u::u::u::u::u::u::[])∧aC H (⟨v23,2,Gt.map Fx⟩::⟨v30,1,H7.map (AV.int .u8)⟩::⟨.ptr FB FC 0 0,4,[.agg [.int .i64 a0.Id,.int .i64 a0.Fw,.str a0.Text,.fz (a0.Has.map Fx)]]⟩::⟨.ptr Ga Gb 0 0,4,[.agg [.int .i64 a1.Id,.int .i64 a1.At,.int .i64 a1.Fw,.str a1.Text]]⟩::⟨.ptr Gi Gj 0 0,4,[.agg [.int .i64 0,.int .i64 0,.str ([]),.nil]]⟩::F)) (fun XP SJ=> ?_) (fun s H hq=> ?_)
      ·refine C0 fun XQ SK=> ?_;refine CZ fun XR SL=> ?_;refine Dh gC ?_;try simp only [W,Nat.reduceAdd]
       refine C6 SL ?_;refine CZ fun XS SM=> ?_;refine Dh gC ?_;try simp only [W,Fv,Nat.reduceAdd,Nat.reduceBEq,hS.var 2 rfl,hS.var 3 rfl]
       refine DC h fun Pf SN h=> ?_;refine P8 SN hS fun H hS=> ?_;try simp only [W]
       refine C6 SM ?_;obtain ⟨SO,h,SP⟩:=Option.bind_eq_some_iff.1 h;refine DI gC (fun s H=> ∃Jc:List Int,SO=(Jc)∧s=(u::u:: .ptr FB FC 0 0:: .ptr Ga Gb 0 0:: .ptr Gi Gj 0 0::u::u::v23:: .int .i64 FL::u::v30::u::u::u::u::u::u::u::u::u::u::u::u::u::u::u::u::u::u::u::u::u::u::u::u::u::u::u::u::u::u::u::u::u::u::u::u::u::u::u::u::u::u::u::u::u::u::u::u:: .int .i64 (a1.Text.length:Int):: .int .i64 Hg::u::u::u::u::u::u::u::u::u::u::u::u::u::u::u::u::u::u::u::u::u::u::u::u::u::u::u::u::u::u::[])∧aC H (⟨v23,2,Gt.map Fx⟩::⟨v30,1,Jc.map (AV.int .u8)⟩::⟨.ptr FB FC 0 0,4,[.agg [.int .i64 a0.Id,.int .i64 a0.Fw,.str a0.Text,.fz (a0.Has.map Fx)]]⟩::⟨.ptr Ga Gb 0 0,4,[.agg [.int .i64 a1.Id,.int .i64 a1.At,.int .i64 a1.Fw,.str a1.Text]]⟩::⟨.ptr Gi Gj 0 0,4,[.agg [.int .i64 0,.int .i64 0,.str ([]),.nil]]⟩::F)) (fun SQ Nh=> ?_) (fun s H hq=> ?_)
       ·refine CZ fun Qh Jq=> ?_;refine C4 ?_;simp only [W];refine Dg h (fun hc h=> ?_) (fun hc h=> ?_)
        ·refine D6 gC [(10,[])] (by kernel_rfl) rfl (by kernel_rfl) ?_
         try simp only [W,Fv,reduceIte,Nat.reduceAdd,Nat.reduceBEq,hS.var 3 rfl,jl,l7,Nat.reduceEqDiff]
         refine Du h fun MB XT h=> ?_;try simp only [W,Fv]
         refine Dw 1 hS rfl rfl rfl rfl rfl h (fun MD XU XV XW Ot h Qi=> ?_) Qg.ne;obtain ⟨XX,XY,XZ⟩:=hS.elem 1 rfl Qi Ot;try simp only [W]
         refine Dx (a:= .int .u8 (MB.toNat:Int)) (y' :=(MB.toNat:Int)) 1 hS rfl Qi Ot rfl rfl rfl rfl rfl rfl rfl fun H hS=> ?_
         try simp only [W]
         refine C6 Jq ?_;refine EQ (s' :=(u::u:: .ptr FB FC 0 0:: .ptr Ga Gb 0 0:: .ptr Gi Gj 0 0::u::u::v23:: .int .i64 FL::u::v30::u::u::u::u::u::u::u::u::u::u::u::u::u::u::u::u::u::u::u::u::u::u::u::u::u::u::u::u::u::u::u::u::u::u::u::u::u::u::u::u::u::u::u::u::u::u::u::u:: .int .i64 (a1.Text.length:Int):: .int .i64 Hg::u::u::u::u::u::u::u::u::u::u::u::u::u::u::u::u::u::u::u::u::u::u::u::u::u::u::u::u::u::u::[])) rfl ?_
         exact DJ Nh ⟨_,(Option.some.inj h).symm,rfl,hS⟩
        ·refine C1 ?_;refine C6 Jq ?_;refine EQ (s' :=(u::u:: .ptr FB FC 0 0:: .ptr Ga Gb 0 0:: .ptr Gi Gj 0 0::u::u::v23:: .int .i64 FL::u::v30::u::u::u::u::u::u::u::u::u::u::u::u::u::u::u::u::u::u::u::u::u::u::u::u::u::u::u::u::u::u::u::u::u::u::u::u::u::u::u::u::u::u::u::u::u::u::u::u:: .int .i64 (a1.Text.length:Int):: .int .i64 Hg::u::u::u::u::u::u::u::u::u::u::u::u::u::u::u::u::u::u::u::u::u::u::u::u::u::u::u::u::u::u::[])) rfl ?_
         exact DJ Nh ⟨_,(Option.some.inj h).symm,rfl,hS⟩
       ·obtain ⟨Jc,FI,rfl,hS⟩:=hq;obtain rfl:=FI.symm;replace h:=SP;try dsimp only at h
        refine C9 SK ?_;exact DJ SJ ⟨_,(Option.some.inj h).symm,rfl,hS⟩
      ·obtain ⟨H7,FI,rfl,hS⟩:=hq;obtain rfl:=FI.symm;replace h:=SI;try dsimp only at h
       refine C6 SG ?_;refine Dh gC ?_;try simp only [W,Fv,Nat.reduceAdd]
       exact DF JT h ⟨rfl,hS⟩
     ·refine C3 ?_;refine C8 Mg ?_;try obtain rfl:=Option.some.inj h
      obtain rfl:=SE _ rfl;have h:(some (IA):Option ((List Int)))=some (IA):=rfl;refine DG JT ?_;refine Da IU ?_;exact DJ Jm ⟨_,(Option.some.inj h).symm,rfl,(hS.D0 5 [0,1,2,4] (by decide))⟩
    ·obtain ⟨JI,FI,rfl,hS⟩:=hq;obtain rfl:=FI.symm;replace h:=Om;try dsimp only at h
     refine C6 N9 ?_;refine CZ fun SR Ou=> ?_;refine Dh gC ?_;try simp only [W,Fv,Nat.reduceAdd,Nat.reduceBEq,hS.var 2 rfl]
     refine DO rfl rfl rfl rfl rfl rfl rfl (hS.iK 1 rfl Qg) (hS.Bo 1 rfl) ?_;try simp only [W,Fv]
     refine D5 rfl rfl rfl rfl (by simp only [fQ,Jp.Dy,Jp.cells];simp [E,splice,AV.cells,dP,cU]<;>rfl) ?_
     try simp only [W]
     refine Ds (a:= .agg [.int .i64 a0.Id,.int .i64 a0.Fw,.str (qF JI),v23]) (y' := .agg [.int .i64 a0.Id,.int .i64 a0.Fw,.str (qF JI),v23]) 3 hS rfl rfl rfl rfl rfl (by simp only [dP,List.all_cons,List.all_nil,Jp.q8];rfl) rfl rfl fun H hS=> ?_
     try simp only [W]
     refine C6 Ou ?_;refine C2 ?_;refine Dc Fy (D2 rfl rfl (hS.var 3 rfl) rfl (D3 rfl (D3 rfl rfl))) ?_;try obtain rfl:=Option.some.inj h
     exact hP _ Jp _ (hS.D0 4 [0] (by decide))
theorem SS {a0:List Span} {a1:List Span} {r:(Bool)} (h:KZ a0 a1=some r) {F:List It} {H:J} (hS:aC H (F)) {P:AV→J→Prop} (hP: ∀H',aC H' (F)→P (.bool r) H'):aq C 57 [.fz (a0.map Fx),.fz (a1.map Fx)] H P:=by
 refine Dk gC (res:=[.tmp 4]) (n:=26) rfl rfl rfl rfl fun K0 Fy=> ?_;simp only [W,Nat.reduceSub,Nat.reduceAdd,List.replicate];unfold KZ at h;refine CZ fun K1 FA=> ?_;refine Dh gC ?_;try simp only [W,Nat.reduceAdd]
 refine C6 FA ?_;refine CZ fun K2 Bc=> ?_;refine CZ fun K3 Gf=> ?_;refine Dh gC ?_;try simp only [W,Fv,Nat.reduceAdd]
 refine C6 Gf ?_;refine C4 ?_;simp only [W];refine Dg h (fun hc h=> ?_) (fun hc h=> ?_)
 ·refine CZ fun K4 FG=> ?_;refine Dh gC ?_;try simp only [W,Nat.reduceAdd]
  refine C6 FG ?_;refine C2 ?_;refine C7 Bc ?_;refine Dd Fy rfl ?_;try obtain rfl:=Option.some.inj h
  exact hP _ hS
 ·refine C1 ?_;refine C6 Bc ?_;refine CZ fun K5 FX=> ?_;refine CZ fun K6 G7=> ?_;refine Dh gC ?_;try simp only [W,Fv,Nat.reduceAdd]
  refine C6 G7 ?_;obtain ⟨IQ,IS,g15⟩:=Option.bind_eq_some_iff.1 h;refine DI gC (fun s H=>IQ=LR.next ()∧s=[u,u,u,u,u,u,u,u,u,u,u,u,u,u,u,u,u,u,u,u,u,u,u,u,u,u]∧aC H (F)) (fun Ji GD=> ?_) (fun s H hq=> ?_)
  ·refine C0 fun LX HE=> ?_;refine DE gC IS (fun x s H=>s=[.fz (a0.map Fx),.fz (a1.map Fx),u,u,u,u,u,u,u,u,u,u,.int .i64 (a0.length:Int),.int .i64 x,u,u,u,u,u,u,u,u,u,u,u,u]∧aC H (F)) ⟨rfl,hS⟩ (fun FM Kx s H h Ie hi Ku GY=> ?_)
   skip
   try dsimp only at hi
   obtain ⟨rfl,hS⟩:=hi;simp only [KY] at h;refine CZ fun Io GC=> ?_;refine Dh gC ?_;try simp only [W,Fv,Nat.reduceAdd]
   refine C6 GC ?_;refine CZ fun HA F5=> ?_;refine C4 ?_;simp only [W];refine Dg h (fun hc h=> ?_) (fun hc h=> ?_)
   ·refine C1 ?_;refine C6 F5 ?_;refine CZ fun HR Gl=> ?_;refine C0 fun Ip Gq=> ?_;refine CZ fun Jk GP=> ?_;refine Dh gC ?_;try simp only [W,Nat.reduceAdd]
    refine C6 GP ?_;refine CZ fun Kz G8=> ?_;refine Dj gC (by kernel_rfl) ?_
    try simp only [W,Fv,Nat.reduceAdd]
    refine Dv rfl rfl rfl (fun _=>rfl) h fun G5 X0 h=> ?_;try simp only [W,Fv,F3,reduceIte,Nat.reduceAdd,Nat.reduceLeDiff]
    refine Dv rfl rfl rfl (fun _=>rfl) h fun Je PY h=> ?_;try simp only [W,Fv,F3,reduceIte,Nat.reduceAdd,Nat.reduceLeDiff]
    refine C6 G8 ?_;refine C4 ?_;simp only [W];refine Dg h (fun hc h=> ?_) (fun hc h=> ?_)
    ·refine CZ fun JP Hb=> ?_;refine Dh gC ?_;try simp only [W,Nat.reduceAdd]
     refine C6 Hb ?_;refine C2 ?_;refine Db Gq ?_;refine C7 Gl ?_;try obtain rfl:=Option.some.inj h
     obtain rfl:=Ie _ rfl;have h:(some (LR.done false):Option (LR Unit (Bool)))=some (LR.done false):=rfl;refine DH GY ?_;refine Db HE ?_;try obtain rfl:=Option.some.inj h
     obtain rfl:=Option.some.inj g15;have h:(some false:Option (Bool))=some false:=rfl;refine DK GD ?_;refine C7 FX ?_;refine Dd Fy rfl ?_;try obtain rfl:=Option.some.inj h
     exact hP _ hS
    ·refine C1 ?_;refine C_ Gq ?_;refine C6 Gl ?_;refine Dh gC ?_;try simp only [W,Fv,Nat.reduceAdd]
     exact DF GY h ⟨rfl,hS⟩
   ·refine C3 ?_;refine C8 F5 ?_;try obtain rfl:=Option.some.inj h
    obtain rfl:=Ie _ rfl;have h:(some (LR.next ()):Option (LR Unit (Bool)))=some (LR.next ()):=rfl
    refine DG GY ?_;refine Da HE ?_;exact DJ GD ⟨(Option.some.inj h).symm,rfl,hS⟩
  ·obtain ⟨rfl,rfl,hS⟩:=hq;replace h:=g15;try dsimp only at h
   refine C6 FX ?_;refine CZ fun SU Ov=> ?_;refine Dh gC ?_;try simp only [W,Nat.reduceAdd]
   refine C6 Ov ?_;refine C2 ?_;refine Dd Fy rfl ?_;try obtain rfl:=Option.some.inj h
   exact hP _ hS
theorem Ox {a0:FD} {a1:FD} {r:(Bool)} (h:IC a0 a1=some r) {F:List It} {H:J} (hS:aC H (F)) {P:AV→J→Prop} (hP: ∀H',aC H' (F)→P (.bool r) H'):aq C 41 [.agg [.int .i64 a0.Id,.int .i64 a0.Fw,.str a0.Text,.fz (a0.Has.map Fx)],.agg [.int .i64 a1.Id,.int .i64 a1.Fw,.str a1.Text,.fz (a1.Has.map Fx)]] H P:=by
 refine Dk gC (res:=[.tmp 4]) (n:=31) rfl rfl rfl rfl fun K0 Fy=> ?_;simp only [W,Nat.reduceSub,Nat.reduceAdd,List.replicate];unfold IC at h;refine CZ fun K1 FA=> ?_;refine Dh gC ?_;try simp only [W,Nat.reduceAdd]
 refine Dq hS rfl rfl rfl rfl fun FB FC H hS=> ?_;try simp only [W]
 refine Dq hS rfl rfl rfl rfl fun Ga Gb H hS=> ?_;try simp only [W]
 refine C6 FA ?_;refine CZ fun K6 G7=> ?_;refine Dh gC ?_;try simp only [W,Fv,Nat.reduceAdd,Nat.reduceBEq,hS.var 1 rfl,hS.var 0 rfl]
 refine D4 h (fun hc h=> ?_) (fun hc h=> ?_)
 ·try simp only [W,Fv,reduceIte,Nat.reduceAdd,Nat.reduceBEq,hS.var 1 rfl,hS.var 0 rfl,hc]
  refine D4 h (fun hc h=> ?_) (fun hc h=> ?_)
  ·try simp only [W,Fv,reduceIte,Nat.reduceAdd,Nat.reduceBEq,hS.var 1 rfl,hS.var 0 rfl,hc]
   refine D4 h (fun hc h=> ?_) (fun hc h=> ?_)
   ·try simp only [W,Fv,Nat.reduceAdd,Nat.reduceBEq,hS.var 1 rfl,hS.var 0 rfl,hc]
    refine DC h fun FT JS h=> ?_;refine SS JS hS fun H hS=> ?_;try simp only [W,reduceIte]
    refine C6 G7 ?_;refine C2 ?_;refine Dd Fy rfl ?_;try obtain rfl:=Option.some.inj h
    exact hP _ (hS.D0 2 [] (by decide))
   ·try simp only [W,hc]
    refine C6 G7 ?_;refine C2 ?_;refine Dd Fy rfl ?_;try obtain rfl:=Option.some.inj h
    exact hP _ (hS.D0 2 [] (by decide))
  ·try simp only [W,hc]
   refine C6 G7 ?_;refine C2 ?_;refine Dd Fy rfl ?_;try obtain rfl:=Option.some.inj h
   exact hP _ (hS.D0 2 [] (by decide))
 ·try simp only [W,hc]
  refine C6 G7 ?_;refine C2 ?_;refine Dd Fy rfl ?_;try obtain rfl:=Option.some.inj h
  exact hP _ (hS.D0 2 [] (by decide))
theorem Qj {a0:Int} {a1:Int} {r:(FD)} (h:Kd a0 a1=some r) {F:List It} {H:J} (hS:aC H (F)) {P:AV→J→Prop} (hP: ∀HT:AV,bG HT→ ∀H',aC H' (⟨HT,2,r.Has.map Fx⟩::F)→P (.agg [.int .i64 r.Id,.int .i64 r.Fw,.str r.Text,HT]) H'):aq C 108 [.int .i64 a0,.int .i64 a1] H P:=by
 refine Dk gC (res:=[.cell 4 55]) (n:=11) rfl rfl rfl rfl fun K0 Fy=> ?_;simp only [W,Nat.reduceSub,Nat.reduceAdd,List.replicate];unfold Kd at h;refine CZ fun K1 FA=> ?_;refine Dh gC ?_;try simp only [W,Nat.reduceAdd]
 refine Dr hS rfl rfl fun FB FC H hS=> ?_;try simp only [W]
 refine C6 FA ?_;refine CZ fun K4 FG=> ?_;refine Dh gC ?_;try simp only [W,Nat.reduceAdd]
 refine DR (c:=(AV.int .u8)) hS rfl rfl rfl rfl rfl rfl h fun v5 H FM SV hm h hS=> ?_;try simp only [W,Fv]
 refine DO rfl rfl rfl rfl rfl rfl rfl (hS.iK 0 rfl SV) (hS.Bo 0 rfl) ?_;try simp only [W,Fv]
 refine D5 rfl rfl rfl rfl rfl ?_;try simp only [W]
 refine Ds (a:= .agg [.int .i64 a0,.int .i64 a1,.str (qF FM),.nil]) (y' := .agg [.int .i64 a0,.int .i64 a1,.str (qF FM),.nil]) 1 hS rfl rfl rfl rfl rfl rfl rfl rfl fun H hS=> ?_
 try simp only [W]
 refine C6 FG ?_;refine C2 ?_;refine Dc Fy (D2 rfl rfl (hS.var 1 rfl) rfl rfl) ?_;try obtain rfl:=Option.some.inj h
 exact hP _ Bn _ ((hS.DT 2).D0 3 [0] (by decide))
theorem SX {a0:Span} {r:(Bool)} (h:MC a0=some r) {F:List It} {H:J} (hS:aC H (F)) {P:AV→J→Prop} (hP: ∀H',aC H' (F)→P (.bool r) H'):aq C 169 [.agg [.int .i64 a0.Fz,.int .i64 a0.To]] H P:=by
 refine Dk gC (res:=[.tmp 2]) (n:=18) rfl rfl rfl rfl fun K0 Fy=> ?_;simp only [W,Nat.reduceSub,Nat.reduceAdd,List.replicate];unfold MC at h;refine CZ fun K1 FA=> ?_;refine Dh gC ?_;try simp only [W,Nat.reduceAdd]
 refine Dq hS rfl rfl rfl rfl fun FB FC H hS=> ?_;try simp only [W]
 refine C6 FA ?_;refine CZ fun K4 FG=> ?_;refine Dh gC ?_;try simp only [W,Fv,Nat.reduceAdd,Nat.reduceBEq,hS.var 0 rfl]
 refine D4 h (fun hc h=> ?_) (fun hc h=> ?_)
 ·try simp only [W,Fv,reduceIte,Nat.reduceAdd,Nat.reduceBEq,hS.var 0 rfl,hc]
  refine D4 h (fun hc h=> ?_) (fun hc h=> ?_)
  ·try simp only [W,Fv,reduceIte,Nat.reduceAdd,Nat.reduceBEq,hS.var 0 rfl,hc]
   refine C6 FG ?_;refine C2 ?_;refine Dd Fy rfl ?_;try obtain rfl:=Option.some.inj h
   exact hP _ (hS.D0 1 [] (by decide))
  ·try simp only [W,hc]
   refine C6 FG ?_;refine C2 ?_;refine Dd Fy rfl ?_;try obtain rfl:=Option.some.inj h
   exact hP _ (hS.D0 1 [] (by decide))
 ·try simp only [W,hc]
  refine C6 FG ?_;refine C2 ?_;refine Dd Fy rfl ?_;try obtain rfl:=Option.some.inj h
  exact hP _ (hS.D0 1 [] (by decide))
theorem SY {a0:List Span} {r:(Bool)} (h:La a0=some r) {F:List It} {H:J} (hS:aC H (F)) {P:AV→J→Prop} (hP: ∀H',aC H' (F)→P (.bool r) H'):aq C 137 [.fz (a0.map Fx)] H P:=by
 refine Dk gC (res:=[.tmp 2]) (n:=34) rfl rfl rfl rfl fun K0 Fy=> ?_;simp only [W,Nat.reduceSub,Nat.reduceAdd,List.replicate];unfold La at h;refine CZ fun K1 FA=> ?_;refine Dh gC ?_;try simp only [W,Nat.reduceAdd]
 refine C6 FA ?_;refine CZ fun K2 Bc=> ?_;refine CZ fun K3 Gf=> ?_;refine Dh gC ?_;try simp only [W,Fv,Nat.reduceAdd]
 refine C6 Gf ?_;obtain ⟨L9,L_,g12⟩:=Option.bind_eq_some_iff.1 h;refine DI gC (fun s H=>L9=LR.next ()∧s=[.fz (a0.map Fx),u,u,u,u,u,u,u,u,u,u,u,u,u,u,u,u,u,u,u,u,u,u,u,u,u,u,u,u,u,u,u,u,u]∧aC H (F)) (fun K7 GK=> ?_) (fun s H hq=> ?_)
 ·refine C0 fun K8 F4=> ?_;refine DE gC L_ (fun x s H=>s=[.fz (a0.map Fx),u,u,u,u,.fz (a0.map Fx),.int .i64 (a0.length:Int),.int .i64 x,u,u,u,u,u,u,u,u,u,u,u,u,u,u,u,u,u,u,u,u,u,u,u,u,u,u]∧aC H (F)) ⟨rfl,hS⟩ (fun Gx Ky s H h Jn hi K9 FW=> ?_)
  skip
  try dsimp only at hi
  obtain ⟨rfl,hS⟩:=hi;simp only [K_] at h;refine CZ fun IL Gw=> ?_;refine Dh gC ?_;try simp only [W,Fv,Nat.reduceAdd]
  refine C6 Gw ?_;refine CZ fun IM Gh=> ?_;refine C4 ?_;simp only [W];refine Dg h (fun hc h=> ?_) (fun hc h=> ?_)
  ·refine C1 ?_;refine C6 Gh ?_;refine CZ fun JM G6=> ?_;refine C0 fun Io GC=> ?_;refine CZ fun HA F5=> ?_;refine Dh gC ?_;try simp only [W,Fv,Nat.reduceAdd]
   refine Dv rfl rfl rfl (fun _=>rfl) h fun GF SZ h=> ?_;try simp only [W,Fv,F3,reduceIte,Nat.reduceAdd,Nat.reduceLeDiff]
   refine Dr hS rfl rfl fun S0 S1 H hS=> ?_;try simp only [W]
   refine Ds (a:= .agg [.int .i64 GF.Fz,.int .i64 GF.To]) (y' := .agg [.int .i64 GF.Fz,.int .i64 GF.To]) 0 hS rfl rfl rfl rfl rfl rfl rfl rfl fun H hS=> ?_
   try simp only [W]
   refine C6 F5 ?_;refine CZ fun Kz G8=> ?_;obtain ⟨Mc,h,g24⟩:=Option.bind_eq_some_iff.1 h;refine DI gC (fun s H=> ∃H8:Bool,Mc=(H8)∧s=[.fz (a0.map Fx),u,u,u,u,.fz (a0.map Fx),.int .i64 (a0.length:Int),.int .i64 Gx,u,u,u,u,u,u,u,u,u,u,u,u,u,u,u,u,u,u,u,u,u,.bool H8,u,u,u,u]∧aC H (F)) (fun JQ GQ=> ?_) (fun s H hq=> ?_)
   ·refine CZ fun Ic Gr=> ?_;refine Dj gC (by kernel_rfl) ?_
    try simp only [W,Fv,reduceIte,Nat.reduceAdd,Nat.reduceLeDiff,hS.var 0 rfl]
    refine Ev (bT:=[[.sc]]) (ys:=[.agg [.int .i64 GF.Fz,.int .i64 GF.To]]) h rfl (by rfl) fun JC N6 h=>⟨.bool JC,SX N6 (aC.nil _) fun H hS=>En rfl (Ek rfl (Ej rfl)),⟨rfl,rfl,fun _=>rfl⟩,?_⟩
    try simp only [W]
    refine D4 h (fun hc h=> ?_) (fun hc h=> ?_)
    ·try simp only [W,hc]
     refine C6 Gr ?_;refine C5 ?_;exact DJ GQ ⟨_,(Option.some.inj h).symm,rfl,(hS.D0 1 [] (by decide))⟩
    ·try simp only [W,Fv,hc]
     refine D4 h (fun hc h=> ?_) (fun hc h=> ?_)
     ·try simp only [W,Fv,hc]
      refine Dv rfl rfl rfl (fun _=>rfl) h fun Ke Ng h=> ?_;try simp only [W,Fv,F3,reduceIte,Nat.reduceAdd,Nat.reduceBEq,Bool.false_eq_true,hS.var 0 rfl]
      refine C6 Gr ?_;refine C5 ?_;exact DJ GQ ⟨_,(Option.some.inj h).symm,rfl,(hS.D0 1 [] (by decide))⟩
     ·try simp only [W,reduceIte,Bool.false_eq_true,hc]
      refine C6 Gr ?_;refine C5 ?_;exact DJ GQ ⟨_,(Option.some.inj h).symm,rfl,(hS.D0 1 [] (by decide))⟩
   ·obtain ⟨H8,FI,rfl,hS⟩:=hq;obtain rfl:=FI.symm;replace h:=g24;try dsimp only at h
    refine C6 G8 ?_;refine C4 ?_;simp only [W];refine Dg h (fun hc h=> ?_) (fun hc h=> ?_)
    ·refine CZ fun JN G4=> ?_;refine Dh gC ?_;try simp only [W,Nat.reduceAdd]
     refine C6 G4 ?_;refine C2 ?_;refine Db GC ?_;refine C7 G6 ?_;try obtain rfl:=Option.some.inj h
     obtain rfl:=Jn _ rfl;have h:(some (LR.done false):Option (LR Unit (Bool)))=some (LR.done false):=rfl;refine DH FW ?_;refine Db F4 ?_;try obtain rfl:=Option.some.inj h
     obtain rfl:=Option.some.inj g12;have h:(some false:Option (Bool))=some false:=rfl;refine DK GK ?_;refine C7 Bc ?_;refine Dd Fy rfl ?_;try obtain rfl:=Option.some.inj h
     exact hP _ hS
    ·refine C1 ?_;refine C_ GC ?_;refine C6 G6 ?_;refine Dh gC ?_;try simp only [W,Fv,Nat.reduceAdd]
     exact DF FW h ⟨rfl,hS⟩
  ·refine C3 ?_;refine C8 Gh ?_;try obtain rfl:=Option.some.inj h
   obtain rfl:=Jn _ rfl;have h:(some (LR.next ()):Option (LR Unit (Bool)))=some (LR.next ()):=rfl
   refine DG FW ?_;refine Da F4 ?_;exact DJ GK ⟨(Option.some.inj h).symm,rfl,hS⟩
 ·obtain ⟨rfl,rfl,hS⟩:=hq;replace h:=g12;try dsimp only at h
  refine C6 Bc ?_;refine CZ fun L7 HF=> ?_;refine Dh gC ?_;try simp only [W,Fv,Nat.reduceAdd]
  refine C6 HF ?_;refine C2 ?_;refine Dd Fy rfl ?_;try obtain rfl:=Option.some.inj h
  exact hP _ hS
theorem S2 {a0:List Span} {a1:Int} {r:(Bool)} (h:Lb a0 a1=some r) {F:List It} {H:J} (hS:aC H (F)) {P:AV→J→Prop} (hP: ∀H',aC H' (F)→P (.bool r) H'):aq C 109 [.fz (a0.map Fx),.int .i64 a1] H P:=by
 refine Dk gC (res:=[.tmp 4]) (n:=23) rfl rfl rfl rfl fun K0 Fy=> ?_;simp only [W,Nat.reduceSub,Nat.reduceAdd,List.replicate];unfold Lb at h;refine CZ fun K1 FA=> ?_;refine Dh gC ?_;try simp only [W,Nat.reduceAdd]
 refine C6 FA ?_;refine CZ fun K2 Bc=> ?_;refine Dh gC ?_;try simp only [W,Nat.reduceAdd]
 refine DC h fun b3 lj h=> ?_;refine SY lj hS fun H hS=> ?_;try simp only [W]
 refine D4 h (fun hc h=> ?_) (fun hc h=> ?_)
 ·try simp only [W,Fv,hc]
  refine D4 h (fun hc h=> ?_) (fun hc h=> ?_)
  ·try simp only [W,reduceIte,hc]
   refine C6 Bc ?_;refine C2 ?_;refine Dd Fy rfl ?_;try obtain rfl:=Option.some.inj h
   exact hP _ hS
  ·try simp only [W,Fv,hc]
   refine Dv rfl rfl rfl (fun _=>rfl) h fun Gk IP h=> ?_;try simp only [W,Fv,F3,reduceIte,Nat.reduceAdd,Nat.reduceBEq,Bool.false_eq_true]
   refine C6 Bc ?_;refine C2 ?_;refine Dd Fy rfl ?_;try obtain rfl:=Option.some.inj h
   exact hP _ hS
 ·try simp only [W,hc]
  refine C6 Bc ?_;refine C2 ?_;refine Dd Fy rfl ?_;try obtain rfl:=Option.some.inj h
  exact hP _ hS
theorem Qk {a0:List Span} {a1:Int} {r:(Bool)} (h:Kf a0 a1=some r) {F:List It} {H:J} (hS:aC H (F)) {P:AV→J→Prop} (hP: ∀H',aC H' (F)→P (.bool r) H'):aq C 110 [.fz (a0.map Fx),.int .i64 a1] H P:=by
 refine Dk gC (res:=[.tmp 4]) (n:=24) rfl rfl rfl rfl fun K0 Fy=> ?_;simp only [W,Nat.reduceSub,Nat.reduceAdd,List.replicate];unfold Kf at h;refine CZ fun K1 FA=> ?_;refine Dh gC ?_;try simp only [W,Nat.reduceAdd]
 refine C6 FA ?_;refine CZ fun K2 Bc=> ?_;refine CZ fun K3 Gf=> ?_;refine Dh gC ?_;try simp only [W,Fv,Nat.reduceAdd]
 refine C6 Gf ?_;obtain ⟨L9,L_,g12⟩:=Option.bind_eq_some_iff.1 h;refine DI gC (fun s H=>L9=LR.next ()∧s=[u,u,u,u,u,u,u,u,u,u,u,u,u,u,u,u,u,u,u,u,u,u,u,u]∧aC H (F)) (fun K7 GK=> ?_) (fun s H hq=> ?_)
 ·refine C0 fun K8 F4=> ?_;refine DE gC L_ (fun x s H=>s=[u,.int .i64 a1,u,u,u,u,u,.fz (a0.map Fx),.int .i64 (a0.length:Int),.int .i64 x,u,u,u,u,u,u,u,u,u,u,u,u,u,u]∧aC H (F)) ⟨rfl,hS⟩ (fun Gx Ky s H h Jn hi K9 FW=> ?_)
  skip
  try dsimp only at hi
  obtain ⟨rfl,hS⟩:=hi;simp only [Lc] at h;refine CZ fun IL Gw=> ?_;refine Dh gC ?_;try simp only [W,Fv,Nat.reduceAdd]
  refine C6 Gw ?_;refine CZ fun IM Gh=> ?_;refine C4 ?_;simp only [W];refine Dg h (fun hc h=> ?_) (fun hc h=> ?_)
  ·refine C1 ?_;refine C6 Gh ?_;refine CZ fun JM G6=> ?_;refine C0 fun Io GC=> ?_;refine CZ fun HA F5=> ?_;refine Dh gC ?_;try simp only [W,Fv,Nat.reduceAdd]
   refine Dv rfl rfl rfl (fun _=>rfl) h fun GF SZ h=> ?_;try simp only [W,Fv,F3,reduceIte,Nat.reduceAdd,Nat.reduceLeDiff]
   refine Dr hS rfl rfl fun S0 S1 H hS=> ?_;try simp only [W]
   refine Ds (a:= .agg [.int .i64 GF.Fz,.int .i64 GF.To]) (y' := .agg [.int .i64 GF.Fz,.int .i64 GF.To]) 0 hS rfl rfl rfl rfl rfl rfl rfl rfl fun H hS=> ?_
   try simp only [W]
   refine C6 F5 ?_;refine CZ fun Kz G8=> ?_;obtain ⟨Mc,h,g24⟩:=Option.bind_eq_some_iff.1 h;refine DI gC (fun s H=> ∃H8:Bool,Mc=(H8)∧s=[u,.int .i64 a1,u,u,u,u,u,.fz (a0.map Fx),.int .i64 (a0.length:Int),.int .i64 Gx,u,u,u,u,u,u,u,u,u,u,u,u,.bool H8,u]∧aC H (F)) (fun JQ GQ=> ?_) (fun s H hq=> ?_)
   ·refine CZ fun Ic Gr=> ?_;refine Dh gC ?_;try simp only [W,Fv,Nat.reduceAdd,Nat.reduceBEq,hS.var 0 rfl]
    refine D4 h (fun hc h=> ?_) (fun hc h=> ?_)
    ·try simp only [W,Fv,reduceIte,Nat.reduceAdd,Nat.reduceBEq,hS.var 0 rfl,hc]
     refine C6 Gr ?_;refine C5 ?_;exact DJ GQ ⟨_,(Option.some.inj h).symm,rfl,(hS.D0 1 [] (by decide))⟩
    ·try simp only [W,hc]
     refine C6 Gr ?_;refine C5 ?_;exact DJ GQ ⟨_,(Option.some.inj h).symm,rfl,(hS.D0 1 [] (by decide))⟩
   ·obtain ⟨H8,FI,rfl,hS⟩:=hq;obtain rfl:=FI.symm;replace h:=g24;try dsimp only at h
    refine C6 G8 ?_;refine C4 ?_;simp only [W];refine Dg h (fun hc h=> ?_) (fun hc h=> ?_)
    ·refine CZ fun Jo GI=> ?_;refine Dh gC ?_;try simp only [W,Nat.reduceAdd]
     refine C6 GI ?_;refine C2 ?_;refine Db GC ?_;refine C7 G6 ?_;try obtain rfl:=Option.some.inj h
     obtain rfl:=Jn _ rfl;have h:(some (LR.done true):Option (LR Unit (Bool)))=some (LR.done true):=rfl;refine DH FW ?_;refine Db F4 ?_;try obtain rfl:=Option.some.inj h
     obtain rfl:=Option.some.inj g12;have h:(some true:Option (Bool))=some true:=rfl;refine DK GK ?_;refine C7 Bc ?_;refine Dd Fy rfl ?_;try obtain rfl:=Option.some.inj h
     exact hP _ hS
    ·refine C1 ?_;refine C_ GC ?_;refine C6 G6 ?_;refine Dh gC ?_;try simp only [W,Fv,Nat.reduceAdd]
     exact DF FW h ⟨rfl,hS⟩
  ·refine C3 ?_;refine C8 Gh ?_;try obtain rfl:=Option.some.inj h
   obtain rfl:=Jn _ rfl;have h:(some (LR.next ()):Option (LR Unit (Bool)))=some (LR.next ()):=rfl
   refine DG FW ?_;refine Da F4 ?_;exact DJ GK ⟨(Option.some.inj h).symm,rfl,hS⟩
 ·obtain ⟨rfl,rfl,hS⟩:=hq;replace h:=g12;try dsimp only at h
  refine C6 Bc ?_;refine CZ fun KA Hc=> ?_;refine Dh gC ?_;try simp only [W,Nat.reduceAdd]
  refine C6 Hc ?_;refine C2 ?_;refine Dd Fy rfl ?_;try obtain rfl:=Option.some.inj h
  exact hP _ hS
theorem Oy {a0:FD} {r:(Bool)} (h:Jf a0=some r) {F:List It} {H:J} (hS:aC H (F)) {P:AV→J→Prop} (hP: ∀H',aC H' (F)→P (.bool r) H'):aq C 48 [.agg [.int .i64 a0.Id,.int .i64 a0.Fw,.str a0.Text,.fz (a0.Has.map Fx)]] H P:=by
 refine Dk gC (res:=[.tmp 2]) (n:=44) rfl rfl rfl rfl fun K0 Fy=> ?_;simp only [W,Nat.reduceSub,Nat.reduceAdd,List.replicate];unfold Jf at h;refine CZ fun K1 FA=> ?_;refine Dh gC ?_;try simp only [W,Nat.reduceAdd]
 refine Dq hS rfl rfl rfl rfl fun FB FC H hS=> ?_;try simp only [W]
 refine C6 FA ?_;refine CZ fun K4 FG=> ?_;refine CZ fun K5 FX=> ?_;obtain ⟨Ma,h,g8⟩:=Option.bind_eq_some_iff.1 h;refine DI gC (fun s H=> ∃FU:Bool,Ma=(FU)∧s=[u,.ptr FB FC 0 0,u,u,u,u,u,u,u,u,u,u,u,u,u,u,u,u,u,u,u,u,u,u,u,.bool FU,u,u,u,u,u,u,u,u,u,u,u,u,u,u,u,u,u,u]∧aC H (⟨.ptr FB FC 0 0,4,[.agg [.int .i64 a0.Id,.int .i64 a0.Fw,.str a0.Text,.fz (a0.Has.map Fx)]]⟩::F)) (fun K9 FW=> ?_) (fun s H hq=> ?_)
 ·refine CZ fun Ji GD=> ?_;refine Dh gC ?_;try simp only [W,Fv,Nat.reduceAdd,Nat.reduceBEq,hS.var 0 rfl]
  refine DC h fun FE IN h=> ?_;refine M6 IN hS fun H hS=> ?_;try simp only [W]
  refine D4 h (fun hc h=> ?_) (fun hc h=> ?_)
  ·try simp only [W,hc]
   refine C6 GD ?_;refine C5 ?_;exact DJ FW ⟨_,(Option.some.inj h).symm,rfl,hS⟩
  ·try simp only [W,Fv,reduceIte,Nat.reduceAdd,Nat.reduceBEq,Bool.false_eq_true,hS.var 0 rfl,hc]
   refine D4 h (fun hc h=> ?_) (fun hc h=> ?_)
   ·try simp only [W,hc]
    refine C6 GD ?_;refine C5 ?_;exact DJ FW ⟨_,(Option.some.inj h).symm,rfl,hS⟩
   ·try simp only [W,Fv,Nat.reduceAdd,Nat.reduceBEq,hS.var 0 rfl,hc]
    refine DC h fun F8 Mb h=> ?_;refine S2 Mb hS fun H hS=> ?_;try simp only [W,reduceIte,Bool.false_eq_true]
    refine C6 GD ?_;refine C5 ?_;exact DJ FW ⟨_,(Option.some.inj h).symm,rfl,hS⟩
 ·obtain ⟨FU,FI,rfl,hS⟩:=hq;obtain rfl:=FI.symm;replace h:=g8;try dsimp only at h
  refine C6 FX ?_;refine C4 ?_;simp only [W];refine Dg h (fun hc h=> ?_) (fun hc h=> ?_)
  ·refine CZ fun IL Gw=> ?_;refine Dh gC ?_;try simp only [W,Nat.reduceAdd]
   refine C6 Gw ?_;refine C2 ?_;refine C7 FG ?_;refine Dd Fy rfl ?_;try obtain rfl:=Option.some.inj h
   exact hP _ (hS.D0 1 [] (by decide))
  ·refine C1 ?_;refine C6 FG ?_;refine CZ fun IM Gh=> ?_;refine CZ fun JM G6=> ?_;refine Dh gC ?_;try simp only [W,Nat.reduceAdd]
   refine C6 G6 ?_;obtain ⟨LZ,Oa,g24⟩:=Option.bind_eq_some_iff.1 h;refine DI gC (fun s H=>LZ=LR.next ()∧s=[u,u,u,u,u,u,u,u,u,u,u,u,u,u,u,u,u,u,u,u,u,u,u,u,u,u,u,u,u,u,u,u,u,u,u,u,u,u,u,u,u,u,u,u]∧aC H (F)) (fun Ip Gq=> ?_) (fun s H hq=> ?_)
   ·refine C0 fun Jk GP=> ?_;refine DE gC Oa (fun x s H=>s=[u,.ptr FB FC 0 0,u,.int .i64 x,u,u,u,u,u,u,u,u,u,u,u,u,u,u,u,u,u,u,u,u,u,u,u,u,u,u,u,u,u,u,u,u,u,u,u,u,u,u,u,u]∧aC H (⟨.ptr FB FC 0 0,4,[.agg [.int .i64 a0.Id,.int .i64 a0.Fw,.str a0.Text,.fz (a0.Has.map Fx)]]⟩::F)) ⟨rfl,hS⟩ (fun Ge Mc s H h Md hi Kz G8=> ?_)
    skip
    try dsimp only at hi
    obtain ⟨rfl,hS⟩:=hi;simp only [Ld] at h;refine CZ fun JQ GQ=> ?_;refine CZ fun Ic Gr=> ?_;refine Dh gC ?_;try simp only [W,Fv,Nat.reduceAdd,Nat.reduceBEq,hS.var 0 rfl]
    refine C6 Gr ?_;refine C4 ?_;simp only [W];refine Dg h (fun hc h=> ?_) (fun hc h=> ?_)
    ·refine C1 ?_;refine C6 GQ ?_;refine CZ fun Jo GI=> ?_;refine C0 fun Jl GL=> ?_;refine CZ fun JN G4=> ?_;obtain ⟨Oi,h,Oj⟩:=Option.bind_eq_some_iff.1 h;refine DI gC (fun s H=> ∃I7:Bool,Oi=(I7)∧s=[u,.ptr FB FC 0 0,u,.int .i64 Ge,u,u,u,u,u,u,u,u,u,u,u,u,u,u,u,u,u,u,u,u,u,u,u,u,u,u,u,u,u,u,u,u,u,u,u,u,u,u,u,.bool I7]∧aC H (⟨.ptr FB FC 0 0,4,[.agg [.int .i64 a0.Id,.int .i64 a0.Fw,.str a0.Text,.fz (a0.Has.map Fx)]]⟩::F)) (fun Ol Ir=> ?_) (fun s H hq=> ?_)
     ·refine CZ fun KA Hc=> ?_;refine Dh gC ?_;try simp only [W,Fv,Nat.reduceAdd,Nat.reduceBEq,hS.var 0 rfl]
      refine Du h fun F1 Na h=> ?_;try simp only [W,Fv]
      refine D4 h (fun hc h=> ?_) (fun hc h=> ?_)
      ·try simp only [W,Fv,Nat.reduceAdd,Nat.reduceBEq,hS.var 0 rfl,hc]
       refine DC h fun KQ P9 h=> ?_;refine Qk P9 hS fun H hS=> ?_;try simp only [W,reduceIte]
       refine C6 Hc ?_;refine C5 ?_;exact DJ Ir ⟨_,(Option.some.inj h).symm,rfl,hS⟩
      ·try simp only [W,hc]
       refine C6 Hc ?_;refine C5 ?_;exact DJ Ir ⟨_,(Option.some.inj h).symm,rfl,hS⟩
     ·obtain ⟨I7,FI,rfl,hS⟩:=hq;obtain rfl:=FI.symm;replace h:=Oj;try dsimp only at h
      refine C6 G4 ?_;refine C4 ?_;simp only [W];refine Dg h (fun hc h=> ?_) (fun hc h=> ?_)
      ·refine CZ fun S3 Oz=> ?_;refine Dh gC ?_;try simp only [W,Nat.reduceAdd]
       refine C6 Oz ?_;refine C2 ?_;refine Db GL ?_;refine C7 GI ?_;try obtain rfl:=Option.some.inj h
       obtain rfl:=Md _ rfl;have h:(some (LR.done false):Option (LR Unit (Bool)))=some (LR.done false):=rfl;refine DH G8 ?_;refine Db GP ?_;try obtain rfl:=Option.some.inj h
       obtain rfl:=Option.some.inj g24;have h:(some false:Option (Bool))=some false:=rfl;refine DK Gq ?_;refine C7 Gh ?_;refine Dd Fy rfl ?_;try obtain rfl:=Option.some.inj h
       exact hP _ (hS.D0 1 [] (by decide))
      ·refine C1 ?_;refine C_ GL ?_;refine C6 GI ?_;refine Dh gC ?_;try simp only [W,Fv,Nat.reduceAdd]
       exact DF G8 h ⟨rfl,hS⟩
    ·refine C3 ?_;refine C8 GQ ?_;try obtain rfl:=Option.some.inj h
     obtain rfl:=Md _ rfl;have h:(some (LR.next ()):Option (LR Unit (Bool)))=some (LR.next ()):=rfl
     refine DG G8 ?_;refine Da GP ?_;exact DJ Gq ⟨(Option.some.inj h).symm,rfl,(hS.D0 1 [] (by decide))⟩
   ·obtain ⟨rfl,rfl,hS⟩:=hq;replace h:=g24;try dsimp only at h
    refine C6 Gh ?_;refine CZ fun Ql KB=> ?_;refine Dh gC ?_;try simp only [W,Nat.reduceAdd]
    refine C6 KB ?_;refine C2 ?_;refine Dd Fy rfl ?_;try obtain rfl:=Option.some.inj h
    exact hP _ hS
theorem S4 {a0:Part} {r:(Bool)} (h:Le a0=some r) {F:List It} {H:J} (hS:aC H (F)) {P:AV→J→Prop} (hP: ∀H',aC H' (F)→P (.bool r) H'):aq C 104 [.agg [.int .i64 a0.Id,.int .i64 a0.At,.int .i64 a0.Fw,.str a0.Text]] H P:=by
 refine Dk gC (res:=[.tmp 2]) (n:=25) rfl rfl rfl rfl fun K0 Fy=> ?_;simp only [W,Nat.reduceSub,Nat.reduceAdd,List.replicate];unfold Le at h;refine CZ fun K1 FA=> ?_;refine Dh gC ?_;try simp only [W,Nat.reduceAdd]
 refine Dq hS rfl rfl rfl rfl fun FB FC H hS=> ?_;try simp only [W]
 refine C6 FA ?_;refine CZ fun K4 FG=> ?_;refine Dh gC ?_;try simp only [W,Fv,Nat.reduceAdd,Nat.reduceBEq,hS.var 0 rfl]
 refine DC h fun FP Hp h=> ?_;refine M6 Hp hS fun H hS=> ?_;try simp only [W]
 refine D4 h (fun hc h=> ?_) (fun hc h=> ?_)
 ·try simp only [W,Fv,Nat.reduceAdd,Nat.reduceBEq,hS.var 0 rfl,hc]
  refine DC h fun F7 G3 h=> ?_;refine M5 G3 hS fun H hS=> ?_;try simp only [W,reduceIte]
  refine D4 h (fun hc h=> ?_) (fun hc h=> ?_)
  ·try simp only [W,Fv,Nat.reduceAdd,Nat.reduceBEq,hS.var 0 rfl,hc]
   refine DC h fun FT JS h=> ?_;refine M5 JS hS fun H hS=> ?_;try simp only [W,reduceIte]
   refine C6 FG ?_;refine C2 ?_;refine Dd Fy rfl ?_;try obtain rfl:=Option.some.inj h
   exact hP _ (hS.D0 1 [] (by decide))
  ·try simp only [W,hc]
   refine C6 FG ?_;refine C2 ?_;refine Dd Fy rfl ?_;try obtain rfl:=Option.some.inj h
   exact hP _ (hS.D0 1 [] (by decide))
 ·try simp only [W,hc]
  refine C6 FG ?_;refine C2 ?_;refine Dd Fy rfl ?_;try obtain rfl:=Option.some.inj h
  exact hP _ (hS.D0 1 [] (by decide))
theorem S5 {a0:Int} {a1:Int} {r:(Int)} (h:Lf a0 a1=some r) {F:List It} {H:J} (hS:aC H (F)) {P:AV→J→Prop} (hP: ∀H',aC H' (F)→P (.int .i64 r) H'):aq C 61 [.int .i64 a0,.int .i64 a1] H P:=by
 refine Dk gC (res:=[.tmp 4]) (n:=10) rfl rfl rfl rfl fun K0 Fy=> ?_;simp only [W,Nat.reduceSub,Nat.reduceAdd,List.replicate];unfold Lf at h;refine CZ fun K1 FA=> ?_;refine Dh gC ?_;try simp only [W,Nat.reduceAdd]
 refine C6 FA ?_;refine CZ fun K2 Bc=> ?_;refine CZ fun K3 Gf=> ?_;refine Dh gC ?_;try simp only [W,Fv,Nat.reduceAdd]
 refine C6 Gf ?_;refine C4 ?_;simp only [W];refine Dg h (fun hc h=> ?_) (fun hc h=> ?_)
 ·refine CZ fun K4 FG=> ?_;refine Dh gC ?_;try simp only [W,Nat.reduceAdd]
  refine C6 FG ?_;refine C2 ?_;refine C7 Bc ?_;refine Dd Fy rfl ?_;try obtain rfl:=Option.some.inj h
  exact hP _ hS
 ·refine C1 ?_;refine C6 Bc ?_;refine CZ fun K5 FX=> ?_;refine Dh gC ?_;try simp only [W,Nat.reduceAdd]
  refine C6 FX ?_;refine C2 ?_;refine Dd Fy rfl ?_;try obtain rfl:=Option.some.inj h
  exact hP _ hS
theorem S6 {a0:List Span} {a1:Span} {r:(List Span)} (h:Ll a0 a1=some r) {F:List It} {H:J} (hS:aC H (F)) {P:AV→J→Prop} (hP: ∀v82:AV,bG v82→ ∀H',aC H' (⟨v82,2,r.map Fx⟩::F)→P (v82) H'):aq C 120 [.fz (a0.map Fx),.agg [.int .i64 a1.Fz,.int .i64 a1.To]] H P:=by
 refine Dk gC (res:=[.tmp 4]) (n:=72) rfl rfl rfl rfl fun K0 Fy=> ?_;simp only [W,Nat.reduceSub,Nat.reduceAdd,List.replicate];unfold Ll at h;refine CZ fun K1 FA=> ?_;refine Dh gC ?_;try simp only [W,Nat.reduceAdd]
 refine Dq hS rfl rfl rfl rfl fun FB FC H hS=> ?_;try simp only [W]
 refine C6 FA ?_;refine CZ fun K4 FG=> ?_;refine Dh gC ?_;try simp only [W,Nat.reduceAdd]
 refine C6 FG ?_;refine CZ fun K5 FX=> ?_;refine Dh gC ?_;try simp only [W,Nat.reduceAdd]
 refine C6 FX ?_;refine CZ fun K6 G7=> ?_;obtain ⟨Kx,S7,g21⟩:=Option.bind_eq_some_iff.1 h;refine DI gC (fun s H=> ∃Hn:List Span,∃FY:Int,Kx=(Hn,FY)∧ ∃v12:AV,bG v12∧s=(.fz (a0.map Fx)::u::u:: .ptr FB FC 0 0::u::v12:: .int .i64 FY::u::u::u::u::u::u::u::u::u::u::u::u::u::u::u::u::u::u::u::u::u::u::u::u::u::u::u::u::u::u::u::u::u::u::u::u::u::u::u::u::u::u::u::u::u::u::u::u::u::u::u::u::u::u::u::u::u::u::u::u::u::u::u::u::u::[])∧aC H (⟨v12,2,Hn.map Fx⟩::⟨.ptr FB FC 0 0,2,[.agg [.int .i64 a1.Fz,.int .i64 a1.To]]⟩::F)) (fun Io GC=> ?_) (fun s H hq=> ?_)
 ·refine C0 fun HA F5=> ?_;refine DE gC S7 (fun x s H=>match x with|(FM,FO)=> ∃HT:AV,bG HT∧s=(.fz (a0.map Fx)::u::u:: .ptr FB FC 0 0::u::HT:: .int .i64 FO::u::u::u::u::u::u::u::u::u::u::u::u::u::u::u::u::u::u::u::u::u::u::u::u::u::u::u::u::u::u::u::u::u::u::u::u::u::u::u::u::u::u::u::u::u::u::u::u::u::u::u::u::u::u::u::u::u::u::u::u::u::u::u::u::u::[])∧aC H (⟨HT,2,FM.map Fx⟩::⟨.ptr FB FC 0 0,2,[.agg [.int .i64 a1.Fz,.int .i64 a1.To]]⟩::F)) ⟨_,Bn,rfl,(hS.DT 2)⟩ (fun x Qm s H h S8 hi HR Gl=> ?_)
  obtain ⟨FM,FO⟩:=x;try dsimp only at hi
  obtain ⟨HT,Qn,rfl,hS⟩:=hi;simp only [Lg] at h;refine CZ fun NZ Jj=> ?_;refine CZ fun M3 HS=> ?_;obtain ⟨S9,h,S_⟩:=Option.bind_eq_some_iff.1 h;refine DI gC (fun s H=> ∃Lh:Bool,S9=(Lh)∧s=(.fz (a0.map Fx)::u::u:: .ptr FB FC 0 0::u::HT:: .int .i64 FO::u::u::u::u::u::u::u::u::u::u::u::u::u:: .bool Lh::u::u::u::u::u::u::u::u::u::u::u::u::u::u::u::u::u::u::u::u::u::u::u::u::u::u::u::u::u::u::u::u::u::u::u::u::u::u::u::u::u::u::u::u::u::u::u::u::u::u::u::[])∧aC H (⟨HT,2,FM.map Fx⟩::⟨.ptr FB FC 0 0,2,[.agg [.int .i64 a1.Fz,.int .i64 a1.To]]⟩::F)) (fun Jo GI=> ?_) (fun s H hq=> ?_)
  ·refine CZ fun Jl GL=> ?_;refine Dj gC (by kernel_rfl) ?_
   try simp only [W,Fv,Nat.reduceAdd]
   refine D4 h (fun hc h=> ?_) (fun hc h=> ?_)
   ·try simp only [W,Fv,hc]
    refine Dv rfl rfl rfl (fun _=>rfl) h fun HZ X1 h=> ?_;try simp only [W,Fv,F3,reduceIte,Nat.reduceAdd,Nat.reduceBEq,hS.var 1 rfl]
    refine C6 GL ?_;refine EQ (s' :=(.fz (a0.map Fx)::u::u:: .ptr FB FC 0 0::u::HT:: .int .i64 FO::u::u::u::u::u::u::u::u::u::u::u::u::u:: .bool (decide (HZ.To<a1.Fz))::u::u::u::u::u::u::u::u::u::u::u::u::u::u::u::u::u::u::u::u::u::u::u::u::u::u::u::u::u::u::u::u::u::u::u::u::u::u::u::u::u::u::u::u::u::u::u::u::u::u::u::[])) rfl ?_
    exact DJ GI ⟨_,(Option.some.inj h).symm,rfl,hS⟩
   ·try simp only [W,hc]
    refine C6 GL ?_;refine EQ (s' :=(.fz (a0.map Fx)::u::u:: .ptr FB FC 0 0::u::HT:: .int .i64 FO::u::u::u::u::u::u::u::u::u::u::u::u::u:: .bool false::u::u::u::u::u::u::u::u::u::u::u::u::u::u::u::u::u::u::u::u::u::u::u::u::u::u::u::u::u::u::u::u::u::u::u::u::u::u::u::u::u::u::u::u::u::u::u::u::u::u::u::[])) rfl ?_
    exact DJ GI ⟨_,(Option.some.inj h).symm,rfl,hS⟩
  ·obtain ⟨Lh,FI,rfl,hS⟩:=hq;obtain rfl:=FI.symm;replace h:=S_;try dsimp only at h
   refine C6 HS ?_;refine C4 ?_;simp only [W];refine Dg h (fun hc h=> ?_) (fun hc h=> ?_)
   ·refine C1 ?_;refine C6 Jj ?_;refine C0 fun Me If=> ?_;refine CZ fun SU Ov=> ?_;refine Dh gC ?_;try simp only [W,Fv,Nat.reduceAdd]
    refine Dv rfl rfl rfl (fun _=>rfl) h fun NS X2 h=> ?_;try simp only [W,Fv,F3,reduceIte,Nat.reduceAdd,Nat.reduceLeDiff]
    refine DB (el:=([NS]:List Span).map Fx) hS rfl rfl rfl rfl rfl rfl rfl fun v33 H Ta hS=> ?_;try simp only [W,Fv]
    refine DS (l:=FM) (c:=Fx) 1 hS rfl Qn rfl rfl rfl (hS.iK 0 rfl Ta) (fun _=>rfl) rfl h fun L3 H Hg OA hm h hS=> ?_;try simp only [W]
    refine C6 Ov ?_;refine Dh gC ?_;try simp only [W,Fv,Nat.reduceAdd]
    refine C_ If ?_;exact DF Gl h ⟨_,OA,rfl,(hS.D0 3 [1,2] (by decide))⟩
   ·refine C3 ?_;refine C8 Jj ?_;try obtain rfl:=Option.some.inj h
    obtain rfl:=S8 _ rfl;have h:(some (FM,FO):Option ((List Span)×Int))=some (FM,FO):=rfl;refine DG Gl ?_;refine Da F5 ?_;exact DJ GC ⟨_,_,(Option.some.inj h).symm,_,Qn,rfl,hS⟩
 ·obtain ⟨Hn,FY,rfl,v12,Tb,rfl,hS⟩:=hq;replace h:=g21;try dsimp only at h
  refine C6 G7 ?_;refine CZ fun Nb IU=> ?_;obtain ⟨Tc,Td,Te⟩:=Option.bind_eq_some_iff.1 h;refine DI gC (fun s H=> ∃Hu:Int,∃Hh:Int,∃Hi:Int,Tc=(Hu,Hh,Hi)∧s=(.fz (a0.map Fx)::u::u:: .ptr FB FC 0 0::u::v12:: .int .i64 Hu::u::u::u::u::u::u::u::u::u::u::u::u::u::u::u::u::u::u::u::u::u::u::u::u::u::u::u::u::u::u::u::u::u::u::u::u::u::u::u::u::u::u::u::u::u::u::u::u::u::u::u::u::u::u::u::u::u::u::u::u::u::u::u::u::u::[])∧aC H (⟨v12,2,Hn.map Fx⟩::⟨.ptr FB FC 0 0,2,[.agg [.int .i64 Hh,.int .i64 Hi]]⟩::F)) (fun Sj On=> ?_) (fun s H hq=> ?_)
  ·refine C0 fun Tf OB=> ?_;refine DE gC Td (fun x s H=>match x with|(Gp,Gz,GW)=>s=(.fz (a0.map Fx)::u::u:: .ptr FB FC 0 0::u::v12:: .int .i64 Gp::u::u::u::u::u::u::u::u::u::u::u::u::u::u::u::u::u::u::u::u::u::u::u::u::u::u::u::u::u::u::u::u::u::u::u::u::u::u::u::u::u::u::u::u::u::u::u::u::u::u::u::u::u::u::u::u::u::u::u::u::u::u::u::u::u::[])∧aC H (⟨v12,2,Hn.map Fx⟩::⟨.ptr FB FC 0 0,2,[.agg [.int .i64 Gz,.int .i64 GW]]⟩::F)) ⟨rfl,hS⟩ (fun x X3 s H h Tg hi Th Ni=> ?_)
   obtain ⟨Gp,Gz,GW⟩:=x;try dsimp only at hi
   obtain ⟨rfl,hS⟩:=hi;simp only [Li] at h;refine CZ fun Ti Nj=> ?_;refine CZ fun X4 Tj=> ?_;obtain ⟨Tk,h,Tl⟩:=Option.bind_eq_some_iff.1 h;refine DI gC (fun s H=> ∃Lj:Bool,Tk=(Lj)∧s=(.fz (a0.map Fx)::u::u:: .ptr FB FC 0 0::u::v12:: .int .i64 Gp::u::u::u::u::u::u::u::u::u::u::u::u::u::u::u::u::u::u::u::u::u::u::u::u::u::u::u::u::u::u::u::u::u::u::u::u:: .bool Lj::u::u::u::u::u::u::u::u::u::u::u::u::u::u::u::u::u::u::u::u::u::u::u::u::u::u::u::u::[])∧aC H (⟨v12,2,Hn.map Fx⟩::⟨.ptr FB FC 0 0,2,[.agg [.int .i64 Gz,.int .i64 GW]]⟩::F)) (fun Qh Jq=> ?_) (fun s H hq=> ?_)
   ·refine CZ fun Qf Ig=> ?_;refine Dj gC (by kernel_rfl) ?_
    try simp only [W,Fv,Nat.reduceAdd]
    refine D4 h (fun hc h=> ?_) (fun hc h=> ?_)
    ·try simp only [W,Fv,hc]
     refine Dv rfl rfl rfl (fun _=>rfl) h fun MD Ot h=> ?_;try simp only [W,Fv,F3,reduceIte,Nat.reduceAdd,Nat.reduceBEq,hS.var 1 rfl]
     refine C6 Ig ?_;refine EQ (s' :=(.fz (a0.map Fx)::u::u:: .ptr FB FC 0 0::u::v12:: .int .i64 Gp::u::u::u::u::u::u::u::u::u::u::u::u::u::u::u::u::u::u::u::u::u::u::u::u::u::u::u::u::u::u::u::u::u::u::u::u:: .bool (decide (MD.Fz≤GW))::u::u::u::u::u::u::u::u::u::u::u::u::u::u::u::u::u::u::u::u::u::u::u::u::u::u::u::u::[])) rfl ?_
     exact DJ Jq ⟨_,(Option.some.inj h).symm,rfl,hS⟩
    ·try simp only [W,hc]
     refine C6 Ig ?_;refine EQ (s' :=(.fz (a0.map Fx)::u::u:: .ptr FB FC 0 0::u::v12:: .int .i64 Gp::u::u::u::u::u::u::u::u::u::u::u::u::u::u::u::u::u::u::u::u::u::u::u::u::u::u::u::u::u::u::u::u::u::u::u::u:: .bool false::u::u::u::u::u::u::u::u::u::u::u::u::u::u::u::u::u::u::u::u::u::u::u::u::u::u::u::u::[])) rfl ?_
     exact DJ Jq ⟨_,(Option.some.inj h).symm,rfl,hS⟩
   ·obtain ⟨Lj,FI,rfl,hS⟩:=hq;obtain rfl:=FI.symm;replace h:=Tl;try dsimp only at h
    refine C6 Tj ?_;refine C4 ?_;simp only [W];refine Dg h (fun hc h=> ?_) (fun hc h=> ?_)
    ·refine C1 ?_;refine C6 Nj ?_;refine C0 fun Tm OC=> ?_;refine CZ fun Tn OD=> ?_;refine D6 gC [(17,[])] (by kernel_rfl) rfl (by kernel_rfl) ?_
     try simp only [W,Fv,reduceIte,Nat.reduceAdd,Nat.reduceBEq,hS.var 1 rfl,jl,l7,Nat.reduceEqDiff]
     refine Dv rfl rfl rfl (fun _=>rfl) h fun Ho X5 h=> ?_;try simp only [W,Fv,F3,Nat.reduceAdd,Nat.reduceBEq]
     refine Ev (bT:=[[.sc]]) (ys:=[.int .i64 Gz,.int .i64 Ho.Fz]) h rfl (by rfl) fun Jg Tp h=>⟨.int .i64 Jg,PZ Tp (aC.nil _) fun H hS=>En rfl (Ek rfl (Ej rfl)),⟨rfl,rfl,fun _=>rfl⟩,?_⟩
     try simp only [W,Fv,Nat.reduceAdd,Nat.reduceBEq,hS.var 1 rfl]
     refine Dv rfl rfl rfl (fun _=>rfl) h fun NT X6 h=> ?_;try simp only [W,Fv,F3,Nat.reduceAdd,Nat.reduceBEq]
     refine Ev (bT:=[[.sc]]) (ys:=[.int .i64 GW,.int .i64 NT.To]) h rfl (by rfl) fun Lk Tq h=>⟨.int .i64 Lk,S5 Tq (aC.nil _) fun H hS=>En rfl (Ek rfl (Ej rfl)),⟨rfl,rfl,fun _=>rfl⟩,?_⟩
     try simp only [W,Fv]
     refine D5 rfl rfl rfl rfl rfl ?_;try simp only [W]
     refine Ds (a:= .agg [.int .i64 Jg,.int .i64 Lk]) (y' := .agg [.int .i64 Jg,.int .i64 Lk]) 1 hS rfl rfl rfl rfl rfl rfl rfl rfl fun H hS=> ?_
     try simp only [W]
     refine C6 OD ?_;refine Dh gC ?_;try simp only [W,Fv,Nat.reduceAdd]
     refine C_ OC ?_;exact DF Ni h ⟨rfl,hS⟩
    ·refine C3 ?_;refine C8 Nj ?_;try obtain rfl:=Option.some.inj h
     obtain rfl:=Tg _ rfl;have h:(some (Gp,Gz,GW):Option (Int×Int×Int))=some (Gp,Gz,GW):=rfl;refine DG Ni ?_;refine Da OB ?_;exact DJ On ⟨_,_,_,(Option.some.inj h).symm,rfl,hS⟩
  ·obtain ⟨Hu,Hh,Hi,rfl,rfl,hS⟩:=hq;replace h:=Te;try dsimp only at h
   refine C6 IU ?_;refine CZ fun Ts Nk=> ?_;refine Dh gC ?_;try simp only [W,Fv,reduceIte,Nat.reduceAdd,Nat.reduceLeDiff,hS.var 1 rfl]
   refine DB (el:=([(⟨Hh,Hi⟩:Span)]:List Span).map Fx) hS rfl rfl rfl rfl rfl rfl rfl fun v72 H Tt hS=> ?_;try simp only [W,Fv]
   refine DS (l:=Hn) (c:=Fx) 1 hS rfl Tb rfl rfl rfl (hS.iK 0 rfl Tt) (fun _=>rfl) rfl h fun v75 H ID Tu hm h hS=> ?_;try simp only [W]
   refine C6 Nk ?_;refine CZ fun Tv OE=> ?_;refine Dh gC ?_;try simp only [W,Fv,Nat.reduceAdd]
   refine DQ rfl rfl rfl (fun _=>rfl) h fun GX Tw h=> ?_;try simp only [W,Fv]
   refine DS (l:=ID) (c:=Fx) 1 hS rfl Tu rfl rfl rfl rfl (fun _=>rfl) rfl h fun v80 H Ph Tx hm h hS=> ?_;try simp only [W]
   refine C6 OE ?_;refine C2 ?_;refine Dd Fy rfl ?_;try obtain rfl:=Option.some.inj h
   exact hP _ Tx _ (hS.D0 3 [1] (by decide))
theorem Ty {a0:FD} {a1:Part} {r:(FD×Int×Bool)} (h:ME a0 a1=some r) {F:List It} {H:J} (hS:aC H (F)) {P:AV→J→Prop} (hP: ∀OF:AV,bG OF→ ∀H',aC H' (⟨OF,2,r.1.Has.map Fx⟩::F)→P (.aA [.agg [.int .i64 r.1.Id,.int .i64 r.1.Fw,.str r.1.Text,OF],.int .i64 r.2.1,.bool r.2.2]) H'):aq C 105 [.agg [.int .i64 a0.Id,.int .i64 a0.Fw,.str a0.Text,.fz (a0.Has.map Fx)],.agg [.int .i64 a1.Id,.int .i64 a1.At,.int .i64 a1.Fw,.str a1.Text]] H P:=by
 refine Dk gC (res:=[.cell 4 55,.tmp 5,.tmp 6]) (n:=64) rfl rfl rfl rfl fun K0 Fy=> ?_;simp only [W,Nat.reduceSub,Nat.reduceAdd,List.replicate];unfold ME at h;refine CZ fun K1 FA=> ?_;refine Dh gC ?_;try simp only [W,Nat.reduceAdd]
 refine Dq hS rfl rfl rfl rfl fun FB FC H hS=> ?_;try simp only [W]
 refine Dq hS rfl rfl rfl rfl fun Ga Gb H hS=> ?_;try simp only [W]
 refine Dr hS rfl rfl fun Gi Gj H hS=> ?_;try simp only [W]
 refine C6 FA ?_;refine CZ fun K8 F4=> ?_;refine Dh gC ?_;try simp only [W,Fv,Nat.reduceAdd,Nat.reduceBEq,hS.var 2 rfl]
 refine DN hS rfl rfl rfl rfl rfl rfl rfl h fun v10 H GV HB hb h hS=> ?_;try simp only [W]
 refine C6 F4 ?_;refine CZ fun Ku GY=> ?_;refine Dh gC ?_;try simp only [W,Nat.reduceAdd]
 refine C6 GY ?_;refine CZ fun IL Gw=> ?_;refine CZ fun IM Gh=> ?_;refine Dh gC ?_;simp only [List.dropLast];try simp only [W,Fv,Nat.reduceAdd,Nat.reduceBEq,hS.var 2 rfl]
 refine C6 Gh ?_;obtain ⟨Qm,Tz,N8⟩:=Option.bind_eq_some_iff.1 h;refine DI gC (fun s H=> ∃Gg:List Int,∃Lr:Int,Qm=(Gg,Lr)∧s=(u::u:: .ptr FB FC 0 0:: .ptr Ga Gb 0 0:: .ptr Gi Gj 0 0::u::u::v10:: .int .i64 Lr::u::u::u::u::u::u::u::u::u::u::u::u::u::u::u::u::u::u::u::u::u::u::u::u::u::u::u::u::u::u::u::u::u::u::u::u::u::u::u::u::u::u::u::u::u::u::u::u::u::u::u::u::u::u::u::[])∧aC H (⟨v10,1,Gg.map (AV.int .u8)⟩::⟨.ptr FB FC 0 0,4,[.agg [.int .i64 a0.Id,.int .i64 a0.Fw,.str a0.Text,.fz (a0.Has.map Fx)]]⟩::⟨.ptr Ga Gb 0 0,4,[.agg [.int .i64 a1.Id,.int .i64 a1.At,.int .i64 a1.Fw,.str a1.Text]]⟩::⟨.ptr Gi Gj 0 0,4,[.agg [.int .i64 0,.int .i64 0,.str ([]),.nil]]⟩::F)) (fun NZ Jj=> ?_) (fun s H hq=> ?_)
 ·refine C0 fun M3 HS=> ?_;refine ET gC rfl rfl rfl (by simp) Tz (fun x s H=>match x with|(Hf,Ge,H9)=>s=(u::u:: .ptr FB FC 0 0:: .ptr Ga Gb 0 0:: .ptr Gi Gj 0 0::u::u::v10:: .int .i64 Ge::u::u::u::u::u::u::u::u::u::u::u::u::u::u::u::u::u::u::u::u::u::u::u::u::u::u::u::u::u::u::u::u::u::u::u::u::u::u::u::u::u::u::u::u::u::u::u::u::u::u::u::u::u::u::u::[])∧aC H (⟨v10,1,Hf.map (AV.int .u8)⟩::⟨.ptr FB FC 0 0,4,[.agg [.int .i64 a0.Id,.int .i64 a0.Fw,.str a0.Text,.fz (a0.Has.map Fx)]]⟩::⟨.ptr Ga Gb 0 0,4,[.agg [.int .i64 a1.Id,.int .i64 a1.At,.int .i64 a1.Fw,.str a1.Text]]⟩::⟨.ptr Gi Gj 0 0,4,[.agg [.int .i64 0,.int .i64 0,.str ([]),.nil]]⟩::F)) (fun x=>match x with|(Hf,Ge,H9)=>H9) rfl ⟨rfl,(hS.D0 4 [0,3,2,1] (by decide))⟩ (fun x P5 s H h TA hi JP Hb=> ?_)
  obtain ⟨Hf,Ge,H9⟩:=x;try dsimp only at hi
  obtain ⟨rfl,hS⟩:=hi;try dsimp only
  simp only [W];simp only [Ln] at h;refine CZ fun Jl GL=> ?_;refine Dh gC ?_;try simp only [W,Nat.reduceAdd,ER]
  refine C6 GL ?_;refine CZ fun JN G4=> ?_;refine C4 ?_;simp only [W];refine Dg h (fun hc h=> ?_) (fun hc h=> ?_)
  ·refine C1 ?_;refine C6 G4 ?_;obtain ⟨TB,h,TD⟩:=Option.bind_eq_some_iff.1 h;refine DI gC (fun s H=> ∃Gn:List Int,∃Lq:Int,TB=(Gn,Lq)∧s=(u::u:: .ptr FB FC 0 0:: .ptr Ga Gb 0 0:: .ptr Gi Gj 0 0::u::u::v10:: .int .i64 Lq::u::u::u::u::u::u::u::u::u::u::u::u::u::u::u::u::u::u::u::u::u::u::u::u::u::u::u::u::u::u::u::u::u::u::u::u::u::u::u::u::u::u::u::u::u::u::u::u::u::u::u::u::u::u::u::[])∧aC H (⟨v10,1,Gn.map (AV.int .u8)⟩::⟨.ptr FB FC 0 0,4,[.agg [.int .i64 a0.Id,.int .i64 a0.Fw,.str a0.Text,.fz (a0.Has.map Fx)]]⟩::⟨.ptr Ga Gb 0 0,4,[.agg [.int .i64 a1.Id,.int .i64 a1.At,.int .i64 a1.Fw,.str a1.Text]]⟩::⟨.ptr Gi Gj 0 0,4,[.agg [.int .i64 0,.int .i64 0,.str ([]),.nil]]⟩::F)) (fun L5 HC=> ?_) (fun s H hq=> ?_)
   ·refine C0 fun Me If=> ?_;refine CZ fun L7 HF=> ?_;refine Dh gC ?_;try simp only [W,Nat.reduceAdd,ES (l:=a1.Text) (n:=H9) (by assumption)]
    refine C6 HF ?_;refine CZ fun S3 Oz=> ?_;refine Dh gC ?_;try simp only [W,Fv,Nat.reduceAdd,Nat.reduceBEq,hS.var 1 rfl,hS.var 2 rfl]
    refine DC h fun KW Oo h=> ?_;refine Qk Oo hS fun H hS=> ?_;try simp only [W]
    refine C6 Oz ?_;obtain ⟨TE,h,TF⟩:=Option.bind_eq_some_iff.1 h;refine DI gC (fun s H=> ∃Lo:List Int,∃Lp:Int,TE=(Lo,Lp)∧s=(u::u:: .ptr FB FC 0 0:: .ptr Ga Gb 0 0:: .ptr Gi Gj 0 0::u::u::v10:: .int .i64 Lp::u::u::u::u::u::u::u::u::u::u::u::u::u::u::u::u::u::u::u::u::u::u::u::u::u::u::u::u::u::u::u::u::u::u::u::u::u::u::u::u::u::u::u::u::u::u::u::u::u::u::u::u::u::u::u::[])∧aC H (⟨v10,1,Lo.map (AV.int .u8)⟩::⟨.ptr FB FC 0 0,4,[.agg [.int .i64 a0.Id,.int .i64 a0.Fw,.str a0.Text,.fz (a0.Has.map Fx)]]⟩::⟨.ptr Ga Gb 0 0,4,[.agg [.int .i64 a1.Id,.int .i64 a1.At,.int .i64 a1.Fw,.str a1.Text]]⟩::⟨.ptr Gi Gj 0 0,4,[.agg [.int .i64 0,.int .i64 0,.str ([]),.nil]]⟩::F)) (fun TG Mi=> ?_) (fun s H hq=> ?_)
    ·refine CZ fun Ql KB=> ?_;refine C4 ?_;simp only [W];refine Dg h (fun hc h=> ?_) (fun hc h=> ?_)
     ·refine CZ fun M8 Iq=> ?_;refine D6 gC [(10,[])] (by kernel_rfl) rfl (by kernel_rfl) ?_
      try simp only [W,Fv,reduceIte,Nat.reduceAdd,Nat.reduceBEq,hS.var 2 rfl,jl,l7,Nat.reduceEqDiff]
      refine Du h fun Ik Qo h=> ?_;try simp only [W,Fv]
      refine Dw 0 hS rfl rfl rfl rfl rfl h (fun NQ Se Sf Sg Nc h Nd=> ?_) HB.ne;obtain ⟨Si,Qc,Qd⟩:=hS.elem 0 rfl Nd Nc;try simp only [W]
      refine Dx (a:= .int .u8 (Ik.toNat:Int)) (y' :=(Ik.toNat:Int)) 0 hS rfl Nd Nc rfl rfl rfl rfl rfl rfl rfl fun H hS=> ?_
      try simp only [W]
      refine C6 Iq ?_;refine Dh gC ?_;try simp only [W,Fv,Nat.reduceAdd]
      refine C6 KB ?_;refine EQ (s' :=(u::u:: .ptr FB FC 0 0:: .ptr Ga Gb 0 0:: .ptr Gi Gj 0 0::u::u::v10:: .int .i64 (IntKind.i64.wrap (Ge+1))::u::u::u::u::u::u::u::u::u::u::u::u::u::u::u::u::u::u::u::u::u::u::u::u::u::u::u::u::u::u::u::u::u::u::u::u::u::u::u::u::u::u::u::u::u::u::u::u::u::u::u::u::u::u::u::[])) rfl ?_
      exact DJ Mi ⟨_,_,(Option.some.inj h).symm,rfl,hS⟩
     ·refine C1 ?_;refine C6 KB ?_;refine EQ (s' :=(u::u:: .ptr FB FC 0 0:: .ptr Ga Gb 0 0:: .ptr Gi Gj 0 0::u::u::v10:: .int .i64 Ge::u::u::u::u::u::u::u::u::u::u::u::u::u::u::u::u::u::u::u::u::u::u::u::u::u::u::u::u::u::u::u::u::u::u::u::u::u::u::u::u::u::u::u::u::u::u::u::u::u::u::u::u::u::u::u::[])) rfl ?_
      exact DJ Mi ⟨_,_,(Option.some.inj h).symm,rfl,hS⟩
    ·obtain ⟨Lo,Lp,rfl,rfl,hS⟩:=hq;replace h:=TF;try dsimp only at h
     refine C9 If ?_;exact DJ HC ⟨_,_,(Option.some.inj h).symm,rfl,hS⟩
   ·obtain ⟨Gn,Lq,rfl,rfl,hS⟩:=hq;replace h:=TD;try dsimp only at h
    exact EU Hb h ⟨rfl,hS⟩ rfl
  ·refine C3 ?_;refine C8 G4 ?_;try obtain rfl:=Option.some.inj h
   obtain rfl:=TA _ rfl;have h:(some (Hf,Ge):Option ((List Int)×Int))=some (Hf,Ge):=rfl;refine EV Hb ?_;refine Da HS ?_;exact DJ Jj ⟨_,_,(Option.some.inj h).symm,rfl,hS⟩
 ·obtain ⟨Gg,Lr,rfl,rfl,hS⟩:=hq;replace h:=N8;try dsimp only at h
  refine C6 Gw ?_;refine CZ fun Th Ni=> ?_;refine Dh gC ?_;try simp only [W,Fv,Nat.reduceAdd,Nat.reduceBEq,hS.var 1 rfl,hS.var 2 rfl]
  refine D5 rfl rfl rfl rfl rfl ?_;try simp only [W]
  refine DC h fun JH Nf h=> ?_;refine S6 Nf hS fun v53 Mj H hS=> ?_;try simp only [W]
  refine C6 Ni ?_;refine CZ fun Ti Nj=> ?_;refine Dh gC ?_;try simp only [W,Fv,Nat.reduceAdd,Nat.reduceBEq,hS.var 2 rfl]
  refine DO rfl rfl rfl rfl rfl rfl rfl (hS.iK 1 rfl HB) (hS.Bo 1 rfl) ?_;try simp only [W,Fv]
  refine D5 rfl rfl rfl rfl (by simp only [fQ,Mj.Dy,Mj.cells];simp [E,splice,AV.cells,dP,cU]<;>rfl) ?_
  try simp only [W,Fv]
  refine Dz 0 hS rfl Mj rfl ?_;try simp only [W,Fv]
  refine Ds (a:= .agg [.int .i64 a0.Id,.int .i64 a0.Fw,.str (qF Gg),v53]) (y' := .agg [.int .i64 a0.Id,.int .i64 a0.Fw,.str (qF Gg),v53]) 4 hS rfl rfl rfl rfl rfl (by simp only [dP,List.all_cons,List.all_nil,Mj.q8];rfl) rfl rfl fun H hS=> ?_
  try simp only [W]
  refine C6 Nj ?_;refine C2 ?_;refine Dc Fy (D2 rfl rfl (hS.var 4 rfl) rfl (D3 rfl (D3 rfl rfl))) ?_;try obtain rfl:=Option.some.inj h
  exact hP _ Mj _ (hS.D0 5 [0] (by decide))
theorem Qp {a0:FD} {a1:Part} {r:(FD×Int×Bool)} (h:JJ a0 a1=some r) {F:List It} {H:J} (hS:aC H (F)) {P:AV→J→Prop} (hP: ∀v31:AV,bG v31→ ∀H',aC H' (⟨v31,2,r.1.Has.map Fx⟩::F)→P (.aA [.agg [.int .i64 r.1.Id,.int .i64 r.1.Fw,.str r.1.Text,v31],.int .i64 r.2.1,.bool r.2.2]) H'):aq C 43 [.agg [.int .i64 a0.Id,.int .i64 a0.Fw,.str a0.Text,.fz (a0.Has.map Fx)],.agg [.int .i64 a1.Id,.int .i64 a1.At,.int .i64 a1.Fw,.str a1.Text]] H P:=by
 refine Dk gC (res:=[.cell 4 55,.tmp 5,.tmp 6]) (n:=45) rfl rfl rfl rfl fun K0 Fy=> ?_;simp only [W,Nat.reduceSub,Nat.reduceAdd,List.replicate];unfold JJ at h;refine CZ fun K1 FA=> ?_;refine Dh gC ?_;try simp only [W,Nat.reduceAdd]
 refine Dq hS rfl rfl rfl rfl fun FB FC H hS=> ?_;try simp only [W]
 refine Dq hS rfl rfl rfl rfl fun Ga Gb H hS=> ?_;try simp only [W]
 refine Dr hS rfl rfl fun Gi Gj H hS=> ?_;try simp only [W]
 refine C6 FA ?_;refine CZ fun K8 F4=> ?_;refine CZ fun K9 FW=> ?_;obtain ⟨Ky,h,g12⟩:=Option.bind_eq_some_iff.1 h;refine DI gC (fun s H=> ∃FO:Bool,Ky=(FO)∧s=[u,u,.ptr FB FC 0 0,.ptr Ga Gb 0 0,.ptr Gi Gj 0 0,u,u,u,u,u,u,u,u,u,u,u,u,u,u,u,u,u,u,u,u,u,u,u,u,u,u,.bool FO,u,u,u,u,u,u,u,u,u,u,u,u,u]∧aC H (⟨.ptr FB FC 0 0,4,[.agg [.int .i64 a0.Id,.int .i64 a0.Fw,.str a0.Text,.fz (a0.Has.map Fx)]]⟩::⟨.ptr Ga Gb 0 0,4,[.agg [.int .i64 a1.Id,.int .i64 a1.At,.int .i64 a1.Fw,.str a1.Text]]⟩::⟨.ptr Gi Gj 0 0,4,[.agg [.int .i64 0,.int .i64 0,.str ([]),.nil]]⟩::F)) (fun IL Gw=> ?_) (fun s H hq=> ?_)
 ·refine CZ fun IM Gh=> ?_;refine Dh gC ?_;try simp only [W,Fv,reduceIte,Nat.reduceAdd,Nat.reduceLeDiff,hS.var 2 rfl]
  refine DC h fun HY Mh h=> ?_;refine Oy Mh hS fun H hS=> ?_;try simp only [W]
  refine D4 h (fun hc h=> ?_) (fun hc h=> ?_)
  ·try simp only [W,hc]
   refine C6 Gh ?_;refine C5 ?_;exact DJ Gw ⟨_,(Option.some.inj h).symm,rfl,(hS.D0 3 [2,1,0] (by decide))⟩
  ·try simp only [W,Fv,reduceIte,Nat.reduceAdd,Nat.reduceLeDiff,hS.var 1 rfl,hc]
   refine DC h fun IB JU h=> ?_;refine S4 JU hS fun H hS=> ?_;try simp only [W,reduceIte,Bool.false_eq_true]
   refine D4 h (fun hc h=> ?_) (fun hc h=> ?_)
   ·try simp only [W,hc]
    refine C6 Gh ?_;refine C5 ?_;exact DJ Gw ⟨_,(Option.some.inj h).symm,rfl,(hS.D0 3 [2,1,0] (by decide))⟩
   ·try simp only [W,Fv,reduceIte,Nat.reduceAdd,Nat.reduceBEq,Bool.false_eq_true,hS.var 2 rfl,hS.var 1 rfl,hc]
    refine D4 h (fun hc h=> ?_) (fun hc h=> ?_)
    ·try simp only [W,hc]
     refine C6 Gh ?_;refine C5 ?_;exact DJ Gw ⟨_,(Option.some.inj h).symm,rfl,(hS.D0 3 [2,1,0] (by decide))⟩
    ·try simp only [W,Fv,reduceIte,Nat.reduceAdd,Nat.reduceBEq,Bool.false_eq_true,hS.var 2 rfl,hS.var 1 rfl,hc]
     refine C6 Gh ?_;refine C5 ?_;exact DJ Gw ⟨_,(Option.some.inj h).symm,rfl,(hS.D0 3 [2,1,0] (by decide))⟩
 ·obtain ⟨FO,FI,rfl,hS⟩:=hq;obtain rfl:=FI.symm;replace h:=g12;try dsimp only at h
  refine C6 FW ?_;refine C4 ?_;simp only [W];refine Dg h (fun hc h=> ?_) (fun hc h=> ?_)
  ·refine CZ fun HA F5=> ?_;refine Dh gC ?_;try simp only [W,Fv,Nat.reduceAdd]
   refine D5 rfl rfl rfl rfl rfl ?_;try simp only [W]
   refine Ds (a:= .agg [.int .i64 0,.int .i64 0,.str ([]),.nil]) (y' := .agg [.int .i64 0,.int .i64 0,.str ([]),.nil]) 2 hS rfl rfl rfl rfl rfl rfl rfl rfl fun H hS=> ?_
   try simp only [W]
   refine C6 F5 ?_;refine C2 ?_;refine C7 F4 ?_;refine Dc Fy (D2 rfl rfl (hS.var 2 rfl) rfl (D3 rfl (D3 rfl rfl))) ?_;try obtain rfl:=Option.some.inj h
   exact hP _ Bn _ ((hS.DT 2).D0 4 [0] (by decide))
  ·refine C1 ?_;refine C6 F4 ?_;refine CZ fun HR Gl=> ?_;refine Dh gC ?_;try simp only [W,Fv,reduceIte,Nat.reduceAdd,Nat.reduceLeDiff,hS.var 0 rfl,hS.var 1 rfl]
   refine DC h fun Ja Kw h=> ?_;obtain ⟨Gt,FL,G5⟩:=Ja;try dsimp only at h
   refine Ty Kw hS fun v23 Jp H hS=> ?_;try simp only [W]
   refine Dr hS rfl rfl fun X7 X8 H hS=> ?_;try simp only [W]
   refine Ds (a:= .agg [.int .i64 Gt.Id,.int .i64 Gt.Fw,.str Gt.Text,v23]) (y' := .agg [.int .i64 Gt.Id,.int .i64 Gt.Fw,.str Gt.Text,v23]) 0 hS rfl rfl rfl rfl rfl (by simp only [dP,List.all_cons,List.all_nil,Jp.q8];rfl) rfl rfl fun H hS=> ?_
   try simp only [W]
   refine C6 Gl ?_;refine CZ fun Jo GI=> ?_;refine CZ fun Jl GL=> ?_;refine Dh gC ?_;try simp only [W,Nat.reduceAdd]
   refine C6 GL ?_;refine C4 ?_;simp only [W];refine Dg h (fun hc h=> ?_) (fun hc h=> ?_)
   ·refine CZ fun JN G4=> ?_;refine Dh gC ?_;try simp only [W,Fv,Nat.reduceAdd]
    refine D5 rfl rfl rfl rfl rfl ?_;try simp only [W]
    refine Ds (a:= .agg [.int .i64 0,.int .i64 0,.str ([]),.nil]) (y' := .agg [.int .i64 0,.int .i64 0,.str ([]),.nil]) 4 hS rfl rfl rfl rfl rfl rfl rfl rfl fun H hS=> ?_
    try simp only [W]
    refine C6 G4 ?_;refine C2 ?_;refine C7 GI ?_;refine Dc Fy (D2 rfl rfl (hS.var 4 rfl) rfl (D3 rfl (D3 rfl rfl))) ?_;try obtain rfl:=Option.some.inj h
    exact hP _ Bn _ ((hS.DT 2).D0 6 [0] (by decide))
   ·refine C1 ?_;refine C6 GI ?_;refine CZ fun Me If=> ?_;refine Dh gC ?_;try simp only [W,Fv,reduceIte,Nat.reduceAdd,Nat.reduceLeDiff,hS.var 0 rfl]
    refine Ds (a:= .agg [.int .i64 Gt.Id,.int .i64 Gt.Fw,.str Gt.Text,v23]) (y' := .agg [.int .i64 Gt.Id,.int .i64 Gt.Fw,.str Gt.Text,v23]) 4 hS rfl rfl rfl rfl rfl (by simp only [dP,List.all_cons,List.all_nil,Jp.q8];rfl) rfl rfl fun H hS=> ?_
    try simp only [W]
    refine C6 If ?_;refine C2 ?_;refine Dc Fy (D2 rfl rfl (hS.var 4 rfl) rfl (D3 rfl (D3 rfl rfl))) ?_;try obtain rfl:=Option.some.inj h
    exact hP _ Jp _ (hS.D0 5 [1] (by decide))
end Go.Hm
