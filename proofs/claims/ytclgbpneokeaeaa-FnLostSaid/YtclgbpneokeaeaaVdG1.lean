import Derived.Test.YtclgbpneokeaeaaVdF
import Derived.Test.YtclgbpneokeaeaaProg
import Derived.Test.YtclgbpneokeaeaaVaG
import Derived.KernelRfl
open Go Go.VS
set_option maxRecDepth 8000
set_option maxHeartbeats 4000000
namespace Go.GB
def Tz (x:EW):AV:= .agg [.fz (x.Code.map (AV.int .u8)),.int .i64 x.At,.int .u64 x.Ft]
def El (x:Span):AV:= .agg [.int .i64 x.Em,.int .i64 x.To]
def TA (x:EB):AV:= .agg [.int .i64 x.Next,.fz (x.Es.map El),.fz (x.Ep.map (AV.int .i64))]
def E:aI:=fun t=>match t with
 |3=>some {sz:=1,agg:=false,zero:=[AV.int IntKind.i64 0],bytes:=8,au:=UD.it IntKind.i64,kA:=true}
 |4=>some {sz:=1,agg:=false,zero:=[AV.bool false],bytes:=1,au:=UD.bl,kA:=true}
 |5=>some {sz:=1,agg:=false,zero:=[AV.int IntKind.u8 0],bytes:=1,au:=UD.it IntKind.u8,kA:=true}
 |22=>some {sz:=1,agg:=false,zero:=[AV.nil],bytes:=24,au:=UD.sl 5,kA:=true}
 |23=>some {sz:=1,agg:=false,zero:=[AV.nil],bytes:=24,au:=UD.sl 3,kA:=true}
 |53=>some {sz:=1,agg:=false,zero:=[AV.nil],bytes:=24,au:=UD.sl 109,kA:=true}
 |78=>some {sz:=1,agg:=false,zero:=[AV.dy],bytes:=8,au:=UD.pt,kA:=true}
 |79=>some {sz:=1,agg:=false,zero:=[AV.int IntKind.u64 0],bytes:=8,au:=UD.it IntKind.u64,kA:=true}
 |81=>some {sz:=3,agg:=true,zero:=[AV.nil,AV.int IntKind.i64 0,AV.int IntKind.u64 0],bytes:=40,au:=UD.st [(0,22),(1,3),(2,79)],kA:=true}
 |86=>some {sz:=1,agg:=false,zero:=[AV.undef],bytes:=8,au:=UD.ot,kA:=true}
 |109=>some {sz:=2,agg:=true,zero:=[AV.int IntKind.i64 0,AV.int IntKind.i64 0],bytes:=16,au:=UD.st [(0,3),(1,3)],kA:=true}
 |116=>some {sz:=3,agg:=true,zero:=[AV.int IntKind.i64 0,AV.nil,AV.nil],bytes:=56,au:=UD.st [(0,3),(1,53),(2,23)],kA:=true}
 |121=>some {sz:=1,agg:=false,zero:=[AV.nil],bytes:=24,au:=UD.sl 4,kA:=true}
 |136=>some {sz:=1,agg:=false,zero:=[AV.undef],bytes:=8,au:=UD.ot,kA:=true}
 |144=>some {sz:=1,agg:=false,zero:=[AV.undef],bytes:=8,au:=UD.ot,kA:=true}
 |182=>some {sz:=1,agg:=false,zero:=[AV.nil],bytes:=24,au:=UD.sl 53,kA:=true}
 |_=>none
def gq:FuncId→kC:=fun f=>match f with
 |6=>{b6:=[[.sc]],loops:=[(0,{keep:=[1,6,7,11,83,84,85]}),(2,{keep:=[1,6,7,17,97,98,99]}),(4,{keep:=[1,6,7,17,20]})],blocks:=[(0,[1,6,7]),(3,[1,6,7,17,97,98,99]),(2,[1,6,7,17]),(4,[1])],nL:=[(4,[],[2]),(5,[],[2])],fI:=[(8,[],some [1,6,7,8,11,12,79]),(16,[],some [1,6,7,11,83,84,85,95]),(29,[],some [1,6,7,17,20,123]),(34,[],some [21,22,23,144])],fz:=[(32,[(1,[([127,21,125],[.sl [.sc]])])])],xi:=[(80,[1]),(105,[1,6,7,17,97,98,99])]}
 |18=>{b6:=[[.sc]],loops:=[(0,{keep:=[0,1,12,13]})],blocks:=[(0,[])]}
 |27=>{b6:=[[.sc]],loops:=[(0,{keep:=[1,7,8,9]})],blocks:=[(0,[])]}
 |49=>{b6:=[[.sc],[.sl [.sc]]]}
 |50=>{b6:=[[.sl [.sc]],[.sc]],loops:=[(0,{keep:=[6,8,29,30,31]})],blocks:=[(0,[8])],fI:=[(2,[],some [1,6,27])],fz:=[(1,[(6,[([18],[.sc,.sl [.sc,.sc],.sl [.sc]])])]),(8,[(6,[([41],[.sl [.sc,.sc]])])])]}
 |51=>{b6:=[[.sl [.sc]],[.sc]],loops:=[(0,{keep:=[6,8,35,36,37]}),(2,{keep:=[6,8,35,36,37,56,57,58]}),(4,{keep:=[17,67,68,69]})],blocks:=[(2,[6,8,35,36,37]),(0,[8]),(5,[17,67,68,69]),(4,[17])],nL:=[(8,[],[6])],fI:=[(2,[],some [0,1,6,32])],xi:=[(74,[17,67,68,69])]}
 |52=>{b6:=[[.sc],[.sc]],loops:=[(0,{keep:=[4,5,11,12,13]})],blocks:=[(0,[4])]}
 |53=>{b6:=[[.sc],[.sc]],loops:=[(0,{keep:=[4,5,11,12,13]})],blocks:=[(0,[4])]}
 |54=>{b6:=[[.sl [.sc]]],loops:=[(0,{keep:=[4,5]})],blocks:=[(0,[4])]}
 |55=>{b6:=[[.sl [.sc,.sc]],[.sc]],loops:=[(0,{keep:=[4,11,12,13]})],blocks:=[(0,[4])],nL:=[(9,[],[1])],fI:=[(2,[([2],[.sl [.sc,.sc]])],none)],fz:=[(9,[(2,[([26],[.sl [.sc,.sc]])])])]}
 |56=>{b6:=[[.sl [.sc,.sc]],[.sc]],loops:=[(0,{keep:=[4,10,11,12]})],blocks:=[(0,[4])],fI:=[(2,[([2],[.sl [.sc,.sc]])],none)],fz:=[(7,[(5,[([16,4],[.sl [.sc,.sc]])])]),(9,[(1,[([23,4],[.sl [.sc,.sc]])])])]}
 |57=>{b6:=[[.sc]],loops:=[(0,{keep:=[0,1,12,13]})],blocks:=[(0,[])]}
 |58=>{b6:=[[.sc],[.sc]]}
 |60=>{b6:=[[.sc]],xi:=[(11,[1,5])]}
 |61=>{b6:=[[.sc]]}
 |62=>{b6:=[[.sc]]}
 |65=>{b6:=[[.sc]]}
 |88=>{b6:=[]}
 |89=>{b6:=[[.sl [.sc]]]}
 |90=>{b6:=[[.sc]]}
 |91=>{b6:=[[.sc]]}
 |95=>{b6:=[[.sc]]}
 |100=>{b6:=[[.sc]]}
 |101=>{b6:=[[.sc]]}
 |110=>{b6:=[[.sc]],loops:=[(0,{keep:=[1,7,8,9]})],blocks:=[(0,[])],fI:=[(4,[],some [1,7,8,9,22])]}
 |111=>{b6:=[[.sl [.sc]]],loops:=[(0,{keep:=[0,1,5,6]}),(2,{keep:=[0,5,7]})],blocks:=[(1,[0,1,5,6]),(0,[0,5]),(2,[0,5])],fI:=[(8,[],some [0,5,7,31]),(15,[],some [0,5,69])],fz:=[(16,[(9,[([78],[.sl [.sc]])])])],xi:=[(18,[0,1,5,6]),(69,[5])]}
 |112=>{b6:=[[.sc,.sl [.sc,.sc],.sl [.sc]],[.sc]]}
 |113=>{b6:=[[.sc]],loops:=[(0,{keep:=[0,1,7,8,9]})],blocks:=[(0,[])],fI:=[(4,[],some [0,1,7,8,9,25])]}
 |114=>{b6:=[[.sc,.sl [.sc,.sc],.sl [.sc]],[.sl [.sc]],[.sl [.sc]],[.sc]],loops:=[(0,{keep:=[2,4,8,10,11,41,42]}),(2,{keep:=[4,10,11,13,14,80,81,82]})],blocks:=[(1,[2,4,8,10,11,41,42]),(0,[2,4,8,10,11]),(3,[4,10,11,13,14,80,81,82]),(2,[4,10,11,13])],nL:=[(13,[7,10],[5]),(16,[],[0])],fI:=[(1,[],some [1,2,4,26]),(10,[],some [2,4,8,10,11,12,41,42,54])],fz:=[(2,[(1,[([27],[.sc,.sl [.sc,.sc],.sl [.sc]])])]),(5,[(1,[([37],[.sc,.sl [.sc,.sc],.sl [.sc]])])]),(24,[(3,[([103],[.sc,.sl [.sc,.sc],.sl [.sc]])])])],xi:=[(54,[2,4,8,10,11,41,42]),(71,[4,10,11,13]),(89,[4,10,11,13,14,80,81,82])]}
 |115=>{b6:=[[.sc,.sl [.sc,.sc],.sl [.sc]],[.sc]]}
 |116=>{b6:=[[.sc]],loops:=[(0,{keep:=[0,1,7,8,9]})],blocks:=[(0,[])],fI:=[(4,[],some [0,1,7,8,9,25])]}
 |117=>{b6:=[[.sc,.sl [.sc,.sc],.sl [.sc]],[.sl [.sc]],[.sl [.sc]],[.sc]],loops:=[(0,{keep:=[2,4,8,9,10,11]}),(2,{keep:=[2,4,8,9,10,12,14]})],blocks:=[(1,[2,4,8,9,10,11]),(0,[2,4,8,9,10]),(3,[2,4,8,9,10,12,14]),(2,[4,8,9,10])],nL:=[(1,[8],[5]),(21,[7],[])],fI:=[(6,[],some [2,4,8,9,10,11,39]),(17,[],some [2,4,8,9,10,12,14,15,77]),(19,[],some [2,4,8,9,10,12,14,91])],xi:=[(39,[2,4,8,9,10,11]),(48,[2,4,8,9,10,12]),(77,[2,4,8,9,10,12,14,15]),(91,[2,4,8,9,10,12,14])]}
 |118=>{b6:=[[.sl [.sc,.sc]],[.sc]],fI:=[(2,[([2],[.sl [.sc,.sc]])],none)]}
 |119=>{b6:=[[.sl [.sc,.sc]]],loops:=[(0,{keep:=[4,13,14,15]})],blocks:=[(1,[4,13,14,15]),(0,[4])],nL:=[(8,[12],[])],fI:=[(7,[],some [4,6,7,13,14,15,33])]}
 |120=>{b6:=[[.sl [.sc,.sc]]],loops:=[(0,{keep:=[0,3,5,6]}),(2,{keep:=[0,3,5,6]})],blocks:=[(0,[0,3,5,6]),(2,[0,3,5,6])],nL:=[(7,[17],[])],fI:=[(3,[],some [0,3,5,6,20]),(6,[],some [0,3,5,6,43])]}
 |121=>{b6:=[[.sl [.sc,.sc]],[.sc]],fI:=[(2,[([2],[.sl [.sc,.sc]])],none)]}
 |122=>{b6:=[[.sc]],loops:=[(0,{keep:=[0,8,9,10]})],blocks:=[(0,[])],fI:=[(6,[],some [0,8,9,10,32])]}
 |123=>{b6:=[[.sc]],loops:=[(0,{keep:=[3,6,7,8]})],blocks:=[(0,[3])]}
 |124=>{b6:=[[.sc]],xi:=[(13,[0,3])]}
 |125=>{b6:=[[.sc]],loops:=[(0,{keep:=[0,1,7,8]})],blocks:=[(0,[])]}
 |126=>{b6:=[[.sc]],loops:=[(0,{keep:=[0,1,7,8]})],blocks:=[(0,[])]}
 |132=>{b6:=[[.sc]]}
 |133=>{b6:=[[.sl [.sc,.sc]]]}
 |134=>{b6:=[[.sc]]}
 |135=>{b6:=[[.sc]]}
 |138=>{b6:=[[.sc]]}
 |139=>{b6:=[[.sc]],loops:=[(0,{keep:=[1,18,19,20]})],blocks:=[(0,[])],fI:=[(1,[],some [1,16]),(6,[],some [1,18,19,20,50])]}
 |140=>{b6:=[[.sl [.sc,.sc]],[.sc]],nL:=[(3,[],[3,4])],fI:=[(1,[],some [0,1,13]),(2,[([4],[.sl [.sc,.sc]])],none)],fz:=[(3,[(5,[([18],[.sl [.sc,.sc]])])])]}
 |141=>{b6:=[[.sl [.sc]]],loops:=[(0,{keep:=[0,1,5,6]})],blocks:=[(1,[0,1,5,6]),(0,[0,5])],xi:=[(29,[0,1,5,6])]}
 |142=>{b6:=[[.sl [.sc]]]}
 |143=>{b6:=[[.sc]]}
 |144=>{b6:=[[.sl [.sc]]],loops:=[(0,{keep:=[0,3,9,10]})],blocks:=[(1,[0,3,9,10]),(0,[3])],fI:=[(5,[],some [0,3,4,9,10,28])],xi:=[(28,[0,3,9,10])]}
 |145=>{b6:=[[.sc]],loops:=[(0,{keep:=[1,7,8,9]})],blocks:=[(0,[])]}
 |146=>{b6:=[[.sl [.sc,.sc]]],loops:=[(0,{keep:=[5,11,12,13]})],blocks:=[(0,[5])],nL:=[(5,[],[2])]}
 |147=>{b6:=[]}
 |168=>{b6:=[[.sc]],loops:=[(0,{keep:=[0,1,7,8]})],blocks:=[(0,[])]}
 |170=>{b6:=[[.sl [.sc,.sc]]],loops:=[(0,{keep:=[0,3,9,10,11]}),(2,{keep:=[6,25,26,27]})],blocks:=[(1,[0,3,9,10,11]),(0,[0,3]),(2,[6])],xi:=[(20,[0,3,9,10,11])]}
 |184=>{b6:=[[.sl [.sc,.sc]]],xi:=[(6,[0,1]),(16,[0])]}
 |_=>{}
noncomputable def code:FuncId→Option Func:=fun f=>match f with
 |6=>some Go.Proofs.Try.f6
 |18=>some Go.Proofs.Try.f18
 |27=>some Go.Proofs.Try.f27
 |49=>some Go.Proofs.Try.f49
 |50=>some Go.Proofs.Try.f50
 |51=>some Go.Proofs.Try.f51
 |52=>some Go.Proofs.Try.f52
 |53=>some Go.Proofs.Try.f53
 |54=>some Go.Proofs.Try.f54
 |55=>some Go.Proofs.Try.f55
 |56=>some Go.Proofs.Try.f56
 |57=>some Go.Proofs.Try.f57
 |58=>some Go.Proofs.Try.f58
 |60=>some Go.Proofs.Try.f60
 |61=>some Go.Proofs.Try.f61
 |62=>some Go.Proofs.Try.f62
 |65=>some Go.Proofs.Try.f65
 |90=>some Go.Proofs.Try.f90
 |91=>some Go.Proofs.Try.f91
 |95=>some Go.Proofs.Try.f95
 |100=>some Go.Proofs.Try.f100
 |101=>some Go.Proofs.Try.f101
 |110=>some Go.Proofs.Try.f110
 |111=>some Go.Proofs.Try.f111
 |112=>some Go.Proofs.Try.f112
 |113=>some Go.Proofs.Try.f113
 |114=>some Go.Proofs.Try.f114
 |115=>some Go.Proofs.Try.f115
 |116=>some Go.Proofs.Try.f116
 |117=>some Go.Proofs.Try.f117
 |118=>some Go.Proofs.Try.f118
 |119=>some Go.Proofs.Try.f119
 |120=>some Go.Proofs.Try.f120
 |121=>some Go.Proofs.Try.f121
 |122=>some Go.Proofs.Try.f122
 |123=>some Go.Proofs.Try.f123
 |124=>some Go.Proofs.Try.f124
 |125=>some Go.Proofs.Try.f125
 |126=>some Go.Proofs.Try.f126
 |132=>some Go.Proofs.Try.f132
 |134=>some Go.Proofs.Try.f134
 |135=>some Go.Proofs.Try.f135
 |138=>some Go.Proofs.Try.f138
 |139=>some Go.Proofs.Try.f139
 |140=>some Go.Proofs.Try.f140
 |141=>some Go.Proofs.Try.f141
 |143=>some Go.Proofs.Try.f143
 |144=>some Go.Proofs.Try.f144
 |145=>some Go.Proofs.Try.f145
 |146=>some Go.Proofs.Try.f146
 |168=>some Go.Proofs.Try.f168
 |170=>some Go.Proofs.Try.f170
 |184=>some Go.Proofs.Try.f184
 |_=>none
def Mh:List (FuncId×Nat×Nat):=[(133,2,16),(142,1,8)]
def qo:List (FuncId×FuncId×Nat):=[(147,148,2)]
def nF:List FuncId:=[]
def lO:List FuncId:=[88]
def kids:List FuncId:=[89]
def Hi:nH:=⟨Mh,qo,nF,lO,kids,[]⟩
noncomputable def C:aH:=⟨E,gq,code,ky Hi⟩
theorem gC:Go.VS.Good C:=Ee (I:=Hi) rfl
theorem QV:C.E=E:=rfl
theorem E3:E 3=some {sz:=1,agg:=false,zero:=[AV.int IntKind.i64 0],bytes:=8,au:=UD.it IntKind.i64,kA:=true}:=rfl
theorem E4:E 4=some {sz:=1,agg:=false,zero:=[AV.bool false],bytes:=1,au:=UD.bl,kA:=true}:=rfl
theorem E5:E 5=some {sz:=1,agg:=false,zero:=[AV.int IntKind.u8 0],bytes:=1,au:=UD.it IntKind.u8,kA:=true}:=rfl
theorem QW:E 22=some {sz:=1,agg:=false,zero:=[AV.nil],bytes:=24,au:=UD.sl 5,kA:=true}:=rfl
theorem QX:E 23=some {sz:=1,agg:=false,zero:=[AV.nil],bytes:=24,au:=UD.sl 3,kA:=true}:=rfl
theorem QY:E 53=some {sz:=1,agg:=false,zero:=[AV.nil],bytes:=24,au:=UD.sl 109,kA:=true}:=rfl
theorem QZ:E 78=some {sz:=1,agg:=false,zero:=[AV.dy],bytes:=8,au:=UD.pt,kA:=true}:=rfl
theorem Q0:E 79=some {sz:=1,agg:=false,zero:=[AV.int IntKind.u64 0],bytes:=8,au:=UD.it IntKind.u64,kA:=true}:=rfl
theorem Q1:E 81=some {sz:=3,agg:=true,zero:=[AV.nil,AV.int IntKind.i64 0,AV.int IntKind.u64 0],bytes:=40,au:=UD.st [(0,22),(1,3),(2,79)],kA:=true}:=rfl
theorem Q2:E 86=some {sz:=1,agg:=false,zero:=[AV.undef],bytes:=8,au:=UD.ot,kA:=true}:=rfl
theorem Q3:E 109=some {sz:=2,agg:=true,zero:=[AV.int IntKind.i64 0,AV.int IntKind.i64 0],bytes:=16,au:=UD.st [(0,3),(1,3)],kA:=true}:=rfl
theorem Q4:E 116=some {sz:=3,agg:=true,zero:=[AV.int IntKind.i64 0,AV.nil,AV.nil],bytes:=56,au:=UD.st [(0,3),(1,53),(2,23)],kA:=true}:=rfl
theorem Q5:E 121=some {sz:=1,agg:=false,zero:=[AV.nil],bytes:=24,au:=UD.sl 4,kA:=true}:=rfl
theorem Q6:E 136=some {sz:=1,agg:=false,zero:=[AV.undef],bytes:=8,au:=UD.ot,kA:=true}:=rfl
theorem Q7:E 144=some {sz:=1,agg:=false,zero:=[AV.undef],bytes:=8,au:=UD.ot,kA:=true}:=rfl
theorem Q8:E 182=some {sz:=1,agg:=false,zero:=[AV.nil],bytes:=24,au:=UD.sl 53,kA:=true}:=rfl
theorem EE:type_of% (And.intro @QV<|And.intro @E3<|And.intro @E4<|And.intro @E5<|And.intro @QW<|And.intro @QX<|And.intro @QY<|And.intro @QZ<|And.intro @Q0<|And.intro @Q1<|And.intro @Q2<|And.intro @Q3<|And.intro @Q4<|And.intro @Q5<|And.intro @Q6<|And.intro @Q7 @Q8):=And.intro @QV<|And.intro @E3<|And.intro @E4<|And.intro @E5<|And.intro @QW<|And.intro @QX<|And.intro @QY<|And.intro @QZ<|And.intro @Q0<|And.intro @Q1<|And.intro @Q2<|And.intro @Q3<|And.intro @Q4<|And.intro @Q5<|And.intro @Q6<|And.intro @Q7 @Q8
theorem Q9 (x:EW):Tz x= .agg [.fz (x.Code.map (AV.int .u8)),.int .i64 x.At,.int .u64 x.Ft]:=rfl
theorem Q_ (x:EB):TA x= .agg [.int .i64 x.Next,.fz (x.Es.map El),.fz (x.Ep.map (AV.int .i64))]:=rfl
theorem Ra (x:Span):El x= .agg [.int .i64 x.Em,.int .i64 x.To]:=rfl
theorem EN:type_of% (And.intro @Q9<|And.intro @Q_<|And.intro @Ra<|And.intro @DJ @uQ):=And.intro @Q9<|And.intro @Q_<|And.intro @Ra<|And.intro @DJ @uQ
theorem Rb {a0:EW} {i0:Nat} {w0:Nat} {r:(Int×EW)} (h:J4 a0=some r) {F:List It} {H:J} (hS:ay H (⟨.ptr i0 w0 0 0,3,[.agg [.fz (a0.Code.map (AV.int .u8)),.int .i64 a0.At,.int .u64 a0.Ft]]⟩::F)) {P:AV→J→Prop} (hP: ∀H',ay H' (⟨.ptr i0 w0 0 0,3,[.agg [.fz (r.2.Code.map (AV.int .u8)),.int .i64 r.2.At,.int .u64 r.2.Ft]]⟩::F)→P (.int .i64 r.1) H'):aq C 124 [.ptr i0 w0 0 0] H P:=by
 refine Cp gC (res:=[.tmp 2]) (n:=62) rfl rfl rfl rfl fun K0 En=> ?_;simp only [W,Nat.reduceSub,Nat.reduceAdd,List.replicate];unfold J4 at h;refine B5 fun K1 Er=> ?_;refine Cm gC ?_;try simp only [W,Nat.reduceAdd]
 refine Cb Er ?_;refine B5 fun K2 zY=> ?_;refine Cm gC ?_;try simp only [W,Nat.reduceAdd]
 refine Cb zY ?_;refine B5 fun K3 EG=> ?_;refine B5 fun K4 EI=> ?_;refine Co gC (by kernel_rfl) ?_
 try simp only [W,EE,Nat.reduceAdd,Nat.reduceBEq,hS.var 0 rfl]
 refine Cb EI ?_;obtain ⟨TB,h,g7⟩:=Option.bind_eq_some_iff.1 h;refine CH gC (fun s H=> ∃ED:Int,TB=(ED)∧s=(.ptr i0 w0 0 0::u::u:: .int .i64 ED::u::u::u::u::u::u::u::u::u::u::u::u::u::u::u::u::u::u::u::u::u::u::u::u::u::u::u::u::u::u::u::u::u::u::u::u::u::u::u::u::u::u::u::u::u::u::u::u::u::u::u::u::u::u::u::u::u::u::[])∧ay H (⟨.ptr i0 w0 0 0,3,[.agg [.fz (a0.Code.map (AV.int .u8)),.int .i64 a0.At,.int .u64 a0.Ft]]⟩::F)) (fun K8 EO=> ?_) (fun s H hq=> ?_)
 ·refine B5 fun K9 EK=> ?_;refine B_ ?_;simp only [W];refine Cl h (fun hc h=> ?_) (fun hc h=> ?_)
  ·refine Co gC (by kernel_rfl) ?_
   try simp only [W,EE,Nat.reduceAdd,Nat.reduceBEq,hS.var 0 rfl]
   refine Cv rfl rfl rfl (fun _=>rfl) h fun Ht NI h=> ?_;try simp only [W,EE]
   refine Cb EK ?_;refine DR (s' :=(.ptr i0 w0 0 0::u::u:: .int .i64 (IntKind.i64.wrap Ht)::u::u::u::u::u::u::u::u::u::u::u::u::u::u::u::u::u::u::u::u::u::u::u::u::u::u::u::u::u::u::u::u::u::u::u::u::u::u::u::u::u::u::u::u::u::u::u::u::u::u::u::u::u::u::u::u::u::u::[])) rfl ?_
   exact CI EO ⟨_,(Option.some.inj h).symm,rfl,hS⟩
  ·refine B7 ?_;refine Cb EK ?_;refine DR (s' :=(.ptr i0 w0 0 0::u::u:: .int .i64 0::u::u::u::u::u::u::u::u::u::u::u::u::u::u::u::u::u::u::u::u::u::u::u::u::u::u::u::u::u::u::u::u::u::u::u::u::u::u::u::u::u::u::u::u::u::u::u::u::u::u::u::u::u::u::u::u::u::u::[])) rfl ?_
   exact CI EO ⟨_,(Option.some.inj h).symm,rfl,hS⟩
 ·obtain ⟨ED,Eo,rfl,hS⟩:=hq;obtain rfl:=Eo.symm;replace h:=g7;try dsimp only at h
  refine Cb EG ?_;refine B5 fun Iv FN=> ?_;refine Cm gC ?_;try simp only [W,EE,Nat.reduceAdd,Nat.reduceBEq,hS.var 0 rfl]
  refine Ct (a:= .int .i64 (IntKind.i64.wrap (a0.At+1))) (y' := .agg [.fz (a0.Code.map (AV.int .u8)),.int .i64 (IntKind.i64.wrap (a0.At+1)),.int .u64 a0.Ft]) 0 hS rfl rfl rfl rfl rfl rfl rfl rfl fun H hS=> ?_
  try simp only [W]
  refine Cb FN ?_;refine B5 fun H7 Fm=> ?_;refine Cm gC ?_;try simp only [W,EE,Nat.reduceAdd,Nat.reduceBEq,hS.var 0 rfl]
  refine Ct (a:= .int .u64 (IntKind.u64.wrap ((IntKind.u64.wrap ((IntKind.u64.wrap (a0.Ft*6364136223846793005))+(IntKind.u64.wrap ED)))+1442695040888963407))) (y' := .agg [.fz (a0.Code.map (AV.int .u8)),.int .i64 (IntKind.i64.wrap (a0.At+1)),.int .u64 (IntKind.u64.wrap ((IntKind.u64.wrap ((IntKind.u64.wrap (a0.Ft*6364136223846793005))+(IntKind.u64.wrap ED)))+1442695040888963407))]) 0 hS rfl rfl rfl rfl rfl rfl rfl rfl fun H hS=> ?_
  try simp only [W]
  refine Cb Fm ?_;refine B5 fun GJ Fo=> ?_;refine B5 fun Hz Fe=> ?_;refine Co gC (by kernel_rfl) ?_
  try simp only [W,EE,Nat.reduceAdd,Nat.reduceBEq,hS.var 0 rfl]
  refine Cb Fe ?_;refine B_ ?_;simp only [W];refine Cl h (fun hc h=> ?_) (fun hc h=> ?_)
  ·refine B5 fun G5 E8=> ?_;refine Cm gC ?_;try simp only [W,Nat.reduceAdd]
   refine Cb E8 ?_;refine B8 ?_;refine Cc Fo ?_;refine Cj En rfl ?_;try obtain rfl:=Option.some.inj h
   exact hP _ hS
  ·refine B7 ?_;refine Cb Fo ?_;refine B5 fun F8 EQ=> ?_;refine Cm gC ?_;try simp only [W,EE,Nat.reduceAdd,Nat.reduceBEq,hS.var 0 rfl]
   rw [CL _ _ _ rfl,Option.map_some,tv];try simp only [W,EE]
   refine Cb EQ ?_;refine B8 ?_;refine Cj En rfl ?_;try obtain rfl:=Option.some.inj h
   exact hP _ hS
theorem I9 {a0:EW} {a1:Int} {i0:Nat} {w0:Nat} {r:(Int×EW)} (h:Hd a0 a1=some r) {F:List It} {H:J} (hS:ay H (⟨.ptr i0 w0 0 0,3,[.agg [.fz (a0.Code.map (AV.int .u8)),.int .i64 a0.At,.int .u64 a0.Ft]]⟩::F)) {P:AV→J→Prop} (hP: ∀H',ay H' (⟨.ptr i0 w0 0 0,3,[.agg [.fz (r.2.Code.map (AV.int .u8)),.int .i64 r.2.At,.int .u64 r.2.Ft]]⟩::F)→P (.int .i64 r.1) H'):aq C 60 [.ptr i0 w0 0 0,.int .i64 a1] H P:=by
 refine Cp gC (res:=[.tmp 4]) (n:=20) rfl rfl rfl rfl fun K0 En=> ?_;simp only [W,Nat.reduceSub,Nat.reduceAdd,List.replicate];unfold Hd at h;refine B5 fun K1 Er=> ?_;refine Cm gC ?_;try simp only [W,Nat.reduceAdd]
 refine Cb Er ?_;refine B5 fun K2 zY=> ?_;refine B5 fun K3 EG=> ?_;refine Cm gC ?_;try simp only [W,EE,Nat.reduceAdd]
 refine Cb EG ?_;refine B_ ?_;simp only [W];refine Cl h (fun hc h=> ?_) (fun hc h=> ?_)
 ·refine B5 fun K4 EI=> ?_;refine Cm gC ?_;try simp only [W,Nat.reduceAdd]
  refine Cb EI ?_;refine B8 ?_;refine Cc zY ?_;refine Cj En rfl ?_;try obtain rfl:=Option.some.inj h
  exact hP _ hS
 ·refine B7 ?_;refine Cb zY ?_;refine B5 fun K5 EV=> ?_;refine Cm gC ?_;try simp only [W,Nat.reduceAdd]
  refine CC h fun GX H8 h=> ?_;obtain ⟨EF,EP⟩:=GX;try dsimp only at h
  refine Rb H8 hS fun H hS=> ?_;try simp only [W]
  refine Cb EV ?_;refine B5 fun K9 EK=> ?_;refine B5 fun I_ FX=> ?_;refine Cm gC ?_;try simp only [W,EE,Nat.reduceAdd]
  refine Cb FX ?_;obtain ⟨JF,h,g16⟩:=Option.bind_eq_some_iff.1 h;refine CH gC (fun s H=> ∃EJ:Int,∃E6:List Int,∃EC:Int,∃EX:Int,JF=(EJ,E6,EC,EX)∧s=[u,.int .i64 a1,u,u,u,.int .i64 EJ,u,u,u,u,u,u,u,u,u,u,u,u,u,u]∧ay H (⟨.ptr i0 w0 0 0,3,[.agg [.fz (E6.map (AV.int .u8)),.int .i64 EC,.int .u64 EX]]⟩::F)) (fun FY EH=> ?_) (fun s H hq=> ?_)
  ·refine B5 fun Gc ET=> ?_;refine B_ ?_;simp only [W];refine Cl h (fun hc h=> ?_) (fun hc h=> ?_)
   ·refine Cm gC ?_;try simp only [W,EE,Nat.reduceAdd]
    refine CC h fun FK H9 h=> ?_;obtain ⟨Gq,FE⟩:=FK;try dsimp only at h
    refine Rb H9 hS fun H hS=> ?_;try simp only [W,EE]
    refine Cb ET ?_;refine Ca ?_;exact CI EH ⟨_,_,_,_,(Option.some.inj h).symm,rfl,hS⟩
   ·refine B7 ?_;refine Cb ET ?_;refine Ca ?_;exact CI EH ⟨_,_,_,_,(Option.some.inj h).symm,rfl,hS⟩
  ·obtain ⟨EJ,E6,EC,EX,rfl,rfl,hS⟩:=hq;replace h:=g16;try dsimp only at h
   refine Cb EK ?_;refine B5 fun Iw FL=> ?_;refine Cm gC ?_;try simp only [W,EE,Nat.reduceAdd]
   refine w_num _ h fun Hu aaA h=> ?_;try simp only [W]
   refine Cb FL ?_;refine B8 ?_;refine Cj En rfl ?_;try obtain rfl:=Option.some.inj h
   exact hP _ hS
theorem O2 {a0:EW} {a1:Int} {i0:Nat} {w0:Nat} {r:(Bool×EW)} (h:IT a0 a1=some r) {F:List It} {H:J} (hS:ay H (⟨.ptr i0 w0 0 0,3,[.agg [.fz (a0.Code.map (AV.int .u8)),.int .i64 a0.At,.int .u64 a0.Ft]]⟩::F)) {P:AV→J→Prop} (hP: ∀H',ay H' (⟨.ptr i0 w0 0 0,3,[.agg [.fz (r.2.Code.map (AV.int .u8)),.int .i64 r.2.At,.int .u64 r.2.Ft]]⟩::F)→P (.bool r.1) H'):aq C 62 [.ptr i0 w0 0 0,.int .i64 a1] H P:=by
 refine Cp gC (res:=[.tmp 4]) (n:=9) rfl rfl rfl rfl fun K0 En=> ?_;simp only [W,Nat.reduceSub,Nat.reduceAdd,List.replicate];unfold IT at h;refine B5 fun K1 Er=> ?_;refine Cm gC ?_;try simp only [W,Nat.reduceAdd]
 refine Cb Er ?_;refine B5 fun K2 zY=> ?_;refine Cm gC ?_;try simp only [W,Nat.reduceAdd]
 refine CC h fun b3 kS h=> ?_;obtain ⟨EM,GW⟩:=b3;try dsimp only at h
 refine I9 kS hS fun H hS=> ?_;try simp only [W,EE]
 refine Cb zY ?_;refine B8 ?_;refine Cj En rfl ?_;try obtain rfl:=Option.some.inj h
 exact hP _ hS
theorem Rc {a0:Int} {a1:Int} {r:(Int)} (h:J5 a0 a1=some r) {F:List It} {H:J} (hS:ay H (F)) {P:AV→J→Prop} (hP: ∀H',ay H' (F)→P (.int .i64 r) H'):aq C 95 [.int .i64 a0,.int .i64 a1] H P:=by
 refine Cp gC (res:=[.tmp 4]) (n:=10) rfl rfl rfl rfl fun K0 En=> ?_;simp only [W,Nat.reduceSub,Nat.reduceAdd,List.replicate];unfold J5 at h;refine B5 fun K1 Er=> ?_;refine Cm gC ?_;try simp only [W,Nat.reduceAdd]
 refine Cb Er ?_;refine B5 fun K2 zY=> ?_;refine B5 fun K3 EG=> ?_;refine Cm gC ?_;try simp only [W,EE,Nat.reduceAdd]
 refine Cb EG ?_;refine B_ ?_;simp only [W];refine Cl h (fun hc h=> ?_) (fun hc h=> ?_)
 ·refine B5 fun K4 EI=> ?_;refine Cm gC ?_;try simp only [W,Nat.reduceAdd]
  refine Cb EI ?_;refine B8 ?_;refine Cc zY ?_;refine Cj En rfl ?_;try obtain rfl:=Option.some.inj h
  exact hP _ hS
 ·refine B7 ?_;refine Cb zY ?_;refine B5 fun K5 EV=> ?_;refine Cm gC ?_;try simp only [W,Nat.reduceAdd]
  refine Cb EV ?_;refine B8 ?_;refine Cj En rfl ?_;try obtain rfl:=Option.some.inj h
  exact hP _ hS
theorem TD {a0:EW} {a1:List Int} {i0:Nat} {w0:Nat} {r:(Int×EW)} (h:J6 a0 a1=some r) {F:List It} {H:J} (hS:ay H (⟨.ptr i0 w0 0 0,3,[.agg [.fz (a0.Code.map (AV.int .u8)),.int .i64 a0.At,.int .u64 a0.Ft]]⟩::F)) {P:AV→J→Prop} (hP: ∀H',ay H' (⟨.ptr i0 w0 0 0,3,[.agg [.fz (r.2.Code.map (AV.int .u8)),.int .i64 r.2.At,.int .u64 r.2.Ft]]⟩::F)→P (.int .i64 r.1) H'):aq C 91 [.ptr i0 w0 0 0,.fz (a1.map (AV.int .i64))] H P:=by
 refine Cp gC (res:=[.tmp 4]) (n:=12) rfl rfl rfl rfl fun K0 En=> ?_;simp only [W,Nat.reduceSub,Nat.reduceAdd,List.replicate];unfold J6 at h;refine B5 fun K1 Er=> ?_;refine Cm gC ?_;try simp only [W,Nat.reduceAdd]
 refine Cb Er ?_;refine B5 fun K2 zY=> ?_;refine Cm gC ?_;try simp only [W,EE,Nat.reduceAdd]
 refine CC h fun b3 kS h=> ?_;obtain ⟨EM,GW⟩:=b3;try dsimp only at h
 refine I9 kS hS fun H hS=> ?_;try simp only [W,EE]
 refine Cv rfl rfl rfl (fun _=>rfl) h fun GX H8 h=> ?_;try simp only [W,EE]
 refine Cb zY ?_;refine B8 ?_;refine Cj En rfl ?_;try obtain rfl:=Option.some.inj h
 exact hP _ hS
theorem Re {a0:EW} {a1:Int} {i0:Nat} {w0:Nat} {r:(List Int×EW)} (h:J8 a0 a1=some r) {F:List It} {H:J} (hS:ay H (⟨.ptr i0 w0 0 0,3,[.agg [.fz (a0.Code.map (AV.int .u8)),.int .i64 a0.At,.int .u64 a0.Ft]]⟩::F)) {P:AV→J→Prop} (hP: ∀v138:AV,bp v138→ ∀H',ay H' (⟨v138,1,r.1.map (AV.int .i64)⟩::⟨.ptr i0 w0 0 0,3,[.agg [.fz (r.2.Code.map (AV.int .u8)),.int .i64 r.2.At,.int .u64 r.2.Ft]]⟩::F)→P (v138) H'):aq C 111 [.ptr i0 w0 0 0,.int .i64 a1] H P:=by
 refine Cp gC (res:=[.tmp 4]) (n:=82) rfl rfl rfl rfl fun K0 En=> ?_;simp only [W,Nat.reduceSub,Nat.reduceAdd,List.replicate];unfold J8 at h;refine B5 fun K1 Er=> ?_;refine Cm gC ?_;try simp only [W,Nat.reduceAdd]
 refine Cb Er ?_;refine B5 fun K2 zY=> ?_;refine Cm gC ?_;try simp only [W,Nat.reduceAdd]
 refine Cb zY ?_;refine B5 fun K3 EG=> ?_;refine B5 fun K4 EI=> ?_;refine Cm gC ?_;try simp only [W,Nat.reduceAdd]
 refine Cb EI ?_;obtain ⟨Mi,O3,g24⟩:=Option.bind_eq_some_iff.1 h;refine CH gC (fun s H=> ∃E6:List Int,∃EX:List Int,∃KO:Int,∃Fl:Int,Mi=(E6,EX,KO,Fl)∧ ∃F6:AV,bp F6∧s=(.ptr i0 w0 0 0::u::u::u::u::F6::u::u::u::u::u::u::u::u::u::u::u::u::u::u::u::u::u::u::u::u::u::u::u::u::u::u::u::u::u::u::u::u::u::u::u::u::u::u::u::u::u::u::u::u::u::u::u::u::u::u::u::u::u::u::u::u::u::u::u::u::u::u::u::u::u::u::u::u::u::u::u::u::u::u::u::u::[])∧ay H (⟨F6,1,E6.map (AV.int .i64)⟩::⟨.ptr i0 w0 0 0,3,[.agg [.fz (EX.map (AV.int .u8)),.int .i64 KO,.int .u64 Fl]]⟩::F)) (fun Gw E9=> ?_) (fun s H hq=> ?_)
 ·refine B6 fun GK E_=> ?_;refine CD gC O3 (fun x s H=>match x with|(ED,E7,ER,Et,EJ)=> ∃v6:AV,bp v6∧s=(.ptr i0 w0 0 0:: .int .i64 a1::u::u::u::v6:: .int .i64 E7::u::u::u::u::u::u::u::u::u::u::u::u::u::u::u::u::u::u::u::u::u::u::u::u::u::u::u::u::u::u::u::u::u::u::u::u::u::u::u::u::u::u::u::u::u::u::u::u::u::u::u::u::u::u::u::u::u::u::u::u::u::u::u::u::u::u::u::u::u::u::u::u::u::u::u::[])∧ay H (⟨v6,1,ED.map (AV.int .i64)⟩::⟨.ptr i0 w0 0 0,3,[.agg [.fz (ER.map (AV.int .u8)),.int .i64 Et,.int .u64 EJ]]⟩::F)) ⟨_,nt,rfl,(hS.Au 1)⟩ (fun x O4 s H h NJ hi HA FA=> ?_)
  obtain ⟨ED,E7,ER,Et,EJ⟩:=x;try dsimp only at hi
  obtain ⟨v6,Gx,rfl,hS⟩:=hi;simp only [OK] at h;refine B5 fun Hj Fj=> ?_;refine B5 fun HB FB=> ?_;refine Cm gC ?_;try simp only [W,EE,Nat.reduceAdd]
  refine Cb FB ?_;refine B_ ?_;simp only [W];refine Cl h (fun hc h=> ?_) (fun hc h=> ?_)
  ·refine B7 ?_;refine Cb Fj ?_;refine B5 fun Gy Fa=> ?_;obtain ⟨O5,h,TE⟩:=Option.bind_eq_some_iff.1 h;refine CH gC (fun s H=> ∃Gr:List Int,∃Fq:List Int,∃FF:Int,∃GY:Int,O5=(Gr,Fq,FF,GY)∧ ∃v30:AV,bp v30∧s=(.ptr i0 w0 0 0:: .int .i64 a1::u::u::u::v30:: .int .i64 E7::u::u::u::u::u::u::u::u::u::u::u::u::u::u::u::u::u::u::u::u::u::u::u::u::u::u::u::u::u::u::u::u::u::u::u::u::u::u::u::u::u::u::u::u::u::u::u::u::u::u::u::u::u::u::u::u::u::u::u::u::u::u::u::u::u::u::u::u::u::u::u::u::u::u::u::[])∧ay H (⟨v30,1,Gr.map (AV.int .i64)⟩::⟨.ptr i0 w0 0 0,3,[.agg [.fz (Fq.map (AV.int .u8)),.int .i64 FF,.int .u64 GY]]⟩::F)) (fun O6 HO=> ?_) (fun s H hq=> ?_)
   ·refine B6 fun Hk Fs=> ?_;refine B5 fun NK HP=> ?_;refine Cm gC ?_;try simp only [W,Nat.reduceAdd]
    refine CC h fun HL Mj h=> ?_;obtain ⟨KN,He⟩:=HL;try dsimp only at h
    refine O2 Mj (hS.C2 2 [1,0] (by decide)) fun H hS=> ?_
    try simp only [W]
    refine Cb HP ?_;obtain ⟨O7,h,Kr⟩:=Option.bind_eq_some_iff.1 h;refine CH gC (fun s H=> ∃F1:List Int,O7=(F1)∧ ∃NL:AV,bp NL∧s=(.ptr i0 w0 0 0:: .int .i64 a1::u::u::u::NL:: .int .i64 E7::u::u::u::u::u::u::u::u::u::u::u::u::u::u::u::u::u::u::u::u::u::u::u::u::u::u::u::u::u::u::u::u::u::u::u::u::u::u::u::u::u::u::u::u::u::u::u::u::u::u::u::u::u::u::u::u::u::u::u::u::u::u::u::u::u::u::u::u::u::u::u::u::u::u::u::[])∧ay H (⟨NL,1,F1.map (AV.int .i64)⟩::⟨.ptr i0 w0 0 0,3,[.agg [.fz (He.Code.map (AV.int .u8)),.int .i64 He.At,.int .u64 He.Ft]]⟩::F)) (fun O8 G6=> ?_) (fun s H hq=> ?_)
    ·refine B5 fun Mk Gk=> ?_;refine B_ ?_;simp only [W];refine Cl h (fun hc h=> ?_) (fun hc h=> ?_)
     ·refine Cm gC ?_;try simp only [W,Nat.reduceAdd]
      refine CB (el:=([E7]:List Int).map (AV.int .i64)) hS rfl rfl rfl rfl rfl rfl rfl fun H_ H Ml hS=> ?_;try simp only [W,EE]
      refine CR (l:=ED) (c:=(AV.int .i64)) 2 hS rfl Gx rfl rfl rfl (hS.iu 0 rfl Ml) (fun _=>rfl) rfl h fun v51 H QB TF hm h hS=> ?_;try simp only [W]
      refine Cb Gk ?_;refine DR (s' :=(.ptr i0 w0 0 0:: .int .i64 a1::u::u::u::v51:: .int .i64 E7::u::u::u::u::u::u::u::u::u::u::u::u::u::u::u::u::u::u::u::u::u::u::u::u::u::u::u::u::u::u::u::u::u::u::u::u::u::u::u::u::u::u::u::u::u::u::u::u::u::u::u::u::u::u::u::u::u::u::u::u::u::u::u::u::u::u::u::u::u::u::u::u::u::u::u::[])) rfl ?_
      exact CI G6 ⟨_,(Option.some.inj h).symm,_,TF,rfl,(hS.C2 3 [2,1] (by decide))⟩
     ·refine B7 ?_;refine Cb Gk ?_;refine DR (s' :=(.ptr i0 w0 0 0:: .int .i64 a1::u::u::u::v6:: .int .i64 E7::u::u::u::u::u::u::u::u::u::u::u::u::u::u::u::u::u::u::u::u::u::u::u::u::u::u::u::u::u::u::u::u::u::u::u::u::u::u::u::u::u::u::u::u::u::u::u::u::u::u::u::u::u::u::u::u::u::u::u::u::u::u::u::u::u::u::u::u::u::u::u::u::u::u::u::[])) rfl ?_
      exact CI G6 ⟨_,(Option.some.inj h).symm,_,Gx,rfl,(hS.C2 2 [1,0] (by decide))⟩
    ·obtain ⟨F1,Eo,NL,TG,rfl,hS⟩:=hq;obtain rfl:=Eo.symm;replace h:=Kr;try dsimp only at h
     refine Ce Fs ?_;exact CI HO ⟨_,_,_,_,(Option.some.inj h).symm,_,TG,rfl,hS⟩
   ·obtain ⟨Gr,Fq,FF,GY,rfl,v30,O9,rfl,hS⟩:=hq;replace h:=TE;try dsimp only at h
    refine Cb Fa ?_;refine Cm gC ?_;try simp only [W,EE,Nat.reduceAdd]
    exact CE FA h ⟨_,O9,rfl,hS⟩
  ·refine B9 ?_;refine Cd Fj ?_;try obtain rfl:=Option.some.inj h
   obtain rfl:=NJ _ rfl;have h:(some (ED,ER,Et,EJ):Option ((List Int)×(List Int)×Int×Int))=some (ED,ER,Et,EJ):=rfl;refine CF FA ?_;refine Cg E_ ?_;exact CI E9 ⟨_,_,_,_,(Option.some.inj h).symm,_,Gx,rfl,hS⟩
 ·obtain ⟨E6,EX,KO,Fl,rfl,F6,HC,rfl,hS⟩:=hq;replace h:=g24;try dsimp only at h
  refine Cb EG ?_;refine B5 fun Rf JG=> ?_;refine B5 fun O_ Ja=> ?_;refine Cm gC ?_;try simp only [W,Nat.reduceAdd]
  refine CC h fun Is TJ h=> ?_;obtain ⟨IZ,HJ⟩:=Is;try dsimp only at h
  refine I9 TJ (hS.C2 2 [1,0] (by decide)) fun H hS=> ?_
  try simp only [W]
  refine Cb Ja ?_;obtain ⟨TK,TL,TM⟩:=Option.bind_eq_some_iff.1 h;refine CH gC (fun s H=> ∃Fb:List Int,∃J9:List Int,∃J_:Int,∃Ka:Int,TK=(Fb,J9,J_,Ka)∧s=(.ptr i0 w0 0 0::u::u::u::u::F6::u::u::u::u::u::u::u::u::u::u::u::u::u::u::u::u::u::u::u::u::u::u::u::u::u::u::u::u::u::u::u::u::u::u::u::u::u::u::u::u::u::u::u::u::u::u::u::u::u::u::u::u::u::u::u::u::u::u::u::u::u::u::u::u::u::u::u::u::u::u::u::u::u::u::u::u::[])∧ay H (⟨F6,1,Fb.map (AV.int .i64)⟩::⟨.ptr i0 w0 0 0,3,[.agg [.fz (J9.map (AV.int .u8)),.int .i64 J_,.int .u64 Ka]]⟩::F)) (fun Rg Mm=> ?_) (fun s H hq=> ?_)
  ·refine B6 fun TN Pa=> ?_;refine CD gC TL (fun x s H=>match x with|(FG,IU,IV,IW,IX)=>s=(.ptr i0 w0 0 0::u::u::u::u::F6::u:: .int .i64 IU::u::u::u::u::u::u::u::u::u::u::u::u::u::u::u::u::u::u::u::u::u::u::u::u::u::u::u::u::u::u::u::u::u::u::u::u::u::u::u::u::u::u::u::u::u::u::u::u::u::u::u::u::u::u::u::u::u::u::u::u::u::u::u::u::u::u::u::u::u::u::u::u::u::u::[])∧ay H (⟨F6,1,FG.map (AV.int .i64)⟩::⟨.ptr i0 w0 0 0,3,[.agg [.fz (IV.map (AV.int .u8)),.int .i64 IW,.int .u64 IX]]⟩::F)) ⟨rfl,(hS.C2 2 [1,0] (by decide))⟩ (fun x y75 s H h TO hi Rh JH=> ?_)
   obtain ⟨FG,IU,IV,IW,IX⟩:=x;try dsimp only at hi
   obtain ⟨rfl,hS⟩:=hi;simp only [OL] at h;refine B5 fun TP NM=> ?_;refine B5 fun TQ Pb=> ?_;obtain ⟨TR,h,TS⟩:=Option.bind_eq_some_iff.1 h;refine CH gC (fun s H=> ∃IY:Bool,TR=(IY)∧s=(.ptr i0 w0 0 0::u::u::u::u::F6::u:: .int .i64 IU::u::u::u::u::u::u::u::u::u::u::u::u::u::u::u::u::u::u::u::u::u::u::u:: .bool IY::u::u::u::u::u::u::u::u::u::u::u::u::u::u::u::u::u::u::u::u::u::u::u::u::u::u::u::u::u::u::u::u::u::u::u::u::u::u::u::u::u::u::u::u::u::u::u::u::u::u::[])∧ay H (⟨F6,1,FG.map (AV.int .i64)⟩::⟨.ptr i0 w0 0 0,3,[.agg [.fz (IV.map (AV.int .u8)),.int .i64 IW,.int .u64 IX]]⟩::F)) (fun K82 Ri=> ?_) (fun s H hq=> ?_)
   ·refine B5 fun K83 Rj=> ?_;refine Cm gC ?_;try simp only [W,EE,Nat.reduceAdd]
    refine C6 h (fun hc h=> ?_) (fun hc h=> ?_)
    ·try simp only [W,EE,hc]
     refine Cz 0 hS rfl HC rfl ?_;try simp only [W,EE,reduceIte]
     refine Cb Rj ?_;refine DR (s' :=(.ptr i0 w0 0 0::u::u::u::u::F6::u:: .int .i64 IU::u::u::u::u::u::u::u::u::u::u::u::u::u::u::u::u::u::u::u::u::u::u::u:: .bool (decide (1<(FG.length:Int)))::u::u::u::u::u::u::u::u::u::u::u::u::u::u::u::u::u::u::u::u::u::u::u::u::u::u::u::u::u::u::u::u::u::u::u::u::u::u::u::u::u::u::u::u::u::u::u::u::u::u::[])) rfl ?_
     exact CI Ri ⟨_,(Option.some.inj h).symm,rfl,hS⟩
    ·try simp only [W,hc]
     refine Cb Rj ?_;refine DR (s' :=(.ptr i0 w0 0 0::u::u::u::u::F6::u:: .int .i64 IU::u::u::u::u::u::u::u::u::u::u::u::u::u::u::u::u::u::u::u::u::u::u::u:: .bool false::u::u::u::u::u::u::u::u::u::u::u::u::u::u::u::u::u::u::u::u::u::u::u::u::u::u::u::u::u::u::u::u::u::u::u::u::u::u::u::u::u::u::u::u::u::u::u::u::u::u::[])) rfl ?_
     exact CI Ri ⟨_,(Option.some.inj h).symm,rfl,hS⟩
   ·obtain ⟨IY,Eo,rfl,hS⟩:=hq;obtain rfl:=Eo.symm;replace h:=TS;try dsimp only at h
    refine Cb Pb ?_;refine B_ ?_;simp only [W];refine Cl h (fun hc h=> ?_) (fun hc h=> ?_)
    ·refine B7 ?_;refine Cb NM ?_;refine B5 fun TT Pc=> ?_;refine B6 fun TU Pd=> ?_;refine B5 fun K86 TW=> ?_;refine Cm gC ?_;try simp only [W,EE,Nat.reduceAdd]
     refine Cz 0 hS rfl HC rfl ?_;try simp only [W,EE]
     refine CC h fun TX TY h=> ?_;obtain ⟨J7,QC⟩:=TX;try dsimp only at h
     refine I9 TY (hS.C2 2 [1,0] (by decide)) fun H hS=> ?_
     try simp only [W]
     refine Cb TW ?_;refine B5 fun K90 TZ=> ?_;refine Cm gC ?_;try simp only [W,EE,Nat.reduceAdd]
     refine Cz 1 hS rfl HC rfl ?_;try simp only [W,EE]
     refine CC h fun T1 T2 h=> ?_;obtain ⟨QD,Nd⟩:=T1;try dsimp only at h
     refine I9 T2 hS fun H hS=> ?_;try simp only [W,EE]
     refine CC h fun GZ Rk h=> ?_;refine Rc Rk hS fun H hS=> ?_;try simp only [W]
     refine Cb TZ ?_;refine B5 fun NN Ix=> ?_;refine Cm gC ?_;try simp only [W,EE,Nat.reduceAdd]
     refine Cw 1 hS rfl rfl rfl rfl rfl h (fun FV aaB aaC aaD Pe h T3=> ?_) HC.ne;obtain ⟨aaE,T4,T5⟩:=hS.elem 1 rfl T3 Pe;try simp only [W,EE,T4,T5]
     refine Cb Ix ?_;refine B5 fun K98 T6=> ?_;refine Cm gC ?_;try simp only [W,EE,Nat.reduceAdd]
     refine Cw 1 hS rfl rfl rfl rfl rfl h (fun Jo aaF aaG aaH T7 h T8=> ?_) HC.ne;obtain ⟨aaI,T9,T_⟩:=hS.elem 1 rfl T8 T7;try simp only [W,EE,T9,T_]
     refine Cw 1 hS rfl rfl rfl rfl rfl h (fun aaJ aaK aaL aaM Rl h Rm=> ?_) HC.ne;obtain ⟨aaN,aaO,aaP⟩:=hS.elem 1 rfl Rm Rl;try simp only [W]
     refine Cx (a:= .int .i64 Jo) (y' :=Jo) 1 hS rfl Rm Rl rfl rfl rfl rfl rfl rfl rfl fun H hS=> ?_
     try simp only [W]
     refine Cb T6 ?_;refine Cm gC ?_;try simp only [W,EE,Nat.reduceAdd]
     refine Cw 1 hS rfl rfl rfl rfl rfl h (fun aaQ aaR aaS aaT Rn h Ro=> ?_) HC.ne;obtain ⟨aaU,aaV,aaW⟩:=hS.elem 1 rfl Ro Rn;try simp only [W]
     refine Cx (a:= .int .i64 FV) (y' :=FV) 1 hS rfl Ro Rn rfl rfl rfl rfl rfl rfl rfl fun H hS=> ?_
     try simp only [W]
     refine Cf Pd ?_;refine Cb Pc ?_;refine Cm gC ?_;try simp only [W,EE,Nat.reduceAdd]
     exact CE JH h ⟨rfl,(hS.C2 2 [1,0] (by decide))⟩
    ·refine B9 ?_;refine Cd NM ?_;try obtain rfl:=Option.some.inj h
     obtain rfl:=TO _ rfl;have h:(some (FG,IV,IW,IX):Option ((List Int)×(List Int)×Int×Int))=some (FG,IV,IW,IX):=rfl;refine CF JH ?_;refine Cg Pa ?_;exact CI Mm ⟨_,_,_,_,(Option.some.inj h).symm,rfl,hS⟩
  ·obtain ⟨Fb,J9,J_,Ka,rfl,rfl,hS⟩:=hq;replace h:=TM;try dsimp only at h
   refine Cb JG ?_;refine B5 fun Rp Mn=> ?_;refine B5 fun Pf JI=> ?_;obtain ⟨Ua,h,Ub⟩:=Option.bind_eq_some_iff.1 h;refine CH gC (fun s H=> ∃GC:Bool,∃Kb:List Int,∃Kc:Int,∃F7:Int,Ua=(GC,Kb,Kc,F7)∧s=(.ptr i0 w0 0 0::u::u::u::u::F6::u::u::u::u::u::u::u::u::u::u::u::u::u::u::u::u::u::u::u::u::u::u::u::u::u::u::u::u::u::u::u::u::u::u::u::u::u::u::u::u::u::u::u::u::u::u::u::u::u::u::u::u::u::u::u::u::u::u::u::u::u::u::u:: .bool GC::u::u::u::u::u::u::u::u::u::u::u::u::[])∧ay H (⟨F6,1,Fb.map (AV.int .i64)⟩::⟨.ptr i0 w0 0 0,3,[.agg [.fz (Kb.map (AV.int .u8)),.int .i64 Kc,.int .u64 F7]]⟩::F)) (fun Uc Mo=> ?_) (fun s H hq=> ?_)
   ·refine B5 fun Rq JJ=> ?_;refine Cm gC ?_;try simp only [W,EE,Nat.reduceAdd]
    refine Cz 0 hS rfl HC rfl ?_;try simp only [W,EE]
    refine C6 h (fun hc h=> ?_) (fun hc h=> ?_)
    ·try simp only [W,hc]
     refine CC h fun Ud Ue h=> ?_;obtain ⟨OM,Nf⟩:=Ud;try dsimp only at h
     refine O2 Ue (hS.C2 2 [1,0] (by decide)) fun H hS=> ?_
     try simp only [W,reduceIte]
     refine Cb JJ ?_;refine DR (s' :=(.ptr i0 w0 0 0::u::u::u::u::F6::u::u::u::u::u::u::u::u::u::u::u::u::u::u::u::u::u::u::u::u::u::u::u::u::u::u::u::u::u::u::u::u::u::u::u::u::u::u::u::u::u::u::u::u::u::u::u::u::u::u::u::u::u::u::u::u::u::u::u::u::u::u::u:: .bool OM::u::u::u::u::u::u::u::u::u::u::u::u::[])) rfl ?_
     exact CI Mo ⟨_,_,_,_,(Option.some.inj h).symm,rfl,(hS.C2 2 [1,0] (by decide))⟩
    ·try simp only [W,hc]
     refine Cb JJ ?_;refine DR (s' :=(.ptr i0 w0 0 0::u::u::u::u::F6::u::u::u::u::u::u::u::u::u::u::u::u::u::u::u::u::u::u::u::u::u::u::u::u::u::u::u::u::u::u::u::u::u::u::u::u::u::u::u::u::u::u::u::u::u::u::u::u::u::u::u::u::u::u::u::u::u::u::u::u::u::u::u:: .bool false::u::u::u::u::u::u::u::u::u::u::u::u::[])) rfl ?_
     exact CI Mo ⟨_,_,_,_,(Option.some.inj h).symm,rfl,hS⟩
   ·obtain ⟨GC,Kb,Kc,F7,rfl,rfl,hS⟩:=hq;replace h:=Ub;try dsimp only at h
    refine Cb JI ?_;obtain ⟨Uf,h,Ug⟩:=Option.bind_eq_some_iff.1 h;refine CH gC (fun s H=> ∃KP:List Int,∃Gs:List Int,∃KQ:Int,∃KR:Int,Uf=(KP,Gs,KQ,KR)∧s=(u::u::u::u::u::F6::u::u::u::u::u::u::u::u::u::u::u::u::u::u::u::u::u::u::u::u::u::u::u::u::u::u::u::u::u::u::u::u::u::u::u::u::u::u::u::u::u::u::u::u::u::u::u::u::u::u::u::u::u::u::u::u::u::u::u::u::u::u::u::u::u::u::u::u::u::u::u::u::u::u::u::u::[])∧ay H (⟨F6,1,KP.map (AV.int .i64)⟩::⟨.ptr i0 w0 0 0,3,[.agg [.fz (Gs.map (AV.int .u8)),.int .i64 KQ,.int .u64 KR]]⟩::F)) (fun Pg Ia=> ?_) (fun s H hq=> ?_)
    ·refine B5 fun aaX Rr=> ?_;refine B_ ?_;simp only [W];refine Cl h (fun hc h=> ?_) (fun hc h=> ?_)
     ·refine Cn (fz:=[(9,[([78],[.sl [.sc]])])]) gC ?_;try simp only [W,EE,Nat.reduceAdd,Nat.reduceBEq]
      refine Cz 0 hS rfl HC rfl ?_;try simp only [W,EE,Nat.reduceAdd,Nat.reduceBEq]
      refine Cw 0 hS rfl rfl rfl rfl rfl h (fun ON aaY aaZ aa0 Uh h Ui=> ?_) HC.ne;obtain ⟨aa1,Uj,Uk⟩:=hS.elem 0 rfl Ui Uh;try simp only [W,EE,Nat.reduceAdd,Nat.reduceBEq,Uj,Uk]
      refine CB (el:=([-1,60,ON]:List Int).map (AV.int .i64)) hS rfl rfl rfl rfl rfl rfl rfl fun v130 H Ul hS=> ?_;try simp only [W,Nat.reduceAdd]
      refine CT 0 hS rfl Ul rfl (fun _ _=>by simp [aY,aO,dp]) (fun _=>rfl) fun H r6 hS=> ?_
      try simp only [W]
      refine CC h fun Um Un h=> ?_;obtain ⟨Jp,Ng⟩:=Um;try dsimp only at h
      refine TD Un (hS.C2 2 [1,0] (by decide)) fun H hS=> ?_
      try simp only [W,EE,Nat.reduceAdd,Nat.reduceBEq]
      refine Cw 1 hS rfl rfl rfl rfl rfl h (fun aa2 aa3 aa4 aa5 Rs h Rt=> ?_) HC.ne;obtain ⟨aa6,aa7,aa8⟩:=hS.elem 1 rfl Rt Rs;try simp only [W,Nat.reduceAdd,Nat.reduceBEq]
      refine Cx (a:= .int .i64 Jp) (y' :=Jp) 1 hS rfl Rt Rs rfl rfl rfl rfl rfl rfl rfl fun H hS=> ?_
      try simp only [W,Nat.reduceAdd]
      refine Cb Rr ?_;refine DR (s' :=(u::u::u::u::u::F6::u::u::u::u::u::u::u::u::u::u::u::u::u::u::u::u::u::u::u::u::u::u::u::u::u::u::u::u::u::u::u::u::u::u::u::u::u::u::u::u::u::u::u::u::u::u::u::u::u::u::u::u::u::u::u::u::u::u::u::u::u::u::u::u::u::u::u::u::u::u::u::u::u::u::u::u::[])) rfl ?_
      exact CI Ia ⟨_,_,_,_,(Option.some.inj h).symm,rfl,(hS.C2 2 [1,0] (by decide))⟩
     ·refine B7 ?_;refine Cb Rr ?_;refine DR (s' :=(u::u::u::u::u::F6::u::u::u::u::u::u::u::u::u::u::u::u::u::u::u::u::u::u::u::u::u::u::u::u::u::u::u::u::u::u::u::u::u::u::u::u::u::u::u::u::u::u::u::u::u::u::u::u::u::u::u::u::u::u::u::u::u::u::u::u::u::u::u::u::u::u::u::u::u::u::u::u::u::u::u::u::[])) rfl ?_
      exact CI Ia ⟨_,_,_,_,(Option.some.inj h).symm,rfl,hS⟩
    ·obtain ⟨KP,Gs,KQ,KR,rfl,rfl,hS⟩:=hq;replace h:=Ug;try dsimp only at h
     refine Cb Mn ?_;refine B5 fun aa9 Uo=> ?_;refine Cm gC ?_;try simp only [W,Nat.reduceAdd]
     refine Cb Uo ?_;refine B8 ?_;refine Cj En rfl ?_;try obtain rfl:=Option.some.inj h
     exact hP _ HC _ hS
theorem Uq {a0:List Int} {r:(Int×List Int)} (h:KS a0=some r) {F:List It} {H:J} (hS:ay H (F)) {P:AV→J→Prop} (hP: ∀Iy:AV,bp Iy→ ∀H',ay H' (⟨Iy,1,r.2.map (AV.int .i64)⟩::F)→P (.az [.int .i64 r.1,Iy]) H'):aq C 49 [.fz (a0.map (AV.int .u8))] H P:=by
 refine Cp gC (res:=[.tmp 2,.tmp 3]) (n:=18) rfl rfl rfl rfl fun K0 En=> ?_;simp only [W,Nat.reduceSub,Nat.reduceAdd,List.replicate];unfold KS at h;refine B5 fun K1 Er=> ?_;refine Cm gC ?_;try simp only [W,Nat.reduceAdd]
 refine Cb Er ?_;refine B5 fun K2 zY=> ?_;refine Cm gC ?_;try simp only [W,EE,Nat.reduceAdd]
 refine C7 rfl rfl rfl rfl rfl ?_;try simp only [W]
 refine Cr hS rfl rfl rfl rfl fun Ur Us H hS=> ?_;try simp only [W]
 refine Cb zY ?_;refine B5 fun K5 EV=> ?_;refine Cm gC ?_;try simp only [W,Nat.reduceAdd]
 refine CC h fun GX H8 h=> ?_;obtain ⟨EF,EP⟩:=GX;try dsimp only at h
 refine I9 H8 hS fun H hS=> ?_;try simp only [W]
 refine Cb EV ?_;refine B5 fun K9 EK=> ?_;refine Cm gC ?_;try simp only [W,Nat.reduceAdd]
 refine CC h fun Ht NI h=> ?_;obtain ⟨KT,Iq⟩:=Ht;try dsimp only at h
 refine I9 NI hS fun H hS=> ?_;try simp only [W,EE]
 refine CC h fun Fv Ph h=> ?_;obtain ⟨GD,b15⟩:=Fv;try dsimp only at h
 refine Re Ph hS fun v16 Ut H hS=> ?_;try simp only [W]
 refine Cb EK ?_;refine B8 ?_;refine Ck En rfl rfl ?_;try obtain rfl:=Option.some.inj h
 exact hP _ Ut _ (hS.C2 2 [0] (by decide))
theorem NO {a0:Int} {a1:Int} {a2:Int} {r:(Bool)} (h:I1 a0 a1 a2=some r) {F:List It} {H:J} (hS:ay H (F)) {P:AV→J→Prop} (hP: ∀H',ay H' (F)→P (.bool r) H'):aq C 65 [.int .i64 a0,.int .i64 a1,.int .i64 a2] H P:=by
 refine Cp gC (res:=[.tmp 6]) (n:=15) rfl rfl rfl rfl fun K0 En=> ?_;simp only [W,Nat.reduceSub,Nat.reduceAdd,List.replicate];unfold I1 at h;refine B5 fun K1 Er=> ?_;refine Cm gC ?_;try simp only [W,Nat.reduceAdd]
 refine Cb Er ?_;refine B5 fun K2 zY=> ?_;refine Cm gC ?_;try simp only [W,EE,Nat.reduceAdd]
 refine C6 h (fun hc h=> ?_) (fun hc h=> ?_)
 ·try simp only [W,EE,reduceIte,hc]
  refine Cb zY ?_;refine B8 ?_;refine Cj En rfl ?_;try obtain rfl:=Option.some.inj h
  exact hP _ hS
 ·try simp only [W,hc]
  refine Cb zY ?_;refine B8 ?_;refine Cj En rfl ?_;try obtain rfl:=Option.some.inj h
  exact hP _ hS
theorem Uu {a0:Int} {r:(EB×Bool)} (h:Nh a0=some r) {F:List It} {H:J} (hS:ay H (F)) {P:AV→J→Prop} (hP: ∀v9:AV,bp v9→ ∀v11:AV,bp v11→ ∀H',ay H' (⟨v9,2,r.1.Es.map El⟩::⟨v11,1,r.1.Ep.map (AV.int .i64)⟩::F)→P (.az [.agg [.int .i64 r.1.Next,v9,v11],.bool r.2]) H'):aq C 112 [.int .i64 a0] H P:=by
 refine Cp gC (res:=[.cell 2 116,.tmp 3]) (n:=10) rfl rfl rfl rfl fun K0 En=> ?_;simp only [W,Nat.reduceSub,Nat.reduceAdd,List.replicate];unfold Nh at h;refine B5 fun K1 Er=> ?_;refine Cm gC ?_;try simp only [W,Nat.reduceAdd]
 refine Cs hS rfl rfl fun Eu Ev H hS=> ?_;try simp only [W]
 refine Cb Er ?_;refine B5 fun K4 EI=> ?_;refine B5 fun K5 EV=> ?_;refine Cm gC ?_;try simp only [W,Nat.reduceAdd]
 refine CC h fun GX H8 h=> ?_;refine NO H8 hS fun H hS=> ?_;try simp only [W]
 refine Cb EV ?_;refine B_ ?_;simp only [W];refine Cl h (fun hc h=> ?_) (fun hc h=> ?_)
 ·refine B5 fun K7 EU=> ?_;refine Cm gC ?_;try simp only [W,EE,Nat.reduceAdd]
  refine C7 rfl rfl rfl rfl rfl ?_;try simp only [W]
  refine Ct (a:= .agg [.int .i64 0,.nil,.nil]) (y' := .agg [.int .i64 0,.nil,.nil]) 0 hS rfl rfl rfl rfl rfl rfl rfl rfl fun H hS=> ?_
  try simp only [W]
  refine Cb EU ?_;refine B8 ?_;refine Cc EI ?_;refine Ci En (C4 rfl rfl (hS.var 0 rfl) rfl (C5 rfl rfl)) ?_;try obtain rfl:=Option.some.inj h
  exact hP _ nt _ nt _ (((hS.Au 1).Au 2).C2 3 [0,1] (by decide))
 ·refine B7 ?_;refine Cb EI ?_;refine B5 fun K8 EO=> ?_;refine Cm gC ?_;try simp only [W,EE,Nat.reduceAdd]
  refine C7 rfl rfl rfl rfl rfl ?_;try simp only [W]
  refine Ct (a:= .agg [.int .i64 a0,.nil,.nil]) (y' := .agg [.int .i64 a0,.nil,.nil]) 0 hS rfl rfl rfl rfl rfl rfl rfl rfl fun H hS=> ?_
  try simp only [W]
  refine Cb EO ?_;refine B8 ?_;refine Ci En (C4 rfl rfl (hS.var 0 rfl) rfl (C5 rfl rfl)) ?_;try obtain rfl:=Option.some.inj h
  exact hP _ nt _ nt _ (((hS.Au 1).Au 2).C2 3 [0,1] (by decide))
theorem Uv {a0:List Int} {a1:Int} {r:(Int)} (h:Nj a0 a1=some r) {F:List It} {H:J} (hS:ay H (F)) {P:AV→J→Prop} (hP: ∀H',ay H' (F)→P (.int .i64 r) H'):aq C 126 [.fz (a0.map (AV.int .i64)),.int .i64 a1] H P:=by
 refine Cp gC (res:=[.tmp 4]) (n:=19) rfl rfl rfl rfl fun K0 En=> ?_;simp only [W,Nat.reduceSub,Nat.reduceAdd,List.replicate];unfold Nj at h;refine B5 fun K1 Er=> ?_;refine Cm gC ?_;try simp only [W,Nat.reduceAdd]
 refine Cb Er ?_;refine B5 fun K2 zY=> ?_;refine B5 fun K3 EG=> ?_;refine Cm gC ?_;try simp only [W,EE,Nat.reduceAdd]
 refine Cb EG ?_;obtain ⟨Gl,GL,g12⟩:=Option.bind_eq_some_iff.1 h;refine CH gC (fun s H=>Gl=LR.next ()∧s=[u,u,u,u,u,u,u,u,u,u,u,u,u,u,u,u,u,u,u]∧ay H (F)) (fun K7 EU=> ?_) (fun s H hq=> ?_)
 ·refine B6 fun K8 EO=> ?_;refine CD gC GL (fun x s H=>s=[.fz (a0.map (AV.int .i64)),.int .i64 a1,u,u,u,u,u,.int .i64 (a0.length:Int),.int .i64 x,u,u,u,u,u,u,u,u,u,u]∧ay H (F)) ⟨rfl,hS⟩ (fun Ez HQ s H h FO hi K9 EK=> ?_)
  skip
  try dsimp only at hi
  obtain ⟨rfl,hS⟩:=hi;simp only [Ni] at h;refine B5 fun GJ Fo=> ?_;refine Cm gC ?_;try simp only [W,EE,Nat.reduceAdd]
  refine Cb Fo ?_;refine B5 fun Hz Fe=> ?_;refine B_ ?_;simp only [W];refine Cl h (fun hc h=> ?_) (fun hc h=> ?_)
  ·refine B7 ?_;refine Cb Fe ?_;refine B5 fun G5 E8=> ?_;refine B6 fun F8 EQ=> ?_;refine B5 fun FY EH=> ?_;refine Cm gC ?_;try simp only [W,Nat.reduceAdd]
   refine Cb EH ?_;refine B5 fun Gc ET=> ?_;refine Cm gC ?_;try simp only [W,EE,Nat.reduceAdd]
   refine Cv rfl rfl rfl (fun _=>rfl) h fun FK H9 h=> ?_;try simp only [W,EE]
   refine Cb ET ?_;refine B_ ?_;simp only [W];refine Cl h (fun hc h=> ?_) (fun hc h=> ?_)
   ·refine B5 fun GK E_=> ?_;refine Cm gC ?_;try simp only [W,Nat.reduceAdd]
    refine Cb E_ ?_;refine B8 ?_;refine Ch EQ ?_;refine Cc E8 ?_;try obtain rfl:=Option.some.inj h
    obtain rfl:=FO _ rfl;have h:(some (LR.done Ez):Option (LR Unit (Int)))=some (LR.done Ez):=rfl;refine CG EK ?_;refine Ch EO ?_;try obtain rfl:=Option.some.inj h
    obtain rfl:=Option.some.inj g12;have h:(some Ez:Option (Int))=some Ez:=rfl;refine CJ EU ?_;refine Cc zY ?_;refine Cj En rfl ?_;try obtain rfl:=Option.some.inj h
    exact hP _ hS
   ·refine B7 ?_;refine Cf EQ ?_;refine Cb E8 ?_;refine Cm gC ?_;try simp only [W,EE,Nat.reduceAdd]
    exact CE EK h ⟨rfl,hS⟩
  ·refine B9 ?_;refine Cd Fe ?_;try obtain rfl:=Option.some.inj h
   obtain rfl:=FO _ rfl;have h:(some (LR.next ()):Option (LR Unit (Int)))=some (LR.next ()):=rfl
   refine CF EK ?_;refine Cg EO ?_;exact CI EU ⟨(Option.some.inj h).symm,rfl,hS⟩
 ·obtain ⟨rfl,rfl,hS⟩:=hq;replace h:=g12;try dsimp only at h
  refine Cb zY ?_;refine B5 fun Gy Fa=> ?_;refine Cm gC ?_;try simp only [W,Nat.reduceAdd]
  refine Cb Fa ?_;refine B8 ?_;refine Cj En rfl ?_;try obtain rfl:=Option.some.inj h
  exact hP _ hS
theorem Pj {a0:List Int} {a1:Int} {r:(Bool)} (h:Kd a0 a1=some r) {F:List It} {H:J} (hS:ay H (F)) {P:AV→J→Prop} (hP: ∀H',ay H' (F)→P (.bool r) H'):aq C 138 [.fz (a0.map (AV.int .i64)),.int .i64 a1] H P:=by
 refine Cp gC (res:=[.tmp 4]) (n:=9) rfl rfl rfl rfl fun K0 En=> ?_;simp only [W,Nat.reduceSub,Nat.reduceAdd,List.replicate];unfold Kd at h;refine B5 fun K1 Er=> ?_;refine Cm gC ?_;try simp only [W,Nat.reduceAdd]
 refine Cb Er ?_;refine B5 fun K2 zY=> ?_;refine Cm gC ?_;try simp only [W,Nat.reduceAdd]
 refine CC h fun b3 kS h=> ?_;refine Uv kS hS fun H hS=> ?_;try simp only [W,EE]
 refine Cb zY ?_;refine B8 ?_;refine Cj En rfl ?_;try obtain rfl:=Option.some.inj h
 exact hP _ hS
theorem Pk {a0:List Int} {a1:Int} {r:(Bool)} (h:Jq a0 a1=some r) {F:List It} {H:J} (hS:ay H (F)) {P:AV→J→Prop} (hP: ∀H',ay H' (F)→P (.bool r) H'):aq C 113 [.fz (a0.map (AV.int .i64)),.int .i64 a1] H P:=by
 refine Cp gC (res:=[.tmp 4]) (n:=27) rfl rfl rfl rfl fun K0 En=> ?_;simp only [W,Nat.reduceSub,Nat.reduceAdd,List.replicate];unfold Jq at h;refine B5 fun K1 Er=> ?_;refine Cm gC ?_;try simp only [W,Nat.reduceAdd]
 refine Cb Er ?_;refine B5 fun K2 zY=> ?_;refine B5 fun K3 EG=> ?_;refine Cm gC ?_;try simp only [W,EE,Nat.reduceAdd]
 refine Cb EG ?_;obtain ⟨Gl,GL,g12⟩:=Option.bind_eq_some_iff.1 h;refine CH gC (fun s H=>Gl=LR.next ()∧s=[u,u,u,u,u,u,u,u,u,u,u,u,u,u,u,u,u,u,u,u,u,u,u,u,u,u,u]∧ay H (F)) (fun K7 EU=> ?_) (fun s H hq=> ?_)
 ·refine B6 fun K8 EO=> ?_;refine CD gC GL (fun x s H=>s=[.fz (a0.map (AV.int .i64)),.int .i64 a1,u,u,u,u,u,.fz (a0.map (AV.int .i64)),.int .i64 (a0.length:Int),.int .i64 x,u,u,u,u,u,u,u,u,u,u,u,u,u,u,u,u,u]∧ay H (F)) ⟨rfl,hS⟩ (fun Ez HQ s H h FO hi K9 EK=> ?_)
  skip
  try dsimp only at hi
  obtain ⟨rfl,hS⟩:=hi;simp only [KU] at h;refine B5 fun GJ Fo=> ?_;refine Cm gC ?_;try simp only [W,EE,Nat.reduceAdd]
  refine Cb Fo ?_;refine B5 fun Hz Fe=> ?_;refine B_ ?_;simp only [W];refine Cl h (fun hc h=> ?_) (fun hc h=> ?_)
  ·refine B7 ?_;refine Cb Fe ?_;refine B5 fun G5 E8=> ?_;refine B6 fun F8 EQ=> ?_;refine B5 fun FY EH=> ?_;refine Cm gC ?_;try simp only [W,EE,Nat.reduceAdd]
   refine Cv rfl rfl rfl (fun _=>rfl) h fun EL NP h=> ?_;try simp only [W,EE]
   refine Cb EH ?_;refine B5 fun Gw E9=> ?_;obtain ⟨Ks,h,g22⟩:=Option.bind_eq_some_iff.1 h;refine CH gC (fun s H=> ∃Fc:Bool,Ks=(Fc)∧s=[.fz (a0.map (AV.int .i64)),.int .i64 a1,u,u,u,u,u,.fz (a0.map (AV.int .i64)),.int .i64 (a0.length:Int),.int .i64 Ez,u,u,u,u,u,u,u,u,u,u,u,u,u,u,u,.bool Fc,u]∧ay H (F)) (fun Ib FI=> ?_) (fun s H hq=> ?_)
   ·refine B5 fun GM Ff=> ?_;refine Cm gC ?_;try simp only [W,EE,Nat.reduceAdd]
    refine CC h fun Hf NQ h=> ?_;refine NO NQ hS fun H hS=> ?_;try simp only [W]
    refine C6 h (fun hc h=> ?_) (fun hc h=> ?_)
    ·try simp only [W,hc]
     refine Cb Ff ?_;refine Ca ?_;exact CI FI ⟨_,(Option.some.inj h).symm,rfl,hS⟩
    ·try simp only [W,EE,hc]
     refine CO rfl rfl rfl (fun _=>rfl) h fun HK Uw h=> ?_;try simp only [W]
     refine CC h fun FH NR h=> ?_;refine Pj NR hS fun H hS=> ?_;try simp only [W,reduceIte,Bool.false_eq_true]
     refine Cb Ff ?_;refine Ca ?_;exact CI FI ⟨_,(Option.some.inj h).symm,rfl,hS⟩
   ·obtain ⟨Fc,Eo,rfl,hS⟩:=hq;obtain rfl:=Eo.symm;replace h:=g22;try dsimp only at h
    refine Cb E9 ?_;refine B_ ?_;simp only [W];refine Cl h (fun hc h=> ?_) (fun hc h=> ?_)
    ·refine B5 fun Hk Fs=> ?_;refine Cm gC ?_;try simp only [W,Nat.reduceAdd]
     refine Cb Fs ?_;refine B8 ?_;refine Ch EQ ?_;refine Cc E8 ?_;try obtain rfl:=Option.some.inj h
     obtain rfl:=FO _ rfl;have h:(some (LR.done false):Option (LR Unit (Bool)))=some (LR.done false):=rfl;refine CG EK ?_;refine Ch EO ?_;try obtain rfl:=Option.some.inj h
     obtain rfl:=Option.some.inj g12;have h:(some false:Option (Bool))=some false:=rfl;refine CJ EU ?_;refine Cc zY ?_;refine Cj En rfl ?_;try obtain rfl:=Option.some.inj h
     exact hP _ hS
    ·refine B7 ?_;refine Cf EQ ?_;refine Cb E8 ?_;refine Cm gC ?_;try simp only [W,EE,Nat.reduceAdd]
     exact CE EK h ⟨rfl,hS⟩
  ·refine B9 ?_;refine Cd Fe ?_;try obtain rfl:=Option.some.inj h
   obtain rfl:=FO _ rfl;have h:(some (LR.next ()):Option (LR Unit (Bool)))=some (LR.next ()):=rfl
   refine CF EK ?_;refine Cg EO ?_;exact CI EU ⟨(Option.some.inj h).symm,rfl,hS⟩
 ·obtain ⟨rfl,rfl,hS⟩:=hq;replace h:=g12;try dsimp only at h
  refine Cb zY ?_;refine B5 fun NS Hl=> ?_;refine Cm gC ?_;try simp only [W,Nat.reduceAdd]
  refine Cb Hl ?_;refine B8 ?_;refine Cj En rfl ?_;try obtain rfl:=Option.some.inj h
  exact hP _ hS
theorem Ux {a0:Span} {r:(Bool)} (h:KV a0=some r) {F:List It} {H:J} (hS:ay H (F)) {P:AV→J→Prop} (hP: ∀H',ay H' (F)→P (.bool r) H'):aq C 132 [.agg [.int .i64 a0.Em,.int .i64 a0.To]] H P:=by
 refine Cp gC (res:=[.tmp 2]) (n:=18) rfl rfl rfl rfl fun K0 En=> ?_;simp only [W,Nat.reduceSub,Nat.reduceAdd,List.replicate];unfold KV at h;refine B5 fun K1 Er=> ?_;refine Cm gC ?_;try simp only [W,Nat.reduceAdd]
 refine Cr hS rfl rfl rfl rfl fun Eu Ev H hS=> ?_;try simp only [W]
 refine Cb Er ?_;refine B5 fun K4 EI=> ?_;refine Cm gC ?_;try simp only [W,EE,Nat.reduceAdd,Nat.reduceBEq,hS.var 0 rfl]
 refine C6 h (fun hc h=> ?_) (fun hc h=> ?_)
 ·try simp only [W,EE,reduceIte,Nat.reduceAdd,Nat.reduceBEq,hS.var 0 rfl,hc]
  refine C6 h (fun hc h=> ?_) (fun hc h=> ?_)
  ·try simp only [W,EE,reduceIte,Nat.reduceAdd,Nat.reduceBEq,hS.var 0 rfl,hc]
   refine Cb EI ?_;refine B8 ?_;refine Cj En rfl ?_;try obtain rfl:=Option.some.inj h
   exact hP _ (hS.C2 1 [] (by decide))
  ·try simp only [W,hc]
   refine Cb EI ?_;refine B8 ?_;refine Cj En rfl ?_;try obtain rfl:=Option.some.inj h
   exact hP _ (hS.C2 1 [] (by decide))
 ·try simp only [W,hc]
  refine Cb EI ?_;refine B8 ?_;refine Cj En rfl ?_;try obtain rfl:=Option.some.inj h
  exact hP _ (hS.C2 1 [] (by decide))
theorem NT {a0:List Span} {r:(Bool)} (h:I2 a0=some r) {F:List It} {H:J} (hS:ay H (F)) {P:AV→J→Prop} (hP: ∀H',ay H' (F)→P (.bool r) H'):aq C 122 [.fz (a0.map El)] H P:=by
 refine Cp gC (res:=[.tmp 2]) (n:=34) rfl rfl rfl rfl fun K0 En=> ?_;simp only [W,Nat.reduceSub,Nat.reduceAdd,List.replicate];unfold I2 at h;refine B5 fun K1 Er=> ?_;refine Cm gC ?_;try simp only [W,Nat.reduceAdd]
 refine Cb Er ?_;refine B5 fun K2 zY=> ?_;refine B5 fun K3 EG=> ?_;refine Cm gC ?_;try simp only [W,EE,Nat.reduceAdd]
 refine Cb EG ?_;refine B_ ?_;simp only [W];refine Cl h (fun hc h=> ?_) (fun hc h=> ?_)
 ·refine B5 fun K4 EI=> ?_;refine Cm gC ?_;try simp only [W,Nat.reduceAdd]
  refine Cb EI ?_;refine B8 ?_;refine Cc zY ?_;refine Cj En rfl ?_;try obtain rfl:=Option.some.inj h
  exact hP _ hS
 ·refine B7 ?_;refine Cb zY ?_;refine B5 fun K5 EV=> ?_;refine B5 fun K6 Fg=> ?_;refine Cm gC ?_;try simp only [W,EE,Nat.reduceAdd]
  refine Cb Fg ?_;obtain ⟨Iz,IA,g15⟩:=Option.bind_eq_some_iff.1 h;refine CH gC (fun s H=>Iz=LR.next ()∧s=[u,u,u,u,u,u,u,u,u,u,u,u,u,u,u,u,u,u,u,u,u,u,u,u,u,u,u,u,u,u,u,u,u,u]∧ay H (F)) (fun I_ FX=> ?_) (fun s H hq=> ?_)
  ·refine B6 fun Iv FN=> ?_;refine CD gC IA (fun x s H=>s=[.fz (a0.map El),u,u,u,u,u,u,u,.fz (a0.map El),.int .i64 (a0.length:Int),.int .i64 x,u,u,u,u,u,u,u,u,u,u,u,u,u,u,u,u,u,u,u,u,u,u,u]∧ay H (F)) ⟨rfl,hS⟩ (fun EZ HD s H h HE hi H7 Fm=> ?_)
   skip
   try dsimp only at hi
   obtain ⟨rfl,hS⟩:=hi;simp only [KW] at h;refine B5 fun F8 EQ=> ?_;refine Cm gC ?_;try simp only [W,EE,Nat.reduceAdd]
   refine Cb EQ ?_;refine B5 fun FY EH=> ?_;refine B_ ?_;simp only [W];refine Cl h (fun hc h=> ?_) (fun hc h=> ?_)
   ·refine B7 ?_;refine Cb EH ?_;refine B5 fun Gc ET=> ?_;refine B6 fun Gw E9=> ?_;refine B5 fun GK E_=> ?_;refine Cm gC ?_;try simp only [W,EE,Nat.reduceAdd]
    refine Cv rfl rfl rfl (fun _=>rfl) h fun FE Uy h=> ?_;try simp only [W,EE,EN,reduceIte,Nat.reduceAdd,Nat.reduceLeDiff]
    refine Cs hS rfl rfl fun Uz UA H hS=> ?_;try simp only [W]
    refine Ct (a:= .agg [.int .i64 FE.Em,.int .i64 FE.To]) (y' := .agg [.int .i64 FE.Em,.int .i64 FE.To]) 0 hS rfl rfl rfl rfl rfl rfl rfl rfl fun H hS=> ?_
    try simp only [W]
    refine Cb E_ ?_;refine B5 fun GM Ff=> ?_;obtain ⟨UB,h,UC⟩:=Option.bind_eq_some_iff.1 h;refine CH gC (fun s H=> ∃KX:Bool,UB=(KX)∧s=[.fz (a0.map El),u,u,u,u,u,u,u,.fz (a0.map El),.int .i64 (a0.length:Int),.int .i64 EZ,u,u,u,u,u,u,u,u,u,u,u,u,u,u,u,u,u,u,u,u,u,.bool KX,u]∧ay H (F)) (fun Hk Fs=> ?_) (fun s H hq=> ?_)
    ·refine B5 fun Mp Hm=> ?_;refine Co gC (by kernel_rfl) ?_
     try simp only [W,EE,reduceIte,Nat.reduceAdd,Nat.reduceLeDiff,hS.var 0 rfl]
     refine Du (b6:=[[.sc]]) (ys:=[.agg [.int .i64 FE.Em,.int .i64 FE.To]]) h rfl (by rfl) fun F2 Jb h=>⟨.bool F2,Ux Jb (ay.nil _) fun H hS=>Dm rfl (Dj rfl (Di rfl)),⟨rfl,rfl,fun _=>rfl⟩,?_⟩
     try simp only [W]
     refine C6 h (fun hc h=> ?_) (fun hc h=> ?_)
     ·try simp only [W,hc]
      refine Cb Hm ?_;refine Ca ?_;exact CI Fs ⟨_,(Option.some.inj h).symm,rfl,(hS.C2 1 [] (by decide))⟩
     ·try simp only [W,EE,hc]
      refine C6 h (fun hc h=> ?_) (fun hc h=> ?_)
      ·try simp only [W,EE,Nat.reduceAdd,Nat.reduceBEq,hS.var 0 rfl,hc]
       refine Cv rfl rfl rfl (fun _=>rfl) h fun Hv Ru h=> ?_;try simp only [W,EE,EN,reduceIte,Nat.reduceAdd,Nat.reduceBEq,Bool.false_eq_true]
       refine Cb Hm ?_;refine Ca ?_;exact CI Fs ⟨_,(Option.some.inj h).symm,rfl,(hS.C2 1 [] (by decide))⟩
      ·try simp only [W,reduceIte,Bool.false_eq_true,hc]
       refine Cb Hm ?_;refine Ca ?_;exact CI Fs ⟨_,(Option.some.inj h).symm,rfl,(hS.C2 1 [] (by decide))⟩
    ·obtain ⟨KX,Eo,rfl,hS⟩:=hq;obtain rfl:=Eo.symm;replace h:=UC;try dsimp only at h
     refine Cb Ff ?_;refine B_ ?_;simp only [W];refine Cl h (fun hc h=> ?_) (fun hc h=> ?_)
     ·refine B5 fun UE Pl=> ?_;refine Cm gC ?_;try simp only [W,Nat.reduceAdd]
      refine Cb Pl ?_;refine B8 ?_;refine Ch E9 ?_;refine Cc ET ?_;try obtain rfl:=Option.some.inj h
      obtain rfl:=HE _ rfl;have h:(some (LR.done false):Option (LR Unit (Bool)))=some (LR.done false):=rfl;refine CG Fm ?_;refine Ch FN ?_;try obtain rfl:=Option.some.inj h
      obtain rfl:=Option.some.inj g15;have h:(some false:Option (Bool))=some false:=rfl;refine CJ FX ?_;refine Cc EV ?_;refine Cj En rfl ?_;try obtain rfl:=Option.some.inj h
      exact hP _ hS
     ·refine B7 ?_;refine Cf E9 ?_;refine Cb ET ?_;refine Cm gC ?_;try simp only [W,EE,Nat.reduceAdd]
      exact CE Fm h ⟨rfl,hS⟩
   ·refine B9 ?_;refine Cd EH ?_;try obtain rfl:=Option.some.inj h
    obtain rfl:=HE _ rfl;have h:(some (LR.next ()):Option (LR Unit (Bool)))=some (LR.next ()):=rfl
    refine CF Fm ?_;refine Cg FN ?_;exact CI FX ⟨(Option.some.inj h).symm,rfl,hS⟩
  ·obtain ⟨rfl,rfl,hS⟩:=hq;replace h:=g15;try dsimp only at h
   refine Cb EV ?_;refine B5 fun Kt Gd=> ?_;refine Cm gC ?_;try simp only [W,Nat.reduceAdd]
   refine Cb Gd ?_;refine B8 ?_;refine Cj En rfl ?_;try obtain rfl:=Option.some.inj h
   exact hP _ hS
theorem Rv {a0:List Span} {a1:Int} {r:(Bool)} (h:Ke a0 a1=some r) {F:List It} {H:J} (hS:ay H (F)) {P:AV→J→Prop} (hP: ∀H',ay H' (F)→P (.bool r) H'):aq C 101 [.fz (a0.map El),.int .i64 a1] H P:=by
 refine Cp gC (res:=[.tmp 4]) (n:=23) rfl rfl rfl rfl fun K0 En=> ?_;simp only [W,Nat.reduceSub,Nat.reduceAdd,List.replicate];unfold Ke at h;refine B5 fun K1 Er=> ?_;refine Cm gC ?_;try simp only [W,Nat.reduceAdd]
 refine Cb Er ?_;refine B5 fun K2 zY=> ?_;refine Cm gC ?_;try simp only [W,Nat.reduceAdd]
 refine CC h fun b3 kS h=> ?_;refine NT kS hS fun H hS=> ?_;try simp only [W]
 refine C6 h (fun hc h=> ?_) (fun hc h=> ?_)
 ·try simp only [W,EE,hc]
  refine C6 h (fun hc h=> ?_) (fun hc h=> ?_)
  ·try simp only [W,reduceIte,hc]
   refine Cb zY ?_;refine B8 ?_;refine Cj En rfl ?_;try obtain rfl:=Option.some.inj h
   exact hP _ hS
  ·try simp only [W,EE,hc]
   refine Cv rfl rfl rfl (fun _=>rfl) h fun EM Ic h=> ?_;try simp only [W,EE,EN,reduceIte,Nat.reduceAdd,Nat.reduceBEq,Bool.false_eq_true]
   refine Cb zY ?_;refine B8 ?_;refine Cj En rfl ?_;try obtain rfl:=Option.some.inj h
   exact hP _ hS
 ·try simp only [W,hc]
  refine Cb zY ?_;refine B8 ?_;refine Cj En rfl ?_;try obtain rfl:=Option.some.inj h
  exact hP _ hS
theorem UF {a0:Span} {a1:Int} {i1:Nat} {w1:Nat} {r:(Bool)} (h:Nk a0 a1=some r) {F:List It} {H:J} (NU:⟨.ptr i1 w1 0 0,1,[.int .i64 a1]⟩∈F) (hS:ay H (F)) {P:AV→J→Prop} (hP: ∀H',ay H' (F)→P (.bool r) H'):aq C 135 [.agg [.int .i64 a0.Em,.int .i64 a0.To],.ptr i1 w1 0 0] H P:=by
 refine Cp gC (res:=[.tmp 3]) (n:=14) rfl rfl rfl rfl fun K0 En=> ?_;simp only [W,Nat.reduceSub,Nat.reduceAdd,List.replicate];unfold Nk at h;refine B5 fun K1 Er=> ?_;refine Cm gC ?_;try simp only [W,Nat.reduceAdd]
 refine Cr hS rfl rfl rfl rfl fun Eu Ev H hS=> ?_;try simp only [W]
 refine Cb Er ?_;refine B5 fun K4 EI=> ?_;refine Cm gC ?_;try simp only [W,EE,Nat.reduceAdd,Nat.reduceBEq,hS.CS (List.mem_cons_of_mem _ (NU)),hS.var 0 rfl]
 refine C6 h (fun hc h=> ?_) (fun hc h=> ?_)
 ·try simp only [W,EE,reduceIte,Nat.reduceAdd,Nat.reduceBEq,hS.CS (List.mem_cons_of_mem _ (NU)),hS.var 0 rfl,hc]
  refine Cb EI ?_;refine B8 ?_;refine Cj En rfl ?_;try obtain rfl:=Option.some.inj h
  exact hP _ (hS.C2 1 [] (by decide))
 ·try simp only [W,hc]
  refine Cb EI ?_;refine B8 ?_;refine Cj En rfl ?_;try obtain rfl:=Option.some.inj h
  exact hP _ (hS.C2 1 [] (by decide))
theorem UG {a0:List Span} {g1:Span→Option Bool} {f1:FuncId} {c1:List AV} {r:(Int)} (h:KY a0 g1=some r) {F:List It} {H:J} (cJ: ∀{x0:Span} {r:Bool},g1 x0=some r→ ∀(L:List It) (n:Nat),L.drop n=F→ ∀(H:J),ay H L→ ∀(P:AV→J→Prop),(∀H',ay H' L→P (.bool r) H')→aq C f1 ([.agg [.int .i64 x0.Em,.int .i64 x0.To]] ++ c1) H P) (hS:ay H (F)) {P:AV→J→Prop} (hP: ∀H',ay H' (F)→P (.int .i64 r) H'):aq C 168 [.fz (a0.map El),.fn f1 c1] H P:=by
 refine Cp gC (res:=[.tmp 4]) (n:=19) rfl rfl rfl rfl fun K0 En=> ?_;simp only [W,Nat.reduceSub,Nat.reduceAdd,List.replicate];unfold KY at h;refine B5 fun K1 Er=> ?_;refine Cm gC ?_;try simp only [W,Nat.reduceAdd]
 refine Cb Er ?_;refine B5 fun K2 zY=> ?_;refine B5 fun K3 EG=> ?_;refine Cm gC ?_;try simp only [W,EE,Nat.reduceAdd]
 refine Cb EG ?_;obtain ⟨Gl,GL,g12⟩:=Option.bind_eq_some_iff.1 h;refine CH gC (fun s H=>Gl=LR.next ()∧s=[u,u,u,u,u,u,u,u,u,u,u,u,u,u,u,u,u,u,u]∧ay H (F)) (fun K7 EU=> ?_) (fun s H hq=> ?_)
 ·refine B6 fun K8 EO=> ?_;refine CD gC GL (fun x s H=>s=[.fz (a0.map El),.fn f1 c1,u,u,u,u,u,.int .i64 (a0.length:Int),.int .i64 x,u,u,u,u,u,u,u,u,u,u]∧ay H (F)) ⟨rfl,hS⟩ (fun Ez HQ s H h FO hi K9 EK=> ?_)
  skip
  try dsimp only at hi
  obtain ⟨rfl,hS⟩:=hi;simp only [OO] at h;refine B5 fun GJ Fo=> ?_;refine Cm gC ?_;try simp only [W,EE,Nat.reduceAdd]
  refine Cb Fo ?_;refine B5 fun Hz Fe=> ?_;refine B_ ?_;simp only [W];refine Cl h (fun hc h=> ?_) (fun hc h=> ?_)
  ·refine B7 ?_;refine Cb Fe ?_;refine B5 fun G5 E8=> ?_;refine B6 fun F8 EQ=> ?_;refine B5 fun FY EH=> ?_;refine Cm gC ?_;try simp only [W,Nat.reduceAdd]
   refine Cb EH ?_;refine B5 fun Gc ET=> ?_;refine Cm gC ?_;try simp only [W,EE,Nat.reduceAdd]
   refine Cv rfl rfl rfl (fun _=>rfl) h fun FK H9 h=> ?_;try simp only [W,EE,EN,reduceIte,Nat.reduceAdd,Nat.reduceLeDiff]
   refine CC h fun Gq Mq h=> ?_;refine cJ Mq _ 0 rfl _ hS _ fun H hS=> ?_;try simp only [W]
   refine Cb ET ?_;refine B_ ?_;simp only [W];refine Cl h (fun hc h=> ?_) (fun hc h=> ?_)
   ·refine B5 fun HA FA=> ?_;refine Cm gC ?_;try simp only [W,Nat.reduceAdd]
    refine Cb FA ?_;refine B8 ?_;refine Ch EQ ?_;refine Cc E8 ?_;try obtain rfl:=Option.some.inj h
    obtain rfl:=FO _ rfl;have h:(some (LR.done Ez):Option (LR Unit (Int)))=some (LR.done Ez):=rfl;refine CG EK ?_;refine Ch EO ?_;try obtain rfl:=Option.some.inj h
    obtain rfl:=Option.some.inj g12;have h:(some Ez:Option (Int))=some Ez:=rfl;refine CJ EU ?_;refine Cc zY ?_;refine Cj En rfl ?_;try obtain rfl:=Option.some.inj h
    exact hP _ hS
   ·refine B7 ?_;refine Cf EQ ?_;refine Cb E8 ?_;refine Cm gC ?_;try simp only [W,EE,Nat.reduceAdd]
    exact CE EK h ⟨rfl,hS⟩
  ·refine B9 ?_;refine Cd Fe ?_;try obtain rfl:=Option.some.inj h
   obtain rfl:=FO _ rfl;have h:(some (LR.next ()):Option (LR Unit (Int)))=some (LR.next ()):=rfl
   refine CF EK ?_;refine Cg EO ?_;exact CI EU ⟨(Option.some.inj h).symm,rfl,hS⟩
 ·obtain ⟨rfl,rfl,hS⟩:=hq;replace h:=g12;try dsimp only at h
  refine Cb zY ?_;refine B5 fun Hk Fs=> ?_;refine Cm gC ?_;try simp only [W,Nat.reduceAdd]
  refine Cb Fs ?_;refine B8 ?_;refine Cj En rfl ?_;try obtain rfl:=Option.some.inj h
  exact hP _ hS
theorem UH {a0:List Span} {g1:Span→Option Bool} {f1:FuncId} {c1:List AV} {r:(Bool)} (h:KZ a0 g1=some r) {F:List It} {H:J} (cJ: ∀{x0:Span} {r:Bool},g1 x0=some r→ ∀(L:List It) (n:Nat),L.drop n=F→ ∀(H:J),ay H L→ ∀(P:AV→J→Prop),(∀H',ay H' L→P (.bool r) H')→aq C f1 ([.agg [.int .i64 x0.Em,.int .i64 x0.To]] ++ c1) H P) (hS:ay H (F)) {P:AV→J→Prop} (hP: ∀H',ay H' (F)→P (.bool r) H'):aq C 134 [.fz (a0.map El),.fn f1 c1] H P:=by
 refine Cp gC (res:=[.tmp 4]) (n:=9) rfl rfl rfl rfl fun K0 En=> ?_;simp only [W,Nat.reduceSub,Nat.reduceAdd,List.replicate];unfold KZ at h;refine B5 fun K1 Er=> ?_;refine Cm gC ?_;try simp only [W,Nat.reduceAdd]
 refine Cb Er ?_;refine B5 fun K2 zY=> ?_;refine Cm gC ?_;try simp only [W,Nat.reduceAdd]
 refine CC h fun b3 kS h=> ?_;refine UG kS cJ hS fun H hS=> ?_;try simp only [W,EE]
 refine Cb zY ?_;refine B8 ?_;refine Cj En rfl ?_;try obtain rfl:=Option.some.inj h
 exact hP _ hS
theorem JK {a0:List Span} {a1:Int} {r:(Bool)} (h:Ir a0 a1=some r) {F:List It} {H:J} (hS:ay H (F)) {P:AV→J→Prop} (hP: ∀H',ay H' (F)→P (.bool r) H'):aq C 100 [.fz (a0.map El),.int .i64 a1] H P:=by
 refine Cp gC (res:=[.tmp 4]) (n:=8) rfl rfl rfl rfl fun K0 En=> ?_;simp only [W,Nat.reduceSub,Nat.reduceAdd,List.replicate];unfold Ir at h;refine B5 fun K1 Er=> ?_;refine Cm gC ?_;try simp only [W,Nat.reduceAdd]
 refine Cr hS rfl rfl rfl rfl fun Eu Ev H hS=> ?_;try simp only [W]
 refine Cb Er ?_;refine B5 fun K4 EI=> ?_;refine Cm gC ?_;try simp only [W,Nat.reduceAdd]
 refine CC h fun GW UI h=> ?_;refine UH UI (fun h _ n hL _ hS _ hP=>UF h (C3 hL (List.mem_of_getElem? (i:=0) rfl)) hS hP) hS fun H hS=> ?_;try simp only [W]
 refine Cb EI ?_;refine B8 ?_;refine Cj En rfl ?_;try obtain rfl:=Option.some.inj h
 exact hP _ (hS.C2 1 [] (by decide))
theorem UJ {a0:EB} {r:(Bool)} (h:Kf a0=some r) {F:List It} {H:J} (hS:ay H (F)) {P:AV→J→Prop} (hP: ∀H',ay H' (F)→P (.bool r) H'):aq C 139 [.agg [.int .i64 a0.Next,.fz (a0.Es.map El),.fz (a0.Ep.map (AV.int .i64))]] H P:=by
 refine Cp gC (res:=[.tmp 2]) (n:=52) rfl rfl rfl rfl fun K0 En=> ?_;simp only [W,Nat.reduceSub,Nat.reduceAdd,List.replicate];unfold Kf at h;refine B5 fun K1 Er=> ?_;refine Cm gC ?_;try simp only [W,Nat.reduceAdd]
 refine Cr hS rfl rfl rfl rfl fun Eu Ev H hS=> ?_;try simp only [W]
 refine Cb Er ?_;refine B5 fun K4 EI=> ?_;refine B5 fun K5 EV=> ?_;obtain ⟨UK,h,g8⟩:=Option.bind_eq_some_iff.1 h;refine CH gC (fun s H=> ∃FW:Bool,UK=(FW)∧s=[u,.ptr Eu Ev 0 0,u,u,u,u,u,u,u,u,u,u,u,u,u,u,.bool FW,u,u,u,u,u,u,u,u,u,u,u,u,u,u,u,u,u,u,u,u,u,u,u,u,u,u,u,u,u,u,u,u,u,u,u]∧ay H (⟨.ptr Eu Ev 0 0,3,[.agg [.int .i64 a0.Next,.fz (a0.Es.map El),.fz (a0.Ep.map (AV.int .i64))]]⟩::F)) (fun K9 EK=> ?_) (fun s H hq=> ?_)
 ·refine B5 fun I_ FX=> ?_;refine Cm gC ?_;try simp only [W,EE,Nat.reduceAdd,Nat.reduceBEq,hS.var 0 rfl]
  refine CC h fun KT UL h=> ?_;refine NO UL hS fun H hS=> ?_;try simp only [W]
  refine C6 h (fun hc h=> ?_) (fun hc h=> ?_)
  ·try simp only [W,hc]
   refine Cb FX ?_;refine Ca ?_;exact CI EK ⟨_,(Option.some.inj h).symm,rfl,hS⟩
  ·try simp only [W,EE,Nat.reduceAdd,Nat.reduceBEq,hS.var 0 rfl,hc]
   refine CC h fun Iq Pm h=> ?_;refine Rv Pm hS fun H hS=> ?_;try simp only [W,reduceIte,Bool.false_eq_true]
   refine Cb FX ?_;refine Ca ?_;exact CI EK ⟨_,(Option.some.inj h).symm,rfl,hS⟩
 ·obtain ⟨FW,Eo,rfl,hS⟩:=hq;obtain rfl:=Eo.symm;replace h:=g8;try dsimp only at h
  refine Cb EV ?_;refine B_ ?_;simp only [W];refine Cl h (fun hc h=> ?_) (fun hc h=> ?_)
  ·refine B5 fun GJ Fo=> ?_;refine Cm gC ?_;try simp only [W,Nat.reduceAdd]
   refine Cb Fo ?_;refine B8 ?_;refine Cc EI ?_;refine Cj En rfl ?_;try obtain rfl:=Option.some.inj h
   exact hP _ (hS.C2 1 [] (by decide))
  ·refine B7 ?_;refine Cb EI ?_;refine B5 fun Hz Fe=> ?_;refine B5 fun G5 E8=> ?_;refine Cm gC ?_;try simp only [W,EE,Nat.reduceAdd,Nat.reduceBEq,hS.var 0 rfl]
   refine Cb E8 ?_;obtain ⟨Mi,O3,g24⟩:=Option.bind_eq_some_iff.1 h;refine CH gC (fun s H=>Mi=LR.next ()∧s=[u,u,u,u,u,u,u,u,u,u,u,u,u,u,u,u,u,u,u,u,u,u,u,u,u,u,u,u,u,u,u,u,u,u,u,u,u,u,u,u,u,u,u,u,u,u,u,u,u,u,u,u]∧ay H (F)) (fun Gw E9=> ?_) (fun s H hq=> ?_)
   ·refine B6 fun GK E_=> ?_;refine CD gC O3 (fun x s H=>s=[u,.ptr Eu Ev 0 0,u,u,u,u,u,u,u,u,u,u,u,u,u,u,u,u,.fz (a0.Ep.map (AV.int .i64)),.int .i64 (a0.Ep.length:Int),.int .i64 x,u,u,u,u,u,u,u,u,u,u,u,u,u,u,u,u,u,u,u,u,u,u,u,u,u,u,u,u,u,u,u]∧ay H (⟨.ptr Eu Ev 0 0,3,[.agg [.int .i64 a0.Next,.fz (a0.Es.map El),.fz (a0.Ep.map (AV.int .i64))]]⟩::F)) ⟨rfl,hS⟩ (fun Fl O4 s H h NJ hi HA FA=> ?_)
    skip
    try dsimp only at hi
    obtain ⟨rfl,hS⟩:=hi;simp only [Nl] at h;refine B5 fun Hj Fj=> ?_;refine Cm gC ?_;try simp only [W,EE,Nat.reduceAdd]
    refine Cb Fj ?_;refine B5 fun HB FB=> ?_;refine B_ ?_;simp only [W];refine Cl h (fun hc h=> ?_) (fun hc h=> ?_)
    ·refine B7 ?_;refine Cb FB ?_;refine B5 fun Gy Fa=> ?_;refine B6 fun Hk Fs=> ?_;refine B5 fun Mp Hm=> ?_;refine Cm gC ?_;try simp only [W,EE,Nat.reduceAdd]
     refine Cv rfl rfl rfl (fun _=>rfl) h fun F2 Jb h=> ?_;try simp only [W,EE]
     refine Cb Hm ?_;refine B5 fun Ku Hn=> ?_;obtain ⟨Pn,h,UM⟩:=Option.bind_eq_some_iff.1 h;refine CH gC (fun s H=> ∃FF:Bool,Pn=(FF)∧s=[u,.ptr Eu Ev 0 0,u,u,u,u,u,u,u,u,u,u,u,u,u,u,u,u,.fz (a0.Ep.map (AV.int .i64)),.int .i64 (a0.Ep.length:Int),.int .i64 Fl,u,u,u,u,u,u,u,u,u,u,u,u,u,u,u,u,u,u,u,u,u,u,u,u,u,u,u,u,u,.bool FF,u]∧ay H (⟨.ptr Eu Ev 0 0,3,[.agg [.int .i64 a0.Next,.fz (a0.Es.map El),.fz (a0.Ep.map (AV.int .i64))]]⟩::F)) (fun NS Hl=> ?_) (fun s H hq=> ?_)
     ·refine B5 fun O6 HO=> ?_;refine Cm gC ?_;try simp only [W,EE,Nat.reduceAdd,Nat.reduceBEq,hS.var 0 rfl]
      refine CC h fun K_ UN h=> ?_;refine NO UN hS fun H hS=> ?_;try simp only [W]
      refine C6 h (fun hc h=> ?_) (fun hc h=> ?_)
      ·try simp only [W,hc]
       refine Cb HO ?_;refine Ca ?_;exact CI Hl ⟨_,(Option.some.inj h).symm,rfl,hS⟩
      ·try simp only [W,EE,Nat.reduceAdd,Nat.reduceBEq,hS.var 0 rfl,hc]
       refine CC h fun HL Mj h=> ?_;refine JK Mj hS fun H hS=> ?_;try simp only [W,reduceIte,Bool.false_eq_true]
       refine C6 h (fun hc h=> ?_) (fun hc h=> ?_)
       ·try simp only [W,hc]
        refine Cb HO ?_;refine Ca ?_;exact CI Hl ⟨_,(Option.some.inj h).symm,rfl,hS⟩
       ·try simp only [W,EE,hc]
        refine C6 h (fun hc h=> ?_) (fun hc h=> ?_)
        ·try simp only [W,EE,Nat.reduceAdd,Nat.reduceBEq,hS.var 0 rfl,hc]
         refine Cv rfl rfl rfl (fun _=>rfl) h fun KN aa_ h=> ?_;try simp only [W,EE,reduceIte,Bool.false_eq_true]
         refine Cb HO ?_;refine Ca ?_;exact CI Hl ⟨_,(Option.some.inj h).symm,rfl,hS⟩
        ·try simp only [W,reduceIte,Bool.false_eq_true,hc]
         refine Cb HO ?_;refine Ca ?_;exact CI Hl ⟨_,(Option.some.inj h).symm,rfl,hS⟩
     ·obtain ⟨FF,Eo,rfl,hS⟩:=hq;obtain rfl:=Eo.symm;replace h:=UM;try dsimp only at h
      refine Cb Hn ?_;refine B_ ?_;simp only [W];refine Cl h (fun hc h=> ?_) (fun hc h=> ?_)
      ·refine B5 fun NV HR=> ?_;refine Cm gC ?_;try simp only [W,Nat.reduceAdd]
       refine Cb HR ?_;refine B8 ?_;refine Ch Fs ?_;refine Cc Fa ?_;try obtain rfl:=Option.some.inj h
       obtain rfl:=NJ _ rfl;have h:(some (LR.done false):Option (LR Unit (Bool)))=some (LR.done false):=rfl;refine CG FA ?_;refine Ch E_ ?_;try obtain rfl:=Option.some.inj h
       obtain rfl:=Option.some.inj g24;have h:(some false:Option (Bool))=some false:=rfl;refine CJ E9 ?_;refine Cc Fe ?_;refine Cj En rfl ?_;try obtain rfl:=Option.some.inj h
       exact hP _ (hS.C2 1 [] (by decide))
      ·refine B7 ?_;refine Cf Fs ?_;refine Cb Fa ?_;refine Cm gC ?_;try simp only [W,EE,Nat.reduceAdd]
       exact CE FA h ⟨rfl,hS⟩
    ·refine B9 ?_;refine Cd FB ?_;try obtain rfl:=Option.some.inj h
     obtain rfl:=NJ _ rfl;have h:(some (LR.next ()):Option (LR Unit (Bool)))=some (LR.next ()):=rfl
     refine CF FA ?_;refine Cg E_ ?_;exact CI E9 ⟨(Option.some.inj h).symm,rfl,(hS.C2 1 [] (by decide))⟩
   ·obtain ⟨rfl,rfl,hS⟩:=hq;replace h:=g24;try dsimp only at h
    refine Cb Fe ?_;refine B5 fun Mk Gk=> ?_;refine Cm gC ?_;try simp only [W,Nat.reduceAdd]
    refine Cb Gk ?_;refine B8 ?_;refine Cj En rfl ?_;try obtain rfl:=Option.some.inj h
    exact hP _ hS
theorem UO {a1:Int} {r:(List Span)} (h:La a1=some r) {F:List It} {H:J} (hS:ay H (F)) {P:AV→J→Prop} (hP: ∀v25:AV,bp v25→ ∀H',ay H' (⟨v25,2,r.map El⟩::F)→P (v25) H'):aq C 184 [.nil,.int .i64 a1] H P:=by
 refine Cp gC (res:=[.tmp 4]) (n:=27) rfl rfl rfl rfl fun K0 En=> ?_;simp only [W,Nat.reduceSub,Nat.reduceAdd,List.replicate];unfold La at h;refine B5 fun K1 Er=> ?_;refine Cm gC ?_;try simp only [W,Nat.reduceAdd]
 refine Cb Er ?_;refine B5 fun K2 zY=> ?_;refine B5 fun K3 EG=> ?_;refine Cm gC ?_;try simp only [W,EE,Nat.reduceAdd]
 refine Cb EG ?_;obtain ⟨NW,h,g5⟩:=Option.bind_eq_some_iff.1 h;refine CH gC (fun s H=>NW=()∧s=[.nil,.int .i64 a1,u,u,u,u,u,u,u,u,u,u,u,u,u,u,u,u,u,u,u,u,u,u,u,u,u]∧ay H (F)) (fun K6 Fg=> ?_) (fun s H hq=> ?_)
 ·refine B5 fun K7 EU=> ?_;refine B_ ?_;simp only [W];refine Cl h (fun hc h=> ?_) (fun hc h=> ?_)
  ·refine Cm gC ?_;try simp only [W,Nat.reduceAdd]
   exact absurd h (by simp)
  ·refine B7 ?_;refine Cb EU ?_;refine Ca ?_;exact CI Fg ⟨(Option.some.inj h).symm,rfl,hS⟩
 ·obtain ⟨rfl,rfl,hS⟩:=hq;replace h:=g5;try dsimp only at h
  refine Cb zY ?_;refine B5 fun K8 EO=> ?_;refine B5 fun K9 EK=> ?_;refine Cm gC ?_;try simp only [W,Nat.reduceAdd]
  refine DK rfl rfl rfl ?_;try simp only [W,EE]
  refine Cb EK ?_;refine B5 fun I_ FX=> ?_;refine Cm gC ?_;try simp only [W,EE,Nat.reduceAdd]
  refine Cb FX ?_;obtain ⟨HD,h,g15⟩:=Option.bind_eq_some_iff.1 h;refine CH gC (fun s H=> ∃EJ:List Span,HD=(EJ)∧ ∃v12:AV,bp v12∧s=[v12,u,u,u,u,u,u,u,u,u,u,u,u,u,u,u,u,u,u,u,u,u,u,u,u,u,u]∧ay H (⟨v12,2,EJ.map El⟩::F)) (fun F8 EQ=> ?_) (fun s H hq=> ?_)
  ·refine B5 fun FY EH=> ?_;refine B_ ?_;simp only [W];refine Cl h (fun hc h=> ?_) (fun hc h=> ?_)
   ·refine Cm gC ?_;try simp only [W,Nat.reduceAdd]
    refine DK rfl rfl rfl ?_;try simp only [W,EE]
    refine DL rfl rfl rfl rfl rfl ?_;try simp only [W,EE]
    refine DQ (c:=El) hS rfl rfl rfl rfl rfl rfl h fun Iy H Fc Po hm h hS=> ?_;try simp only [W,EE]
    refine CP 0 hS rfl Po rfl rfl rfl h fun v22 QE JL abb h hS=> ?_;try simp only [W]
    refine Cb EH ?_;refine Ca ?_;exact CI EQ ⟨_,(Option.some.inj h).symm,_,JL,rfl,hS⟩
   ·refine B7 ?_;refine Cb EH ?_;refine Ca ?_;exact CI EQ ⟨_,(Option.some.inj h).symm,_,nt,rfl,(hS.Au 2)⟩
  ·obtain ⟨EJ,Eo,v12,Pp,rfl,hS⟩:=hq;obtain rfl:=Eo.symm;replace h:=g15;try dsimp only at h
   refine Cb EO ?_;refine B5 fun GM Ff=> ?_;refine Cm gC ?_;try simp only [W,Nat.reduceAdd]
   refine Cb Ff ?_;refine B8 ?_;refine Cj En rfl ?_;try obtain rfl:=Option.some.inj h
   exact hP _ Pp _ hS
theorem UP {a0:List (List Span)} {r:(List Span)} (h:Ld a0=some r) {F:List It} {H:J} (hS:ay H (F)) {P:AV→J→Prop} (hP: ∀v66:AV,bp v66→ ∀H',ay H' (⟨v66,2,r.map El⟩::F)→P (v66) H'):aq C 170 [.fz (a0.map (Ay El))] H P:=by
 refine Cp gC (res:=[.tmp 2]) (n:=36) rfl rfl rfl rfl fun K0 En=> ?_;simp only [W,Nat.reduceSub,Nat.reduceAdd,List.replicate];unfold Ld at h;refine B5 fun K1 Er=> ?_;refine Cm gC ?_;try simp only [W,Nat.reduceAdd]
 refine Cb Er ?_;refine B5 fun K2 zY=> ?_;refine Cm gC ?_;try simp only [W,Nat.reduceAdd]
 refine Cb zY ?_;refine B5 fun K3 EG=> ?_;refine B5 fun K4 EI=> ?_;refine Cm gC ?_;try simp only [W,EE,Nat.reduceAdd]
 refine Cb EI ?_;obtain ⟨Iz,IA,g15⟩:=Option.bind_eq_some_iff.1 h;refine CH gC (fun s H=> ∃EZ:Int,Iz=(EZ)∧s=[.fz (a0.map (Ay El)),u,u,.int .i64 EZ,u,u,u,u,u,u,u,u,u,u,u,u,u,u,u,u,u,u,u,u,u,u,u,u,u,u,u,u,u,u,u,u]∧ay H (F)) (fun I_ FX=> ?_) (fun s H hq=> ?_)
 ·refine B6 fun Iv FN=> ?_;refine CD gC IA (fun x s H=>match x with|(ED,FW)=>s=[.fz (a0.map (Ay El)),u,u,.int .i64 ED,u,u,u,u,u,.fz (a0.map (Ay El)),.int .i64 (a0.length:Int),.int .i64 FW,u,u,u,u,u,u,u,u,u,u,u,u,u,u,u,u,u,u,u,u,u,u,u,u]∧ay H (F)) ⟨rfl,hS⟩ (fun x HD s H h HE hi H7 Fm=> ?_)
  obtain ⟨ED,FW⟩:=x;try dsimp only at hi
  obtain ⟨rfl,hS⟩:=hi;simp only [Lb] at h;refine B5 fun F8 EQ=> ?_;refine Cm gC ?_;try simp only [W,EE,Nat.reduceAdd]
  refine Cb EQ ?_;refine B5 fun FY EH=> ?_;refine B_ ?_;simp only [W];refine Cl h (fun hc h=> ?_) (fun hc h=> ?_)
  ·refine B7 ?_;refine Cb EH ?_;refine B5 fun Gc ET=> ?_;obtain ⟨Ks,h,g22⟩:=Option.bind_eq_some_iff.1 h;refine CH gC (fun s H=> ∃Fc:Int,Ks=(Fc)∧s=[.fz (a0.map (Ay El)),u,u,.int .i64 Fc,u,u,u,u,u,.fz (a0.map (Ay El)),.int .i64 (a0.length:Int),.int .i64 FW,u,u,u,u,u,u,u,u,u,u,u,u,u,u,u,u,u,u,u,u,u,u,u,u]∧ay H (F)) (fun Ib FI=> ?_) (fun s H hq=> ?_)
   ·refine B6 fun Gw E9=> ?_;refine B5 fun GM Ff=> ?_;refine Cm gC ?_;try simp only [W,EE,Nat.reduceAdd]
    refine Cv rfl rfl rfl (fun _=>rfl) h fun Hf NQ h=> ?_;try simp only [W,EE,EN]
    refine Cb Ff ?_;refine B5 fun HB FB=> ?_;refine Cm gC ?_;try simp only [W,EE,Nat.reduceAdd]
    refine Cb FB ?_;refine B5 fun Gy Fa=> ?_;refine Cm gC ?_;try simp only [W,EE,Nat.reduceAdd]
    refine Cb Fa ?_;obtain ⟨NX,h,Mr⟩:=Option.bind_eq_some_iff.1 h;refine CH gC (fun s H=>NX=()∧s=[.fz (a0.map (Ay El)),u,u,.int .i64 (IntKind.i64.wrap (ED+(Hf.length:Int))),u,u,u,u,u,.fz (a0.map (Ay El)),.int .i64 (a0.length:Int),.int .i64 FW,u,u,u,u,u,u,u,u,u,u,u,u,u,u,u,u,u,u,u,u,u,u,u,u]∧ay H (F)) (fun Ms HF=> ?_) (fun s H hq=> ?_)
    ·refine B5 fun Ku Hn=> ?_;refine B_ ?_;simp only [W];refine Cl h (fun hc h=> ?_) (fun hc h=> ?_)
     ·refine Cm gC ?_;try simp only [W,Nat.reduceAdd]
      exact absurd h (by simp)
     ·refine B7 ?_;refine Cb Hn ?_;refine Ca ?_;exact CI HF ⟨(Option.some.inj h).symm,rfl,hS⟩
    ·obtain ⟨rfl,rfl,hS⟩:=hq;replace h:=Mr;try dsimp only at h
     refine Ce E9 ?_;exact CI FI ⟨_,(Option.some.inj h).symm,rfl,hS⟩
   ·obtain ⟨Fc,Eo,rfl,hS⟩:=hq;obtain rfl:=Eo.symm;replace h:=g22;try dsimp only at h
    refine Cb ET ?_;refine Cm gC ?_;try simp only [W,EE,Nat.reduceAdd]
    exact CE Fm h ⟨rfl,hS⟩
  ·refine B9 ?_;refine Cd EH ?_;try obtain rfl:=Option.some.inj h
   obtain rfl:=HE _ rfl;have h:(some (ED):Option (Int))=some (ED):=rfl;refine CF Fm ?_;refine Cg FN ?_;exact CI FX ⟨_,(Option.some.inj h).symm,rfl,hS⟩
 ·obtain ⟨EZ,Eo,rfl,hS⟩:=hq;obtain rfl:=Eo.symm;replace h:=g15;try dsimp only at h
  refine Cb EG ?_;refine B5 fun Kv GN=> ?_;refine Cm gC ?_;try simp only [W,Nat.reduceAdd]
  refine CC h fun Fz IB h=> ?_;refine UO IB hS fun UQ Pq H hS=> ?_;try simp only [W]
  refine Cb GN ?_;refine B5 fun NY Ho=> ?_;refine B5 fun Kt Gd=> ?_;refine Cm gC ?_;try simp only [W,EE,Nat.reduceAdd]
  refine Cb Gd ?_;obtain ⟨UR,US,UT⟩:=Option.bind_eq_some_iff.1 h;refine CH gC (fun s H=> ∃HM:List Span,UR=(HM)∧ ∃v45:AV,bp v45∧s=[u,u,u,u,u,u,v45,u,u,u,u,u,u,u,u,u,u,u,u,u,u,u,u,u,u,u,u,u,u,u,u,u,u,u,u,u]∧ay H (⟨v45,2,HM.map El⟩::F)) (fun Rw JM=> ?_) (fun s H hq=> ?_)
  ·refine B6 fun NZ IC=> ?_;refine CD gC US (fun x s H=>match x with|(G0,Ga)=> ∃v41:AV,bp v41∧s=[u,u,u,u,u,u,v41,u,u,u,u,u,u,u,u,u,u,u,u,u,u,u,u,u,u,.fz (a0.map (Ay El)),.int .i64 (a0.length:Int),.int .i64 Ga,u,u,u,u,u,u,u,u]∧ay H (⟨v41,2,G0.map El⟩::F)) ⟨_,Pq,rfl,hS⟩ (fun x y52 s H h UU hi N0 Ie=> ?_)
   obtain ⟨G0,Ga⟩:=x;try dsimp only at hi
   obtain ⟨v41,N1,rfl,hS⟩:=hi;simp only [Lc] at h;refine B5 fun UW Pr=> ?_;refine Cm gC ?_;try simp only [W,EE,Nat.reduceAdd]
   refine Cb Pr ?_;refine B5 fun Rf JG=> ?_;refine B_ ?_;simp only [W];refine Cl h (fun hc h=> ?_) (fun hc h=> ?_)
   ·refine B7 ?_;refine Cb JG ?_;refine B5 fun O_ Ja=> ?_;refine B6 fun UX N2=> ?_;refine B5 fun UY N3=> ?_;refine Cm gC ?_;try simp only [W,EE,Nat.reduceAdd]
    refine Cv rfl rfl rfl (fun _=>rfl) h fun HJ Rx h=> ?_;try simp only [W,EE,EN]
    refine Cb N3 ?_;refine Cm gC ?_;try simp only [W,EE,Nat.reduceAdd]
    refine CR (l:=G0) (c:=El) 0 hS rfl N1 rfl rfl rfl rfl (fun _=>rfl) rfl h fun Kw H FG Mt hm h hS=> ?_;try simp only [W]
    refine Cf N2 ?_;refine Cb Ja ?_;refine Cm gC ?_;try simp only [W,EE,Nat.reduceAdd]
    exact CE Ie h ⟨_,Mt,rfl,hS⟩
   ·refine B9 ?_;refine Cd JG ?_;try obtain rfl:=Option.some.inj h
    obtain rfl:=UU _ rfl;have h:(some (G0):Option ((List Span)))=some (G0):=rfl;refine CF Ie ?_;refine Cg IC ?_;exact CI JM ⟨_,(Option.some.inj h).symm,_,N1,rfl,hS⟩
  ·obtain ⟨HM,Eo,v45,UZ,rfl,hS⟩:=hq;obtain rfl:=Eo.symm;replace h:=UT;try dsimp only at h
   refine Cb Ho ?_;refine B5 fun Ry JN=> ?_;refine Cm gC ?_;try simp only [W,Nat.reduceAdd]
   refine Cb JN ?_;refine B8 ?_;refine Cj En rfl ?_;try obtain rfl:=Option.some.inj h
   exact hP _ UZ _ hS
theorem U0 {a0:List Span} {r:List Span} (h:OQ a0=some r) {F:List It} {H:J} (hS:ay H F) {P:AV→J→Prop} (hP: ∀v0:AV,bp v0→ ∀H',ay H' (⟨v0,2,r.map El⟩::F)→P v0 H'):aq C 133 [.fz (a0.map El)] H P:=
 Eg (I:=Hi) rfl (sz:=2) (b:=16) (by simp [Hi,Mh]) (fun _=>rfl) (by decide) h hS hP
theorem U1 {a0 r:List Span} (h:OR a0=some r) {F:List It} {H:J} {m0:AV} (hS:ay H (⟨m0,2,a0.map El⟩::F)) (Hp:bp m0) {P:AV→J→Prop} (hP: ∀H',ay H' (⟨m0,2,r.map El⟩::F)→P (.az []) H'):aq C 147 [m0,.fn 148 []] H P:=
 Eh (I:=Hi) rfl (by simp [Hi,qo]) (by decide) (fun _=>rfl) (fun _=>rfl) h hS Hp hP
theorem Rz {a0:List Span} {r:(List Span)} (h:Jr a0=some r) {F:List It} {H:J} (hS:ay H (F)) {P:AV→J→Prop} (hP: ∀N4:AV,bp N4→ ∀H',ay H' (⟨N4,2,r.map El⟩::F)→P (N4) H'):aq C 119 [.fz (a0.map El)] H P:=by
 refine Cp gC (res:=[.tmp 2]) (n:=52) rfl rfl rfl rfl fun K0 En=> ?_;simp only [W,Nat.reduceSub,Nat.reduceAdd,List.replicate];unfold Jr at h;refine B5 fun K1 Er=> ?_;refine Cm gC ?_;try simp only [W,Nat.reduceAdd]
 refine Cb Er ?_;refine B5 fun K2 zY=> ?_;refine Cm gC ?_;try simp only [W,Nat.reduceAdd]
 refine CC h fun b3 kS h=> ?_;refine U0 kS hS fun v4 Ps H hS=> ?_;try simp only [W]
 refine CA rfl rfl ?_;try simp only [W]
 refine Cb zY ?_;refine B5 fun K6 Fg=> ?_;refine Cm gC ?_;try simp only [W,Nat.reduceAdd]
 refine CC h fun EF JO h=> ?_;refine U1 JO hS Ps fun H hS=> ?_;try simp only [W]
 refine Cb Fg ?_;refine B5 fun K8 EO=> ?_;refine B5 fun K9 EK=> ?_;refine Cm gC ?_;try simp only [W,EE,Nat.reduceAdd]
 refine Cz 0 hS rfl Ps rfl ?_;try simp only [W]
 refine Cb EK ?_;obtain ⟨Mu,Mw,g23⟩:=Option.bind_eq_some_iff.1 h;refine CH gC (fun s H=> ∃EX:List Span,Mu=(EX)∧ ∃GP:AV,bp GP∧s=[u,u,u,u,GP,u,u,u,u,u,u,u,u,u,u,u,u,u,u,u,u,u,u,u,u,u,u,u,u,u,u,u,u,u,u,u,u,u,u,u,u,u,u,u,u,u,u,u,u,u,u,u]∧ay H (⟨GP,2,EX.map El⟩::F)) (fun Gc ET=> ?_) (fun s H hq=> ?_)
 ·refine B6 fun Gw E9=> ?_;refine CD gC Mw (fun x s H=>match x with|(Et,EC)=> ∃v11:AV,bp v11∧s=[u,u,u,u,v11,u,u,u,u,u,u,u,u,v4,.int .i64 (EF.length:Int),.int .i64 EC,u,u,u,u,u,u,u,u,u,u,u,u,u,u,u,u,u,u,u,u,u,u,u,u,u,u,u,u,u,u,u,u,u,u,u,u]∧ay H (⟨v11,2,Et.map El⟩::⟨v4,2,EF.map El⟩::F)) ⟨_,nu,rfl,(hS.Av 2)⟩ (fun x N5 s H h Mx hi GK E_=> ?_)
  obtain ⟨Et,EC⟩:=x;try dsimp only at hi
  obtain ⟨v11,Hq,rfl,hS⟩:=hi;simp only [Le] at h;refine B5 fun GM Ff=> ?_;refine Cm gC ?_;try simp only [W,EE,Nat.reduceAdd]
  refine Cb Ff ?_;refine B5 fun Hj Fj=> ?_;refine B_ ?_;simp only [W];refine Cl h (fun hc h=> ?_) (fun hc h=> ?_)
  ·refine B7 ?_;refine Cb Fj ?_;refine B5 fun HB FB=> ?_;obtain ⟨My,h,Mz⟩:=Option.bind_eq_some_iff.1 h;refine CH gC (fun s H=> ∃Fu:List Span,My=(Fu)∧ ∃G7:AV,bp G7∧s=[u,u,u,u,G7,u,u,u,u,u,u,u,u,v4,.int .i64 (EF.length:Int),.int .i64 EC,u,u,u,u,u,u,u,u,u,u,u,u,u,u,u,u,u,u,u,u,u,u,u,u,u,u,u,u,u,u,u,u,u,u,u,u]∧ay H (⟨G7,2,Fu.map El⟩::⟨v4,2,EF.map El⟩::F)) (fun MA GQ=> ?_) (fun s H hq=> ?_)
   ·refine B6 fun Gy Fa=> ?_;refine B5 fun Kv GN=> ?_;refine Cm gC ?_;try simp only [W,EE,Nat.reduceAdd]
    refine Cw 1 hS rfl rfl rfl rfl rfl h (fun Fz abd abe abf IB h U2=> ?_) Ps.ne;obtain ⟨abg,U3,U4⟩:=hS.elem 1 rfl U2 IB;try simp only [W,EE,EN,reduceIte,Nat.reduceAdd,Nat.reduceLeDiff,U3,U4]
    refine Cs hS rfl rfl fun RA RB H hS=> ?_;try simp only [W]
    refine Ct (a:= .agg [.int .i64 Fz.Em,.int .i64 Fz.To]) (y' := .agg [.int .i64 Fz.Em,.int .i64 Fz.To]) 0 hS rfl rfl rfl rfl rfl rfl rfl rfl fun H hS=> ?_
    try simp only [W]
    refine Cb GN ?_;refine B5 fun Kt Gd=> ?_;refine B5 fun NV HR=> ?_;refine Cm gC ?_;try simp only [W,EE,Nat.reduceAdd]
    refine Cz 1 hS rfl Hq rfl ?_;try simp only [W,EE]
    refine Cb HR ?_;refine B5 fun N6 HG=> ?_;obtain ⟨RC,h,N7⟩:=Option.bind_eq_some_iff.1 h;refine CH gC (fun s H=> ∃GF:Bool,RC=(GF)∧s=[u,u,u,u,v11,u,.ptr RA RB 0 0,.int .i64 (IntKind.i64.wrap ((Et.length:Int)-1)),u,u,u,u,u,v4,.int .i64 (EF.length:Int),.int .i64 EC,u,u,u,u,u,u,u,u,u,u,u,u,u,u,u,u,u,.bool GF,u,u,u,u,u,u,u,u,u,u,u,u,u,u,u,u,u,u]∧ay H (⟨v11,2,Et.map El⟩::⟨v4,2,EF.map El⟩::⟨.ptr RA RB 0 0,2,[.agg [.int .i64 Fz.Em,.int .i64 Fz.To]]⟩::F)) (fun Pt Jc=> ?_) (fun s H hq=> ?_)
    ·refine B5 fun O8 G6=> ?_;refine Co gC (by kernel_rfl) ?_
     try simp only [W,EE,Nat.reduceAdd]
     refine C6 h (fun hc h=> ?_) (fun hc h=> ?_)
     ·try simp only [W,EE,Nat.reduceAdd,Nat.reduceBEq,hS.var 0 rfl,hc]
      refine Cw 1 hS rfl rfl rfl rfl rfl h (fun QI abh abi abj U5 h U6=> ?_) Hq.ne;obtain ⟨abk,U7,U8⟩:=hS.elem 1 rfl U6 U5;try simp only [W,EE,EN,reduceIte,Nat.reduceAdd,Nat.reduceBEq,U7,U8]
      refine Cb G6 ?_;refine Ca ?_;exact CI Jc ⟨_,(Option.some.inj h).symm,rfl,(hS.C2 3 [1,2,0] (by decide))⟩
     ·try simp only [W,hc]
      refine Cb G6 ?_;refine Ca ?_;exact CI Jc ⟨_,(Option.some.inj h).symm,rfl,(hS.C2 3 [1,2,0] (by decide))⟩
    ·obtain ⟨GF,Eo,rfl,hS⟩:=hq;obtain rfl:=Eo.symm;replace h:=N7;try dsimp only at h
     refine Cb HG ?_;refine B_ ?_;simp only [W];refine Cl h (fun hc h=> ?_) (fun hc h=> ?_)
     ·refine B5 fun NZ IC=> ?_;refine C8 gC [(12,[])] (by kernel_rfl) rfl (by kernel_rfl) ?_
      try simp only [W,EE,reduceIte,Nat.reduceAdd,iX,lJ,Nat.reduceEqDiff]
      refine Cw 0 hS rfl rfl rfl rfl rfl h (fun Gf abl abm abn N8 h U9=> ?_) Hq.ne;obtain ⟨abo,U_,Va⟩:=hS.elem 0 rfl U9 N8;try simp only [W,EE,EN,Nat.reduceAdd,Nat.reduceBEq,hS.var 2 rfl,U_,Va]
      refine Cw 0 hS rfl rfl rfl rfl rfl h (fun Nn abp abq abr RD h RE=> ?_) Hq.ne;obtain ⟨abt,Vb,abu⟩:=hS.elem 0 rfl RE RD;try simp only [W,EE,Nat.reduceAdd,Nat.reduceBEq,Vb]
      refine Cx (a:= .int .i64 (if Fz.To>Gf.To then Fz.To else Gf.To)) (y' :=(⟨Nn.Em,(if Fz.To>Gf.To then Fz.To else Gf.To)⟩:Span)) 0 hS rfl RE RD rfl rfl rfl rfl rfl rfl rfl fun H hS=> ?_
      try simp only [W]
      refine Cb IC ?_;refine B9 ?_;refine Cd Gd ?_;refine Cg Fa ?_;exact CI GQ ⟨_,(Option.some.inj h).symm,_,Hq,rfl,(hS.C2 3 [0,1] (by decide))⟩
     ·refine B7 ?_;refine Cb Gd ?_;refine Cm gC ?_;try simp only [W,EE,reduceIte,Nat.reduceAdd,Nat.reduceLeDiff,hS.var 2 rfl]
      refine CB (el:=([Fz]:List Span).map El) hS rfl rfl rfl rfl rfl rfl rfl fun v54 H Pu hS=> ?_;try simp only [W,EE]
      refine CR (l:=Et) (c:=El) 1 hS rfl Hq rfl rfl rfl (hS.iu 0 rfl Pu) (fun _=>rfl) rfl h fun Pv H Lf MB hm h hS=> ?_;try simp only [W]
      refine Ce Fa ?_;exact CI GQ ⟨_,(Option.some.inj h).symm,_,MB,rfl,(hS.C2 4 [1,2] (by decide))⟩
   ·obtain ⟨Fu,Eo,G7,MC,rfl,hS⟩:=hq;obtain rfl:=Eo.symm;replace h:=Mz;try dsimp only at h
    refine Cb FB ?_;refine Cm gC ?_;try simp only [W,EE,Nat.reduceAdd]
    exact CE E_ h ⟨_,MC,rfl,hS⟩
  ·refine B9 ?_;refine Cd Fj ?_;try obtain rfl:=Option.some.inj h
   obtain rfl:=Mx _ rfl;have h:(some (Et):Option ((List Span)))=some (Et):=rfl;refine CF E_ ?_;refine Cg E9 ?_;exact CI ET ⟨_,(Option.some.inj h).symm,_,Hq,rfl,(hS.C2 2 [0] (by decide))⟩
 ·obtain ⟨EX,Eo,GP,JP,rfl,hS⟩:=hq;obtain rfl:=Eo.symm;replace h:=g23;try dsimp only at h
  refine Cb EO ?_;refine B5 fun Pw ID=> ?_;refine Cm gC ?_;try simp only [W,Nat.reduceAdd]
  refine Cb ID ?_;refine B8 ?_;refine Cj En rfl ?_;try obtain rfl:=Option.some.inj h
  exact hP _ JP _ hS
theorem RF {a0:List Span} {r:(List Span×Bool)} (h:Js a0=some r) {F:List It} {H:J} (hS:ay H (F)) {P:AV→J→Prop} (hP: ∀H',ay H' (F)→P (.az [.fz (r.1.map El),.bool r.2]) H'):aq C 118 [.fz (a0.map El)] H P:=by
 refine Cp gC (res:=[.tmp 2,.tmp 3]) (n:=8) rfl rfl rfl rfl fun K0 En=> ?_;simp only [W,Nat.reduceSub,Nat.reduceAdd,List.replicate];unfold Js at h;refine B5 fun K1 Er=> ?_;refine Cm gC ?_;try simp only [W,Nat.reduceAdd]
 refine Cb Er ?_;refine B5 fun K2 zY=> ?_;refine B5 fun K3 EG=> ?_;refine Cm gC ?_;try simp only [W,EE,Nat.reduceAdd]
 refine Cb EG ?_;refine B_ ?_;simp only [W];refine Cl h (fun hc h=> ?_) (fun hc h=> ?_)
 ·refine B5 fun K4 EI=> ?_;refine B5 fun K5 EV=> ?_;refine Cm gC ?_;try simp only [W,Nat.reduceAdd]
  refine Cb EV ?_;refine C1 ?_;refine CU rfl ?_;simp only [W];refine Cb EI ?_;refine B8 ?_;refine Cc zY ?_;refine Ck En rfl rfl ?_;try obtain rfl:=Option.some.inj h
  exact hP _ hS
 ·refine B7 ?_;refine Cb zY ?_;refine B5 fun K6 Fg=> ?_;refine Cm gC ?_;try simp only [W,Nat.reduceAdd]
  refine Cb Fg ?_;refine B8 ?_;refine Ck En rfl rfl ?_;try obtain rfl:=Option.some.inj h
  exact hP _ hS
theorem Vc {a0:List Span} {a1:List Span} {r:(List Span×Bool)} (h:Lg a0 a1=some r) {F:List It} {H:J} (hS:ay H (F)) {P:AV→J→Prop} (hP: ∀H',ay H' (F)→P (.az [.fz (r.1.map El),.bool r.2]) H'):aq C 140 [.fz (a0.map El),.fz (a1.map El)] H P:=by
 refine Cp gC (res:=[.tmp 4,.tmp 5]) (n:=22) rfl rfl rfl rfl fun K0 En=> ?_;simp only [W,Nat.reduceSub,Nat.reduceAdd,List.replicate];unfold Lg at h;refine B5 fun K1 Er=> ?_;refine Cm gC ?_;try simp only [W,Nat.reduceAdd]
 refine Cb Er ?_;refine B5 fun K2 zY=> ?_;refine B5 fun K3 EG=> ?_;obtain ⟨Gl,h,g6⟩:=Option.bind_eq_some_iff.1 h;refine CH gC (fun s H=> ∃Ez:Bool,Gl=(Ez)∧s=[.fz (a0.map El),.fz (a1.map El),u,u,u,u,u,u,u,u,u,u,u,.bool Ez,u,u,u,u,u,u,u,u]∧ay H (F)) (fun K7 EU=> ?_) (fun s H hq=> ?_)
 ·refine B5 fun K8 EO=> ?_;refine Cm gC ?_;try simp only [W,Nat.reduceAdd]
  refine CC h fun Jt Vd h=> ?_;refine NT Vd hS fun H hS=> ?_;try simp only [W]
  refine C6 h (fun hc h=> ?_) (fun hc h=> ?_)
  ·try simp only [W,hc]
   refine Cb EO ?_;refine Ca ?_;exact CI EU ⟨_,(Option.some.inj h).symm,rfl,hS⟩
  ·try simp only [W,hc]
   refine CC h fun Ht NI h=> ?_;refine NT NI hS fun H hS=> ?_;try simp only [W,reduceIte,Bool.false_eq_true]
   refine Cb EO ?_;refine Ca ?_;exact CI EU ⟨_,(Option.some.inj h).symm,rfl,hS⟩
 ·obtain ⟨Ez,Eo,rfl,hS⟩:=hq;obtain rfl:=Eo.symm;replace h:=g6;try dsimp only at h
  refine Cb EG ?_;refine B_ ?_;simp only [W];refine Cl h (fun hc h=> ?_) (fun hc h=> ?_)
  ·refine B5 fun Iv FN=> ?_;refine B5 fun H7 Fm=> ?_;refine Cm gC ?_;try simp only [W,Nat.reduceAdd]
   refine Cb Fm ?_;refine C1 ?_;refine CU rfl ?_;simp only [W];refine Cb FN ?_;refine B8 ?_;refine Cc zY ?_;refine Ck En rfl rfl ?_;try obtain rfl:=Option.some.inj h
   exact hP _ hS
  ·refine B7 ?_;refine Cb zY ?_;refine B5 fun GJ Fo=> ?_;refine Cn (fz:=[(5,[([18],[.sl [.sc,.sc]])])]) gC ?_;try simp only [W,Nat.reduceAdd,Nat.reduceBEq,List.contains_cons,Nat.reduceBEq,Bool.or_true,Bool.or_self]
   refine CB (el:=([a0,a1]:List (List Span)).map (Ay El)) hS rfl rfl rfl rfl rfl rfl rfl fun If H Kx hS=> ?_;try simp only [W,Nat.reduceAdd,Nat.reduceBEq,Nat.reduceBEq]
   refine Dv (b6:=[[.sl [.sc,.sc]]]) (ys:=[.fz (([a0,a1]:List (List Span)).map (Ay El))]) h rfl (Dh (De hS 0 rfl Kx (fun _=>rfl)) Dg) fun Np Ve h=>⟨.own 2 (Np.map El),UP Ve (ay.nil _) fun v17 Ig H hS=>Dm rfl (Dk 0 hS rfl Ig (fun _ _=>by simp [aY,aO,cp,dp,El]) fun H hS=>Di rfl),(Dw _ (fun _=>rfl) _),?_⟩
   refine Ds ?_;refine Dq hS (fun _ _=>rfl) (fun _=>rfl) fun v19 H Vf hS=> ?_;refine Dn ?_;try simp only [List.headD_cons]
   try simp only [W,Nat.reduceAdd,Nat.reduceBEq,Nat.reduceBEq]
   refine Dv (b6:=[[.sl [.sc,.sc]]]) (ys:=[.fz (Np.map El)]) h rfl (Dh (De hS 0 rfl Vf (fun _=>rfl)) Dg) fun Gq Mq h=>⟨.own 2 (Gq.map El),Rz Mq (ay.nil _) fun v21 IE H hS=>Dm rfl (Dk 0 hS rfl IE (fun _ _=>by simp [aY,aO,cp,dp,El]) fun H hS=>Di rfl),(Dw _ (fun _=>rfl) _),?_⟩
   refine Ds ?_;refine Dq hS (fun _ _=>rfl) (fun _=>rfl) fun v23 H Vg hS=> ?_;refine Dn ?_;try simp only [List.headD_cons]
   try simp only [W,Nat.reduceAdd]
   refine CT 0 hS rfl Vg rfl (fun _ _=>by simp [aY,aO,cp,dp,El]) (fun _=>rfl) fun H r6 hS=> ?_
   try simp only [W]
   refine CC h fun Vh Vi h=> ?_;obtain ⟨Hf,Gt⟩:=Vh;try dsimp only at h
   refine RF Vi hS fun H hS=> ?_;try simp only [W,Nat.reduceAdd,Nat.reduceBEq,Nat.reduceBEq]
   refine Cb Fo ?_;refine B8 ?_;refine Ck En rfl rfl ?_;try obtain rfl:=Option.some.inj h
   exact hP _ (hS.C2 2 [] (by decide))
theorem Vj {a0:List Int} {r:List Int} (h:Nq a0=some r) {F:List It} {H:J} (hS:ay H F) {P:AV→J→Prop} (hP: ∀v0:AV,bp v0→ ∀H',ay H' (⟨v0,1,r.map (AV.int .i64)⟩::F)→P v0 H'):aq C 142 [.fz (a0.map (AV.int .i64))] H P:=
 Eg (I:=Hi) rfl (sz:=1) (b:=8) (by simp [Hi,Mh]) (fun _=>rfl) (by decide) h hS hP
theorem Vk {a0:Int} {a1:List Span} {i1:Nat} {w1:Nat} {r:(Bool)} (h:I3 a0 a1=some r) {F:List It} {H:J} (NU:⟨.ptr i1 w1 0 0,1,[.fz (a1.map El)]⟩∈F) (hS:ay H (F)) {P:AV→J→Prop} (hP: ∀H',ay H' (F)→P (.bool r) H'):aq C 143 [.int .i64 a0,.ptr i1 w1 0 0] H P:=by
 refine Cp gC (res:=[.tmp 3]) (n:=7) rfl rfl rfl rfl fun K0 En=> ?_;simp only [W,Nat.reduceSub,Nat.reduceAdd,List.replicate];unfold I3 at h;refine B5 fun K1 Er=> ?_;refine Cm gC ?_;try simp only [W,Nat.reduceAdd]
 refine Cb Er ?_;refine B5 fun K2 zY=> ?_;refine Cm gC ?_;try simp only [W,EE,Nat.reduceAdd,hS.CS NU]
 refine CC h fun b3 kS h=> ?_;refine JK kS hS fun H hS=> ?_;try simp only [W]
 refine Cb zY ?_;refine B8 ?_;refine Cj En rfl ?_;try obtain rfl:=Option.some.inj h
 exact hP _ hS
theorem Vl {a0:List Int} {g1:Int→Option Bool} {f1:FuncId} {c1:List AV} {r:(Int)} (h:Lh a0 g1=some r) {F:List It} {H:J} (cJ: ∀{x0:Int} {r:Bool},g1 x0=some r→ ∀(L:List It) (n:Nat),L.drop n=F→ ∀(H:J),ay H L→ ∀(P:AV→J→Prop),(∀H',ay H' L→P (.bool r) H')→aq C f1 ([.int .i64 x0] ++ c1) H P) (hS:ay H (F)) {P:AV→J→Prop} (hP: ∀H',ay H' (F)→P (.int .i64 r) H'):aq C 125 [.fz (a0.map (AV.int .i64)),.fn f1 c1] H P:=by
 refine Cp gC (res:=[.tmp 4]) (n:=19) rfl rfl rfl rfl fun K0 En=> ?_;simp only [W,Nat.reduceSub,Nat.reduceAdd,List.replicate];unfold Lh at h;refine B5 fun K1 Er=> ?_;refine Cm gC ?_;try simp only [W,Nat.reduceAdd]
 refine Cb Er ?_;refine B5 fun K2 zY=> ?_;refine B5 fun K3 EG=> ?_;refine Cm gC ?_;try simp only [W,EE,Nat.reduceAdd]
 refine Cb EG ?_;obtain ⟨Gl,GL,g12⟩:=Option.bind_eq_some_iff.1 h;refine CH gC (fun s H=>Gl=LR.next ()∧s=[u,u,u,u,u,u,u,u,u,u,u,u,u,u,u,u,u,u,u]∧ay H (F)) (fun K7 EU=> ?_) (fun s H hq=> ?_)
 ·refine B6 fun K8 EO=> ?_;refine CD gC GL (fun x s H=>s=[.fz (a0.map (AV.int .i64)),.fn f1 c1,u,u,u,u,u,.int .i64 (a0.length:Int),.int .i64 x,u,u,u,u,u,u,u,u,u,u]∧ay H (F)) ⟨rfl,hS⟩ (fun Ez HQ s H h FO hi K9 EK=> ?_)
  skip
  try dsimp only at hi
  obtain ⟨rfl,hS⟩:=hi;simp only [OS] at h;refine B5 fun GJ Fo=> ?_;refine Cm gC ?_;try simp only [W,EE,Nat.reduceAdd]
  refine Cb Fo ?_;refine B5 fun Hz Fe=> ?_;refine B_ ?_;simp only [W];refine Cl h (fun hc h=> ?_) (fun hc h=> ?_)
  ·refine B7 ?_;refine Cb Fe ?_;refine B5 fun G5 E8=> ?_;refine B6 fun F8 EQ=> ?_;refine B5 fun FY EH=> ?_;refine Cm gC ?_;try simp only [W,Nat.reduceAdd]
   refine Cb EH ?_;refine B5 fun Gc ET=> ?_;refine Cm gC ?_;try simp only [W,EE,Nat.reduceAdd]
   refine Cv rfl rfl rfl (fun _=>rfl) h fun FK H9 h=> ?_;try simp only [W,EE]
   refine CC h fun Gq Mq h=> ?_;refine cJ Mq _ 0 rfl _ hS _ fun H hS=> ?_;try simp only [W]
   refine Cb ET ?_;refine B_ ?_;simp only [W];refine Cl h (fun hc h=> ?_) (fun hc h=> ?_)
   ·refine B5 fun HA FA=> ?_;refine Cm gC ?_;try simp only [W,Nat.reduceAdd]
    refine Cb FA ?_;refine B8 ?_;refine Ch EQ ?_;refine Cc E8 ?_;try obtain rfl:=Option.some.inj h
    obtain rfl:=FO _ rfl;have h:(some (LR.done Ez):Option (LR Unit (Int)))=some (LR.done Ez):=rfl;refine CG EK ?_;refine Ch EO ?_;try obtain rfl:=Option.some.inj h
    obtain rfl:=Option.some.inj g12;have h:(some Ez:Option (Int))=some Ez:=rfl;refine CJ EU ?_;refine Cc zY ?_;refine Cj En rfl ?_;try obtain rfl:=Option.some.inj h
    exact hP _ hS
   ·refine B7 ?_;refine Cf EQ ?_;refine Cb E8 ?_;refine Cm gC ?_;try simp only [W,EE,Nat.reduceAdd]
    exact CE EK h ⟨rfl,hS⟩
  ·refine B9 ?_;refine Cd Fe ?_;try obtain rfl:=Option.some.inj h
   obtain rfl:=FO _ rfl;have h:(some (LR.next ()):Option (LR Unit (Int)))=some (LR.next ()):=rfl
   refine CF EK ?_;refine Cg EO ?_;exact CI EU ⟨(Option.some.inj h).symm,rfl,hS⟩
 ·obtain ⟨rfl,rfl,hS⟩:=hq;replace h:=g12;try dsimp only at h
  refine Cb zY ?_;refine B5 fun Hk Fs=> ?_;refine Cm gC ?_;try simp only [W,Nat.reduceAdd]
  refine Cb Fs ?_;refine B8 ?_;refine Cj En rfl ?_;try obtain rfl:=Option.some.inj h
  exact hP _ hS
theorem Vm {a0:Int} {a1:List Span} {r:(Bool)} (h:I3 a0 a1=some r) {F:List It} {H:J} (hS:ay H (F)) {P:AV→J→Prop} (hP: ∀H',ay H' (F)→P (.bool r) H'):aq C 143 [.int .i64 a0,.fe (.fz (a1.map El)) 0] H P:=by
 refine Cp gC (res:=[.tmp 3]) (n:=7) rfl rfl rfl rfl fun K0 En=> ?_;simp only [W,Nat.reduceSub,Nat.reduceAdd,List.replicate];unfold I3 at h;refine B5 fun K1 Er=> ?_;refine Cm gC ?_;try simp only [W,Nat.reduceAdd]
 refine Cb Er ?_;refine B5 fun K2 zY=> ?_;refine Cm gC ?_;try simp only [W,EE,Nat.reduceAdd]
 refine CC h fun b3 kS h=> ?_;refine JK kS hS fun H hS=> ?_;try simp only [W]
 refine Cb zY ?_;refine B8 ?_;refine Cj En rfl ?_;try obtain rfl:=Option.some.inj h
 exact hP _ hS
theorem Vn {a0:List Int} {a2:List Span} {i2:Nat} {w2:Nat} {m0:AV} {r:(List Int)} (h:Li a0 a2=some r) {F:List It} {H:J} (kN:⟨.ptr i2 w2 0 0,1,[.fz (a2.map El)]⟩∈F) (hS:ay H (⟨m0,1,a0.map (AV.int .i64)⟩::F)) (Hp:bp m0) {P:AV→J→Prop} (hP: ∀v54:AV,bp v54→ ∀H',ay H' (⟨v54,1,r.map (AV.int .i64)⟩::F)→P (v54) H'):aq C 141 [m0,.fn 143 [.ptr i2 w2 0 0]] H P:=by
 refine Cp gC (res:=[.tmp 4]) (n:=42) rfl rfl rfl rfl fun K0 En=> ?_;simp only [W,Nat.reduceSub,Nat.reduceAdd,List.replicate];unfold Li at h;refine B5 fun K1 Er=> ?_;refine Cm gC ?_;try simp only [W,Nat.reduceAdd]
 refine Cb Er ?_;refine B5 fun K2 zY=> ?_;refine Cm gC ?_;try simp only [W,Nat.reduceAdd]
 refine Du (b6:=[[.sc]]) (ys:=[.fz (a0.map (AV.int .i64)),.fn 143 [.fe (.fz (a2.map El)) 0]]) h rfl (Dh (De hS 0 rfl Hp (fun _=>rfl)) (Dh (Dd (AB (Df hS (List.mem_cons_of_mem _ (kN)) rfl) (Db _))) Dg)) fun b3 kS h=>⟨.int .i64 b3,Vl kS (fun h _ n hL _ hS _ hP=>Vm h hS hP) (ay.nil _) fun H hS=>Dm rfl (Dj rfl (Di rfl)),⟨rfl,rfl,fun _=>rfl⟩,?_⟩;try simp only [W]
 refine Cb zY ?_;refine B5 fun K4 EI=> ?_;refine B5 fun K5 EV=> ?_;refine Cm gC ?_;try simp only [W,EE,Nat.reduceAdd]
 refine Cb EV ?_;refine B_ ?_;simp only [W];refine Cl h (fun hc h=> ?_) (fun hc h=> ?_)
 ·refine B5 fun K6 Fg=> ?_;refine Cm gC ?_;try simp only [W,Nat.reduceAdd]
  refine Cb Fg ?_;refine B8 ?_;refine Cc EI ?_;refine Cj En rfl ?_;try obtain rfl:=Option.some.inj h
  exact hP _ Hp _ hS
 ·refine B7 ?_;refine Cb EI ?_;refine B5 fun K7 EU=> ?_;refine B5 fun K8 EO=> ?_;refine Cm gC ?_;try simp only [W,EE,Nat.reduceAdd]
  refine Cb EO ?_;obtain ⟨HD,MD,g21⟩:=Option.bind_eq_some_iff.1 h;refine CH gC (fun s H=> ∃E6:List Int,∃EC:Int,HD=(E6,EC)∧s=[m0,u,u,u,u,.int .i64 EC,u,u,u,u,u,u,u,u,u,u,u,u,u,u,u,u,u,u,u,u,u,u,u,u,u,u,u,u,u,u,u,u,u,u,u,u]∧ay H (⟨m0,1,E6.map (AV.int .i64)⟩::F)) (fun F8 EQ=> ?_) (fun s H hq=> ?_)
  ·refine B6 fun FY EH=> ?_;refine CD gC MD (fun x s H=>match x with|(ER,Et,EJ)=>s=[m0,.fn 143 [.ptr i2 w2 0 0],u,u,u,.int .i64 Et,.int .i64 EJ,u,u,u,u,u,u,u,u,u,u,u,u,u,u,u,u,u,u,u,u,u,u,u,u,u,u,u,u,u,u,u,u,u,u,u]∧ay H (⟨m0,1,ER.map (AV.int .i64)⟩::F)) ⟨rfl,hS⟩ (fun x RG s H h ME hi Gc ET=> ?_)
   obtain ⟨ER,Et,EJ⟩:=x;try dsimp only at hi
   obtain ⟨rfl,hS⟩:=hi;simp only [Nr] at h;refine B5 fun Iw FL=> ?_;refine B5 fun Ib FI=> ?_;refine Cm gC ?_;try simp only [W,EE,Nat.reduceAdd]
   refine Cz 0 hS rfl Hp rfl ?_;try simp only [W,EE]
   refine Cb FI ?_;refine B_ ?_;simp only [W];refine Cl h (fun hc h=> ?_) (fun hc h=> ?_)
   ·refine B7 ?_;refine Cb FL ?_;refine B5 fun GM Ff=> ?_;obtain ⟨NX,h,Mr⟩:=Option.bind_eq_some_iff.1 h;refine CH gC (fun s H=> ∃HK:List Int,∃F3:Int,NX=(HK,F3)∧s=[m0,.fn 143 [.ptr i2 w2 0 0],u,u,u,.int .i64 F3,.int .i64 EJ,u,u,u,u,u,u,u,u,u,u,u,u,u,u,u,u,u,u,u,u,u,u,u,u,u,u,u,u,u,u,u,u,u,u,u]∧ay H (⟨m0,1,HK.map (AV.int .i64)⟩::F)) (fun Ms HF=> ?_) (fun s H hq=> ?_)
    ·refine B6 fun Hj Fj=> ?_;refine B5 fun Ku Hn=> ?_;refine Cm gC ?_;try simp only [W,EE,Nat.reduceAdd]
     refine Cw 0 hS rfl rfl rfl rfl rfl h (fun Hw abv abw abx RH h Vo=> ?_) Hp.ne;obtain ⟨aby,Vp,Vq⟩:=hS.elem 0 rfl Vo RH;try simp only [W,EE,Vp,Vq]
     refine Cb Hn ?_;refine B5 fun Kv GN=> ?_;refine Cm gC ?_;try simp only [W,Nat.reduceAdd]
     refine CC h fun Fz IB h=> ?_;refine Vk IB (List.mem_cons_of_mem _ (kN)) hS fun H hS=> ?_;try simp only [W]
     refine Cb GN ?_;obtain ⟨Vr,h,Vs⟩:=Option.bind_eq_some_iff.1 h;refine CH gC (fun s H=> ∃FT:List Int,∃GG:Int,Vr=(FT,GG)∧s=[m0,.fn 143 [.ptr i2 w2 0 0],u,u,u,.int .i64 GG,.int .i64 EJ,u,u,u,u,u,u,u,u,u,u,u,u,u,u,u,u,u,u,u,u,u,u,u,u,u,u,u,u,u,u,u,u,u,u,u]∧ay H (⟨m0,1,FT.map (AV.int .i64)⟩::F)) (fun NV HR=> ?_) (fun s H hq=> ?_)
     ·refine B5 fun N6 HG=> ?_;refine B_ ?_;simp only [W];refine Cl h (fun hc h=> ?_) (fun hc h=> ?_)
      ·refine B5 fun MF Gm=> ?_;refine Cm gC ?_;try simp only [W,EE,Nat.reduceAdd]
       refine Cw 0 hS rfl rfl rfl rfl rfl h (fun L4 abz abA abB N9 h RI=> ?_) Hp.ne;obtain ⟨abC,abD,abE⟩:=hS.elem 0 rfl RI N9;try simp only [W]
       refine Cx (a:= .int .i64 Hw) (y' :=Hw) 0 hS rfl RI N9 rfl rfl rfl rfl rfl rfl rfl fun H hS=> ?_
       try simp only [W]
       refine Cb Gm ?_;refine Cm gC ?_;try simp only [W,EE,Nat.reduceAdd]
       refine Cb HG ?_;refine Ca ?_;exact CI HR ⟨_,_,(Option.some.inj h).symm,rfl,hS⟩
      ·refine B7 ?_;refine Cb HG ?_;refine Ca ?_;exact CI HR ⟨_,_,(Option.some.inj h).symm,rfl,hS⟩
     ·obtain ⟨FT,GG,rfl,rfl,hS⟩:=hq;replace h:=Vs;try dsimp only at h
      refine Ce Fj ?_;exact CI HF ⟨_,_,(Option.some.inj h).symm,rfl,hS⟩
    ·obtain ⟨HK,F3,rfl,rfl,hS⟩:=hq;replace h:=Mr;try dsimp only at h
     refine Cb Ff ?_;refine Cm gC ?_;try simp only [W,EE,Nat.reduceAdd]
     exact CE ET h ⟨rfl,hS⟩
   ·refine B9 ?_;refine Cd FL ?_;try obtain rfl:=Option.some.inj h
    obtain rfl:=ME _ rfl;have h:(some (ER,Et):Option ((List Int)×Int))=some (ER,Et):=rfl;refine CF ET ?_;refine Cg EH ?_;exact CI EQ ⟨_,_,(Option.some.inj h).symm,rfl,hS⟩
  ·obtain ⟨E6,EC,rfl,rfl,hS⟩:=hq;replace h:=g21;try dsimp only at h
   refine Cb EU ?_;refine B5 fun Mk Gk=> ?_;refine Cm gC ?_;try simp only [W,EE,Nat.reduceAdd]
   refine DM 0 hS rfl Hp rfl rfl rfl h fun v49 QJ abF Vt Vu h=> ?_;try simp only [W]
   refine DP (d:=(0:Int)) 0 hS rfl rfl rfl rfl rfl rfl Vt Vu fun H hS=> ?_;try simp only [W]
   refine Cb Gk ?_;refine B5 fun N0 Ie=> ?_;refine Cm gC ?_;try simp only [W,EE,Nat.reduceAdd]
   refine CP 0 hS rfl Hp rfl rfl rfl h fun IF QK Px abG h hS=> ?_;try simp only [W]
   refine Cb Ie ?_;refine B8 ?_;refine Cj En rfl ?_;try obtain rfl:=Option.some.inj h
   exact hP _ Px _ hS
theorem abH {a0:EB} {i0:Nat} {w0:Nat} {r:(List Int)} (h:I4 a0=some r) {F:List It} {H:J} (xS:⟨.ptr i0 w0 0 0,3,[.agg [.int .i64 a0.Next,.fz (a0.Es.map El),.fz (a0.Ep.map (AV.int .i64))]]⟩∈F) (hS:ay H (F)) {P:AV→J→Prop} (hP: ∀IF:AV,bp IF→ ∀H',ay H' (⟨IF,1,r.map (AV.int .i64)⟩::F)→P (IF) H'):aq C 144 [.ptr i0 w0 0 0] H P:=by
 refine Cp gC (res:=[.tmp 2]) (n:=35) rfl rfl rfl rfl fun K0 En=> ?_;simp only [W,Nat.reduceSub,Nat.reduceAdd,List.replicate];unfold I4 at h;refine B5 fun K1 Er=> ?_;refine Cm gC ?_;try simp only [W,Nat.reduceAdd]
 refine Cb Er ?_;refine B5 fun K2 zY=> ?_;refine Cm gC ?_;try simp only [W,Nat.reduceAdd]
 refine CA rfl rfl ?_;try simp only [W]
 refine Cb zY ?_;refine B5 fun K3 EG=> ?_;refine B5 fun K4 EI=> ?_;refine Cm gC ?_;try simp only [W,EE,Nat.reduceAdd,Nat.reduceBEq,hS.CS xS]
 refine Cb EI ?_;obtain ⟨HQ,Py,g18⟩:=Option.bind_eq_some_iff.1 h;refine CH gC (fun s H=> ∃ER:List Int,HQ=(ER)∧ ∃v10:AV,bp v10∧s=[u,u,u,v10,u,u,u,u,u,u,u,u,u,u,u,u,u,u,u,u,u,u,u,u,u,u,u,u,u,u,u,u,u,u,u]∧ay H (⟨v10,1,ER.map (AV.int .i64)⟩::F)) (fun GJ Fo=> ?_) (fun s H hq=> ?_)
 ·refine B6 fun Hz Fe=> ?_;refine CD gC Py (fun x s H=>match x with|(ED,E7)=> ∃v6:AV,bp v6∧s=[.ptr i0 w0 0 0,u,u,v6,u,u,u,u,u,.int .i64 a0.Next,.int .i64 E7,u,u,u,u,u,u,u,u,u,u,u,u,u,u,u,u,u,u,u,u,u,u,u,u]∧ay H (⟨v6,1,ED.map (AV.int .i64)⟩::F)) ⟨_,nu,rfl,(hS.Av 1)⟩ (fun x Mi s H h Pz hi G5 E8=> ?_)
  obtain ⟨ED,E7⟩:=x;try dsimp only at hi
  obtain ⟨v6,Gx,rfl,hS⟩:=hi;simp only [Lj] at h;refine B5 fun Gw E9=> ?_;refine Cm gC ?_;try simp only [W,EE,Nat.reduceAdd]
  refine Cb E9 ?_;refine B5 fun GK E_=> ?_;refine B_ ?_;simp only [W];refine Cl h (fun hc h=> ?_) (fun hc h=> ?_)
  ·refine B7 ?_;refine Cb E_ ?_;refine B5 fun HA FA=> ?_;obtain ⟨Ky,h,JQ⟩:=Option.bind_eq_some_iff.1 h;refine CH gC (fun s H=> ∃Hu:List Int,Ky=(Hu)∧ ∃v24:AV,bp v24∧s=[.ptr i0 w0 0 0,u,u,v24,u,u,u,u,u,.int .i64 a0.Next,.int .i64 E7,u,u,u,u,u,u,u,u,u,u,u,u,u,u,u,u,u,u,u,u,u,u,u,u]∧ay H (⟨v24,1,Hu.map (AV.int .i64)⟩::F)) (fun Gy Fa=> ?_) (fun s H hq=> ?_)
   ·refine B6 fun Iw FL=> ?_;refine B5 fun Hk Fs=> ?_;refine Cm gC ?_;try simp only [W,Nat.reduceAdd]
    refine Cb Fs ?_;refine B5 fun Mp Hm=> ?_;obtain ⟨My,h,Mz⟩:=Option.bind_eq_some_iff.1 h;refine CH gC (fun s H=> ∃F4:Bool,My=(F4)∧s=[.ptr i0 w0 0 0,u,u,v6,.int .i64 E7,u,u,u,u,.int .i64 a0.Next,.int .i64 E7,u,u,u,u,u,u,u,u,u,u,u,u,u,u,u,u,u,.bool F4,u,u,u,u,u,u]∧ay H (⟨v6,1,ED.map (AV.int .i64)⟩::F)) (fun MA GQ=> ?_) (fun s H hq=> ?_)
    ·refine B5 fun Kv GN=> ?_;refine Cm gC ?_;try simp only [W,EE,Nat.reduceAdd,Nat.reduceBEq,hS.CS (List.mem_cons_of_mem _ (xS))]
     refine CC h fun Fz IB h=> ?_;refine JK IB hS fun H hS=> ?_;try simp only [W]
     refine C6 h (fun hc h=> ?_) (fun hc h=> ?_)
     ·try simp only [W,EE,Nat.reduceAdd,Nat.reduceBEq,hS.CS (List.mem_cons_of_mem _ (xS)),hc]
      refine CC h fun Ju MH h=> ?_;refine Pj MH hS fun H hS=> ?_;try simp only [W,reduceIte]
      refine Cb GN ?_;refine Ca ?_;exact CI GQ ⟨_,(Option.some.inj h).symm,rfl,hS⟩
     ·try simp only [W,hc]
      refine Cb GN ?_;refine Ca ?_;exact CI GQ ⟨_,(Option.some.inj h).symm,rfl,hS⟩
    ·obtain ⟨F4,Eo,rfl,hS⟩:=hq;obtain rfl:=Eo.symm;replace h:=Mz;try dsimp only at h
     refine Cb Hm ?_;obtain ⟨N_,h,MI⟩:=Option.bind_eq_some_iff.1 h;refine CH gC (fun s H=> ∃GG:List Int,N_=(GG)∧ ∃Hr:AV,bp Hr∧s=[.ptr i0 w0 0 0,u,u,Hr,u,u,u,u,u,.int .i64 a0.Next,.int .i64 E7,u,u,u,u,u,u,u,u,u,u,u,u,u,u,u,u,u,u,u,u,u,u,u,u]∧ay H (⟨Hr,1,GG.map (AV.int .i64)⟩::F)) (fun MF Gm=> ?_) (fun s H hq=> ?_)
     ·refine B5 fun MJ Gz=> ?_;refine B_ ?_;simp only [W];refine Cl h (fun hc h=> ?_) (fun hc h=> ?_)
      ·refine Cm gC ?_;try simp only [W,Nat.reduceAdd]
       refine CB (el:=([E7]:List Int).map (AV.int .i64)) hS rfl rfl rfl rfl rfl rfl rfl fun v44 H PA hS=> ?_;try simp only [W,EE]
       refine CR (l:=ED) (c:=(AV.int .i64)) 1 hS rfl Gx rfl rfl rfl (hS.iu 0 rfl PA) (fun _=>rfl) rfl h fun Kz H Gb MK hm h hS=> ?_;try simp only [W]
       refine Cb Gz ?_;refine Ca ?_;exact CI Gm ⟨_,(Option.some.inj h).symm,_,MK,rfl,(hS.C2 2 [1] (by decide))⟩
      ·refine B7 ?_;refine Cb Gz ?_;refine Ca ?_;exact CI Gm ⟨_,(Option.some.inj h).symm,_,Gx,rfl,hS⟩
     ·obtain ⟨GG,Eo,Hr,PB,rfl,hS⟩:=hq;obtain rfl:=Eo.symm;replace h:=MI;try dsimp only at h
      refine Ce FL ?_;exact CI Fa ⟨_,(Option.some.inj h).symm,_,PB,rfl,hS⟩
   ·obtain ⟨Hu,Eo,v24,ML,rfl,hS⟩:=hq;obtain rfl:=Eo.symm;replace h:=JQ;try dsimp only at h
    refine Cb FA ?_;refine Cm gC ?_;try simp only [W,EE,Nat.reduceAdd]
    exact CE E8 h ⟨_,ML,rfl,hS⟩
  ·refine B9 ?_;refine Cd E_ ?_;try obtain rfl:=Option.some.inj h
   obtain rfl:=Pz _ rfl;have h:(some (ED):Option ((List Int)))=some (ED):=rfl;refine CF E8 ?_;refine Cg Fe ?_;exact CI Fo ⟨_,(Option.some.inj h).symm,_,Gx,rfl,hS⟩
 ·obtain ⟨ER,Eo,v10,FP,rfl,hS⟩:=hq;obtain rfl:=Eo.symm;replace h:=g18;try dsimp only at h
  refine Cb EG ?_;refine B5 fun Oa Ih=> ?_;refine Cm gC ?_;try simp only [W,Nat.reduceAdd]
  refine Cb Ih ?_;refine B8 ?_;refine Cj En rfl ?_;try obtain rfl:=Option.some.inj h
  exact hP _ FP _ hS
theorem Vv {a0:EB} {r:(List Int)} (h:I4 a0=some r) {F:List It} {H:J} (hS:ay H (F)) {P:AV→J→Prop} (hP: ∀IF:AV,bp IF→ ∀H',ay H' (⟨IF,1,r.map (AV.int .i64)⟩::F)→P (IF) H'):aq C 144 [.fe (.agg [.int .i64 a0.Next,.fz (a0.Es.map El),.fz (a0.Ep.map (AV.int .i64))]) 0] H P:=by
 refine Cp gC (res:=[.tmp 2]) (n:=35) rfl rfl rfl rfl fun K0 En=> ?_;simp only [W,Nat.reduceSub,Nat.reduceAdd,List.replicate];unfold I4 at h;refine B5 fun K1 Er=> ?_;refine Cm gC ?_;try simp only [W,Nat.reduceAdd]
 refine Cb Er ?_;refine B5 fun K2 zY=> ?_;refine Cm gC ?_;try simp only [W,Nat.reduceAdd]
 refine CA rfl rfl ?_;try simp only [W]
 refine Cb zY ?_;refine B5 fun K3 EG=> ?_;refine B5 fun K4 EI=> ?_;refine Cm gC ?_;try simp only [W,EE,Nat.reduceAdd,Nat.reduceBEq]
 refine Cb EI ?_;obtain ⟨HQ,Py,g18⟩:=Option.bind_eq_some_iff.1 h;refine CH gC (fun s H=> ∃ER:List Int,HQ=(ER)∧ ∃v10:AV,bp v10∧s=[u,u,u,v10,u,u,u,u,u,u,u,u,u,u,u,u,u,u,u,u,u,u,u,u,u,u,u,u,u,u,u,u,u,u,u]∧ay H (⟨v10,1,ER.map (AV.int .i64)⟩::F)) (fun GJ Fo=> ?_) (fun s H hq=> ?_)
 ·refine B6 fun Hz Fe=> ?_;refine CD gC Py (fun x s H=>match x with|(ED,E7)=> ∃v6:AV,bp v6∧s=[.fe (.agg [.int .i64 a0.Next,.fz (a0.Es.map El),.fz (a0.Ep.map (AV.int .i64))]) 0,u,u,v6,u,u,u,u,u,.int .i64 a0.Next,.int .i64 E7,u,u,u,u,u,u,u,u,u,u,u,u,u,u,u,u,u,u,u,u,u,u,u,u]∧ay H (⟨v6,1,ED.map (AV.int .i64)⟩::F)) ⟨_,nu,rfl,(hS.Av 1)⟩ (fun x Mi s H h Pz hi G5 E8=> ?_)
  obtain ⟨ED,E7⟩:=x;try dsimp only at hi
  obtain ⟨v6,Gx,rfl,hS⟩:=hi;simp only [Lj] at h;refine B5 fun Gw E9=> ?_;refine Cm gC ?_;try simp only [W,EE,Nat.reduceAdd]
  refine Cb E9 ?_;refine B5 fun GK E_=> ?_;refine B_ ?_;simp only [W];refine Cl h (fun hc h=> ?_) (fun hc h=> ?_)
  ·refine B7 ?_;refine Cb E_ ?_;refine B5 fun HA FA=> ?_;obtain ⟨Ky,h,JQ⟩:=Option.bind_eq_some_iff.1 h;refine CH gC (fun s H=> ∃Hu:List Int,Ky=(Hu)∧ ∃v24:AV,bp v24∧s=[.fe (.agg [.int .i64 a0.Next,.fz (a0.Es.map El),.fz (a0.Ep.map (AV.int .i64))]) 0,u,u,v24,u,u,u,u,u,.int .i64 a0.Next,.int .i64 E7,u,u,u,u,u,u,u,u,u,u,u,u,u,u,u,u,u,u,u,u,u,u,u,u]∧ay H (⟨v24,1,Hu.map (AV.int .i64)⟩::F)) (fun Gy Fa=> ?_) (fun s H hq=> ?_)
   ·refine B6 fun Iw FL=> ?_;refine B5 fun Hk Fs=> ?_;refine Cm gC ?_;try simp only [W,Nat.reduceAdd]
    refine Cb Fs ?_;refine B5 fun Mp Hm=> ?_;obtain ⟨My,h,Mz⟩:=Option.bind_eq_some_iff.1 h;refine CH gC (fun s H=> ∃F4:Bool,My=(F4)∧s=[.fe (.agg [.int .i64 a0.Next,.fz (a0.Es.map El),.fz (a0.Ep.map (AV.int .i64))]) 0,u,u,v6,.int .i64 E7,u,u,u,u,.int .i64 a0.Next,.int .i64 E7,u,u,u,u,u,u,u,u,u,u,u,u,u,u,u,u,u,.bool F4,u,u,u,u,u,u]∧ay H (⟨v6,1,ED.map (AV.int .i64)⟩::F)) (fun MA GQ=> ?_) (fun s H hq=> ?_)
    ·refine B5 fun Kv GN=> ?_;refine Cm gC ?_;try simp only [W,EE,Nat.reduceAdd,Nat.reduceBEq]
     refine CC h fun Fz IB h=> ?_;refine JK IB hS fun H hS=> ?_;try simp only [W]
     refine C6 h (fun hc h=> ?_) (fun hc h=> ?_)
     ·try simp only [W,EE,Nat.reduceAdd,Nat.reduceBEq,hc]
      refine CC h fun Ju MH h=> ?_;refine Pj MH hS fun H hS=> ?_;try simp only [W,reduceIte]
      refine Cb GN ?_;refine Ca ?_;exact CI GQ ⟨_,(Option.some.inj h).symm,rfl,hS⟩
     ·try simp only [W,hc]
      refine Cb GN ?_;refine Ca ?_;exact CI GQ ⟨_,(Option.some.inj h).symm,rfl,hS⟩
    ·obtain ⟨F4,Eo,rfl,hS⟩:=hq;obtain rfl:=Eo.symm;replace h:=Mz;try dsimp only at h
     refine Cb Hm ?_;obtain ⟨N_,h,MI⟩:=Option.bind_eq_some_iff.1 h;refine CH gC (fun s H=> ∃GG:List Int,N_=(GG)∧ ∃Hr:AV,bp Hr∧s=[.fe (.agg [.int .i64 a0.Next,.fz (a0.Es.map El),.fz (a0.Ep.map (AV.int .i64))]) 0,u,u,Hr,u,u,u,u,u,.int .i64 a0.Next,.int .i64 E7,u,u,u,u,u,u,u,u,u,u,u,u,u,u,u,u,u,u,u,u,u,u,u,u]∧ay H (⟨Hr,1,GG.map (AV.int .i64)⟩::F)) (fun MF Gm=> ?_) (fun s H hq=> ?_)
     ·refine B5 fun MJ Gz=> ?_;refine B_ ?_;simp only [W];refine Cl h (fun hc h=> ?_) (fun hc h=> ?_)
      ·refine Cm gC ?_;try simp only [W,Nat.reduceAdd]
       refine CB (el:=([E7]:List Int).map (AV.int .i64)) hS rfl rfl rfl rfl rfl rfl rfl fun v44 H PA hS=> ?_;try simp only [W,EE]
       refine CR (l:=ED) (c:=(AV.int .i64)) 1 hS rfl Gx rfl rfl rfl (hS.iu 0 rfl PA) (fun _=>rfl) rfl h fun Kz H Gb MK hm h hS=> ?_;try simp only [W]
       refine Cb Gz ?_;refine Ca ?_;exact CI Gm ⟨_,(Option.some.inj h).symm,_,MK,rfl,(hS.C2 2 [1] (by decide))⟩
      ·refine B7 ?_;refine Cb Gz ?_;refine Ca ?_;exact CI Gm ⟨_,(Option.some.inj h).symm,_,Gx,rfl,hS⟩
     ·obtain ⟨GG,Eo,Hr,PB,rfl,hS⟩:=hq;obtain rfl:=Eo.symm;replace h:=MI;try dsimp only at h
      refine Ce FL ?_;exact CI Fa ⟨_,(Option.some.inj h).symm,_,PB,rfl,hS⟩
   ·obtain ⟨Hu,Eo,v24,ML,rfl,hS⟩:=hq;obtain rfl:=Eo.symm;replace h:=JQ;try dsimp only at h
    refine Cb FA ?_;refine Cm gC ?_;try simp only [W,EE,Nat.reduceAdd]
    exact CE E8 h ⟨_,ML,rfl,hS⟩
  ·refine B9 ?_;refine Cd E_ ?_;try obtain rfl:=Option.some.inj h
   obtain rfl:=Pz _ rfl;have h:(some (ED):Option ((List Int)))=some (ED):=rfl;refine CF E8 ?_;refine Cg Fe ?_;exact CI Fo ⟨_,(Option.some.inj h).symm,_,Gx,rfl,hS⟩
 ·obtain ⟨ER,Eo,v10,FP,rfl,hS⟩:=hq;obtain rfl:=Eo.symm;replace h:=g18;try dsimp only at h
  refine Cb EG ?_;refine B5 fun Oa Ih=> ?_;refine Cm gC ?_;try simp only [W,Nat.reduceAdd]
  refine Cb Ih ?_;refine B8 ?_;refine Cj En rfl ?_;try obtain rfl:=Option.some.inj h
  exact hP _ FP _ hS
theorem RJ {a0 r:List Int} (h:slices_Sort_int a0=some r) {F:List It} {H:J} {m0:AV} (hS:ay H (⟨m0,1,a0.map (AV.int .i64)⟩::F)) (Hp:bp m0) {P:AV→J→Prop} (hP: ∀H',ay H' (⟨m0,1,r.map (AV.int .i64)⟩::F)→P (.az []) H'):aq C 88 [m0] H P:=
 Ej (I:=Hi) rfl (by simp [Hi,lO]) h hS Hp hP
theorem Vw {a0:EB} {a1:List Span} {r:(EB×List Int×List Int×Bool)} (h:Lp a0 a1=some r) {F:List It} {H:J} (hS:ay H (F)) {P:AV→J→Prop} (hP: ∀v148:AV,bp v148→ ∀PC:AV,bp PC→ ∀H',ay H' (⟨v148,1,r.2.1.map (AV.int .i64)⟩::⟨PC,1,r.2.2.1.map (AV.int .i64)⟩::F)→P (.az [.agg [.int .i64 r.1.Next,.fz (r.1.Es.map El),.fz (r.1.Ep.map (AV.int .i64))],v148,PC,.bool r.2.2.2]) H'):aq C 114 [.agg [.int .i64 a0.Next,.fz (a0.Es.map El),.fz (a0.Ep.map (AV.int .i64))],.fz (a1.map El)] H P:=by
 refine Cp gC (res:=[.cell 4 116,.tmp 5,.tmp 6,.tmp 7]) (n:=106) rfl rfl rfl rfl fun K0 En=> ?_;simp only [W,Nat.reduceSub,Nat.reduceAdd,List.replicate];unfold Lp at h;refine B5 fun K1 Er=> ?_;refine Cm gC ?_;try simp only [W,Nat.reduceAdd]
 refine Cr hS rfl rfl rfl rfl fun Eu Ev H hS=> ?_;try simp only [W]
 refine Cs hS rfl rfl fun Ew Ey H hS=> ?_;try simp only [W]
 refine Cb Er ?_;refine B5 fun K6 Fg=> ?_;refine B5 fun K7 EU=> ?_;obtain ⟨Vx,h,g10⟩:=Option.bind_eq_some_iff.1 h;refine CH gC (fun s H=> ∃E7:Bool,Vx=(E7)∧s=(u:: .fz (a1.map El):: .ptr Eu Ev 0 0::u:: .ptr Ew Ey 0 0::u::u::u::u::u::u::u::u::u::u::u::u::u::u::u::u::u::u::u::u::u:: .bool E7::u::u::u::u::u::u::u::u::u::u::u::u::u::u::u::u::u::u::u::u::u::u::u::u::u::u::u::u::u::u::u::u::u::u::u::u::u::u::u::u::u::u::u::u::u::u::u::u::u::u::u::u::u::u::u::u::u::u::u::u::u::u::u::u::u::u::u::u::u::u::u::u::u::u::u::u::u::u::u::[])∧ay H (⟨.ptr Eu Ev 0 0,3,[.agg [.int .i64 a0.Next,.fz (a0.Es.map El),.fz (a0.Ep.map (AV.int .i64))]]⟩::⟨.ptr Ew Ey 0 0,3,[.agg [.int .i64 0,.nil,.nil]]⟩::F)) (fun Iv FN=> ?_) (fun s H hq=> ?_)
 ·refine B5 fun H7 Fm=> ?_;refine Cm gC ?_;try simp only [W,EE,reduceIte,Nat.reduceAdd,Nat.reduceLeDiff,hS.var 1 rfl]
  refine CC h fun Fv Ph h=> ?_;refine UJ Ph hS fun H hS=> ?_;try simp only [W]
  refine C6 h (fun hc h=> ?_) (fun hc h=> ?_)
  ·try simp only [W,hc]
   refine Cb Fm ?_;refine DR (s' :=(u:: .fz (a1.map El):: .ptr Eu Ev 0 0::u:: .ptr Ew Ey 0 0::u::u::u::u::u::u::u::u::u::u::u::u::u::u::u::u::u::u::u::u::u:: .bool true::u::u::u::u::u::u::u::u::u::u::u::u::u::u::u::u::u::u::u::u::u::u::u::u::u::u::u::u::u::u::u::u::u::u::u::u::u::u::u::u::u::u::u::u::u::u::u::u::u::u::u::u::u::u::u::u::u::u::u::u::u::u::u::u::u::u::u::u::u::u::u::u::u::u::u::u::u::u::u::[])) rfl ?_
   exact CI FN ⟨_,(Option.some.inj h).symm,rfl,(hS.C2 2 [1,0] (by decide))⟩
  ·try simp only [W,EE,Nat.reduceAdd,Nat.reduceBEq,hS.var 1 rfl,hc]
   refine CC h fun GD Vy h=> ?_;refine Rv Vy hS fun H hS=> ?_;try simp only [W,reduceIte,Bool.false_eq_true]
   refine Cb Fm ?_;refine DR (s' :=(u:: .fz (a1.map El):: .ptr Eu Ev 0 0::u:: .ptr Ew Ey 0 0::u::u::u::u::u::u::u::u::u::u::u::u::u::u::u::u::u::u::u::u::u:: .bool (!GD)::u::u::u::u::u::u::u::u::u::u::u::u::u::u::u::u::u::u::u::u::u::u::u::u::u::u::u::u::u::u::u::u::u::u::u::u::u::u::u::u::u::u::u::u::u::u::u::u::u::u::u::u::u::u::u::u::u::u::u::u::u::u::u::u::u::u::u::u::u::u::u::u::u::u::u::u::u::u::u::[])) rfl ?_
   exact CI FN ⟨_,(Option.some.inj h).symm,rfl,(hS.C2 2 [1,0] (by decide))⟩
 ·obtain ⟨E7,Eo,rfl,hS⟩:=hq;obtain rfl:=Eo.symm;replace h:=g10;try dsimp only at h
  refine Cb EU ?_;refine B_ ?_;simp only [W];refine Cl h (fun hc h=> ?_) (fun hc h=> ?_)
  ·refine B5 fun G5 E8=> ?_;refine Cn (fz:=[(1,[([27],[.sc,.sl [.sc,.sc],.sl [.sc]])])]) gC ?_;try simp only [W,EE,Nat.reduceAdd,Nat.reduceBEq]
   refine C7 rfl rfl rfl rfl rfl ?_;try simp only [W,Nat.reduceAdd]
   refine C0 rfl ?_;refine CW rfl ?_;refine CY ?_;refine CY ?_;refine CV ?_;simp only [W];try simp only [W,EE,EN,reduceIte,Nat.reduceAdd,Nat.reduceLeDiff,Nat.reduceBEq,Nat.reduceMul,Bool.false_eq_true]
   refine Ct (a:= .agg [.int .i64 0,.fz (([]:List Span).map El),.fz (([]:List Int).map (AV.int .i64))]) (y' := .agg [.int .i64 0,.fz (([]:List Span).map El),.fz (([]:List Int).map (AV.int .i64))]) 1 hS rfl rfl rfl rfl rfl rfl rfl rfl fun H hS=> ?_
   try simp only [W,Nat.reduceAdd,Nat.reduceBEq]
   refine Cb E8 ?_;refine B8 ?_;refine Cc Fg ?_;refine Ci En (C4 rfl rfl (hS.var 1 rfl) rfl (C5 rfl (C5 rfl (C5 rfl rfl)))) ?_;try obtain rfl:=Option.some.inj h
   exact hP _ nt _ nt _ (((hS.Au 1).Au 1).C2 4 [0,1] (by decide))
  ·refine B7 ?_;refine Cb Fg ?_;refine B5 fun F8 EQ=> ?_;refine Cm gC ?_;try simp only [W,EE,Nat.reduceAdd,Nat.reduceBEq,hS.var 0 rfl]
   refine CC h fun Vz VA h=> ?_;obtain ⟨EL,FK⟩:=Vz;try dsimp only at h
   refine Vc VA hS fun H hS=> ?_;try simp only [W]
   refine Cs hS rfl rfl fun G8 G9 H hS=> ?_;try simp only [W]
   refine Ct (a:= .fz (EL.map El)) (y' := .fz (EL.map El)) 0 hS rfl rfl rfl rfl rfl rfl rfl rfl fun H hS=> ?_
   try simp only [W]
   refine Cb EQ ?_;refine B5 fun Iw FL=> ?_;refine B5 fun Ib FI=> ?_;refine Cm gC ?_;try simp only [W,Nat.reduceAdd]
   refine Cb FI ?_;refine B_ ?_;simp only [W];refine Cl h (fun hc h=> ?_) (fun hc h=> ?_)
   ·refine B5 fun GM Ff=> ?_;refine Cn (fz:=[(1,[([37],[.sc,.sl [.sc,.sc],.sl [.sc]])])]) gC ?_;try simp only [W,EE,Nat.reduceAdd,Nat.reduceBEq]
    refine C7 rfl rfl rfl rfl rfl ?_;try simp only [W,Nat.reduceAdd]
    refine C0 rfl ?_;refine CW rfl ?_;refine CY ?_;refine CY ?_;refine CV ?_;simp only [W];try simp only [W,EE,EN,reduceIte,Nat.reduceAdd,Nat.reduceLeDiff,Nat.reduceBEq,Nat.reduceMul,Bool.false_eq_true]
    refine Ct (a:= .agg [.int .i64 0,.fz (([]:List Span).map El),.fz (([]:List Int).map (AV.int .i64))]) (y' := .agg [.int .i64 0,.fz (([]:List Span).map El),.fz (([]:List Int).map (AV.int .i64))]) 2 hS rfl rfl rfl rfl rfl rfl rfl rfl fun H hS=> ?_
    try simp only [W,Nat.reduceAdd,Nat.reduceBEq]
    refine Cb Ff ?_;refine B8 ?_;refine Cc FL ?_;refine Ci En (C4 rfl rfl (hS.var 2 rfl) rfl (C5 rfl (C5 rfl (C5 rfl rfl)))) ?_;try obtain rfl:=Option.some.inj h
    exact hP _ nt _ nt _ (((hS.Au 1).Au 1).C2 5 [0,1] (by decide))
   ·refine B7 ?_;refine Cb FL ?_;refine B5 fun Hj Fj=> ?_;refine Cm gC ?_;try simp only [W,Nat.reduceAdd]
    refine CA rfl rfl ?_;try simp only [W]
    refine CA rfl rfl ?_;try simp only [W]
    refine Cb Fj ?_;refine B5 fun HB FB=> ?_;refine B5 fun Gy Fa=> ?_;refine Cm gC ?_;try simp only [W,EE,Nat.reduceAdd,Nat.reduceBEq,hS.var 1 rfl]
    refine Cb Fa ?_;obtain ⟨O5,VB,MI⟩:=Option.bind_eq_some_iff.1 h;refine CH gC (fun s H=> ∃FF:List Int,O5=(FF)∧ ∃v33:AV,bp v33∧s=(u::u:: .ptr Eu Ev 0 0::u:: .ptr Ew Ey 0 0::u::u::u:: .ptr G8 G9 0 0::u::v33:: .e0::u::u::u::u::u::u::u::u::u::u::u::u::u::u::u::u::u::u::u::u::u::u::u::u::u::u::u::u::u::u::u::u::u::u::u::u::u::u::u::u::u::u::u::u::u::u::u::u::u::u::u::u::u::u::u::u::u::u::u::u::u::u::u::u::u::u::u::u::u::u::u::u::u::u::u::u::u::u::u::u::u::u::u::u::u::u::u::u::u::u::u::u::u::u::[])∧ay H (⟨v33,1,FF.map (AV.int .i64)⟩::⟨.ptr Eu Ev 0 0,3,[.agg [.int .i64 a0.Next,.fz (a0.Es.map El),.fz (a0.Ep.map (AV.int .i64))]]⟩::⟨.ptr Ew Ey 0 0,3,[.agg [.int .i64 0,.nil,.nil]]⟩::⟨.ptr G8 G9 0 0,1,[.fz (EL.map El)]⟩::F)) (fun O6 HO=> ?_) (fun s H hq=> ?_)
    ·refine B6 fun NK HP=> ?_;refine CD gC VB (fun x s H=>match x with|(Fu,Fq)=> ∃G7:AV,bp G7∧s=(u::u:: .ptr Eu Ev 0 0::u:: .ptr Ew Ey 0 0::u::u::u:: .ptr G8 G9 0 0::u::G7:: .e0::u::u::u::u::u::u::u::u::u::u::u::u::u::u::u::u::u::u::u::u::u::u::u::u::u::u::u::u::u:: .int .i64 a0.Next:: .int .i64 Fq::u::u::u::u::u::u::u::u::u::u::u::u::u::u::u::u::u::u::u::u::u::u::u::u::u::u::u::u::u::u::u::u::u::u::u::u::u::u::u::u::u::u::u::u::u::u::u::u::u::u::u::u::u::u::u::u::u::u::u::u::u::u::u::[])∧ay H (⟨G7,1,Fu.map (AV.int .i64)⟩::⟨.ptr Eu Ev 0 0,3,[.agg [.int .i64 a0.Next,.fz (a0.Es.map El),.fz (a0.Ep.map (AV.int .i64))]]⟩::⟨.ptr Ew Ey 0 0,3,[.agg [.int .i64 0,.nil,.nil]]⟩::⟨.ptr G8 G9 0 0,1,[.fz (EL.map El)]⟩::F)) ⟨_,nu,rfl,((hS.Av 1).C2 4 [0,2,3,1] (by decide))⟩ (fun x N_ s H h VC hi NY Ho=> ?_)
     obtain ⟨Fu,Fq⟩:=x;try dsimp only at hi
     obtain ⟨G7,MC,rfl,hS⟩:=hi;simp only [Ns] at h;refine B5 fun MF Gm=> ?_;refine Cm gC ?_;try simp only [W,EE,Nat.reduceAdd]
     refine Cb Gm ?_;refine B5 fun MJ Gz=> ?_;refine B_ ?_;simp only [W];refine Cl h (fun hc h=> ?_) (fun hc h=> ?_)
     ·refine B7 ?_;refine Cb Gz ?_;refine B5 fun RK JR=> ?_;obtain ⟨VD,h,VE⟩:=Option.bind_eq_some_iff.1 h;refine CH gC (fun s H=> ∃Gb:List Int,VD=(Gb)∧ ∃Kz:AV,bp Kz∧s=(u::u:: .ptr Eu Ev 0 0::u:: .ptr Ew Ey 0 0::u::u::u:: .ptr G8 G9 0 0::u::Kz:: .e0::u::u::u::u::u::u::u::u::u::u::u::u::u::u::u::u::u::u::u::u::u::u::u::u::u::u::u::u::u:: .int .i64 a0.Next:: .int .i64 Fq::u::u::u::u::u::u::u::u::u::u::u::u::u::u::u::u::u::u::u::u::u::u::u::u::u::u::u::u::u::u::u::u::u::u::u::u::u::u::u::u::u::u::u::u::u::u::u::u::u::u::u::u::u::u::u::u::u::u::u::u::u::u::u::[])∧ay H (⟨Kz,1,Gb.map (AV.int .i64)⟩::⟨.ptr Eu Ev 0 0,3,[.agg [.int .i64 a0.Next,.fz (a0.Es.map El),.fz (a0.Ep.map (AV.int .i64))]]⟩::⟨.ptr Ew Ey 0 0,3,[.agg [.int .i64 0,.nil,.nil]]⟩::⟨.ptr G8 G9 0 0,1,[.fz (EL.map El)]⟩::F)) (fun N0 Ie=> ?_) (fun s H hq=> ?_)
      ·refine B6 fun Pt Jc=> ?_;refine B5 fun Oa Ih=> ?_;refine Cm gC ?_;try simp only [W,Nat.reduceAdd]
       refine Cb Ih ?_;refine B5 fun VF Ob=> ?_;obtain ⟨VG,h,VH⟩:=Option.bind_eq_some_iff.1 h;refine CH gC (fun s H=> ∃Lk:Bool,VG=(Lk)∧s=(u::u:: .ptr Eu Ev 0 0::u:: .ptr Ew Ey 0 0::u::u::u:: .ptr G8 G9 0 0::u::G7:: .e0:: .int .i64 Fq::u::u::u::u::u::u::u::u::u::u::u::u::u::u::u::u::u::u::u::u::u::u::u::u::u::u::u::u:: .int .i64 a0.Next:: .int .i64 Fq::u::u::u::u::u::u::u::u::u::u::u:: .bool Lk::u::u::u::u::u::u::u::u::u::u::u::u::u::u::u::u::u::u::u::u::u::u::u::u::u::u::u::u::u::u::u::u::u::u::u::u::u::u::u::u::u::u::u::u::u::u::u::u::u::u::u::[])∧ay H (⟨G7,1,Fu.map (AV.int .i64)⟩::⟨.ptr Eu Ev 0 0,3,[.agg [.int .i64 a0.Next,.fz (a0.Es.map El),.fz (a0.Ep.map (AV.int .i64))]]⟩::⟨.ptr Ew Ey 0 0,3,[.agg [.int .i64 0,.nil,.nil]]⟩::⟨.ptr G8 G9 0 0,1,[.fz (EL.map El)]⟩::F)) (fun O_ Ja=> ?_) (fun s H hq=> ?_)
       ·refine B5 fun UX N2=> ?_;refine Cm gC ?_;try simp only [W,EE,Nat.reduceAdd,hS.var 3 rfl]
        refine CC h fun IZ VI h=> ?_;refine JK VI hS fun H hS=> ?_;try simp only [W]
        refine C6 h (fun hc h=> ?_) (fun hc h=> ?_)
        ·try simp only [W,EE,Nat.reduceAdd,Nat.reduceBEq,hS.var 1 rfl,hc]
         refine CC h fun HJ Rx h=> ?_;refine JK Rx hS fun H hS=> ?_;try simp only [W,reduceIte]
         refine Cb N2 ?_;refine DR (s' :=(u::u:: .ptr Eu Ev 0 0::u:: .ptr Ew Ey 0 0::u::u::u:: .ptr G8 G9 0 0::u::G7:: .e0:: .int .i64 Fq::u::u::u::u::u::u::u::u::u::u::u::u::u::u::u::u::u::u::u::u::u::u::u::u::u::u::u::u:: .int .i64 a0.Next:: .int .i64 Fq::u::u::u::u::u::u::u::u::u::u::u:: .bool (!HJ)::u::u::u::u::u::u::u::u::u::u::u::u::u::u::u::u::u::u::u::u::u::u::u::u::u::u::u::u::u::u::u::u::u::u::u::u::u::u::u::u::u::u::u::u::u::u::u::u::u::u::u::[])) rfl ?_
         exact CI Ja ⟨_,(Option.some.inj h).symm,rfl,hS⟩
        ·try simp only [W,hc]
         refine Cb N2 ?_;refine DR (s' :=(u::u:: .ptr Eu Ev 0 0::u:: .ptr Ew Ey 0 0::u::u::u:: .ptr G8 G9 0 0::u::G7:: .e0:: .int .i64 Fq::u::u::u::u::u::u::u::u::u::u::u::u::u::u::u::u::u::u::u::u::u::u::u::u::u::u::u::u:: .int .i64 a0.Next:: .int .i64 Fq::u::u::u::u::u::u::u::u::u::u::u:: .bool false::u::u::u::u::u::u::u::u::u::u::u::u::u::u::u::u::u::u::u::u::u::u::u::u::u::u::u::u::u::u::u::u::u::u::u::u::u::u::u::u::u::u::u::u::u::u::u::u::u::u::u::[])) rfl ?_
         exact CI Ja ⟨_,(Option.some.inj h).symm,rfl,hS⟩
       ·obtain ⟨Lk,Eo,rfl,hS⟩:=hq;obtain rfl:=Eo.symm;replace h:=VH;try dsimp only at h
        refine Cb Ob ?_;obtain ⟨VJ,h,VK⟩:=Option.bind_eq_some_iff.1 h;refine CH gC (fun s H=> ∃FG:List Int,VJ=(FG)∧ ∃Kw:AV,bp Kw∧s=(u::u:: .ptr Eu Ev 0 0::u:: .ptr Ew Ey 0 0::u::u::u:: .ptr G8 G9 0 0::u::Kw:: .e0::u::u::u::u::u::u::u::u::u::u::u::u::u::u::u::u::u::u::u::u::u::u::u::u::u::u::u::u::u:: .int .i64 a0.Next:: .int .i64 Fq::u::u::u::u::u::u::u::u::u::u::u::u::u::u::u::u::u::u::u::u::u::u::u::u::u::u::u::u::u::u::u::u::u::u::u::u::u::u::u::u::u::u::u::u::u::u::u::u::u::u::u::u::u::u::u::u::u::u::u::u::u::u::u::[])∧ay H (⟨Kw,1,FG.map (AV.int .i64)⟩::⟨.ptr Eu Ev 0 0,3,[.agg [.int .i64 a0.Next,.fz (a0.Es.map El),.fz (a0.Ep.map (AV.int .i64))]]⟩::⟨.ptr Ew Ey 0 0,3,[.agg [.int .i64 0,.nil,.nil]]⟩::⟨.ptr G8 G9 0 0,1,[.fz (EL.map El)]⟩::F)) (fun Ry JN=> ?_) (fun s H hq=> ?_)
        ·refine B5 fun VL MN=> ?_;refine B_ ?_;simp only [W];refine Cl h (fun hc h=> ?_) (fun hc h=> ?_)
         ·refine Cm gC ?_;try simp only [W,Nat.reduceAdd]
          refine CB (el:=([Fq]:List Int).map (AV.int .i64)) hS rfl rfl rfl rfl rfl rfl rfl fun v67 H VM hS=> ?_;try simp only [W,EE]
          refine CR (l:=Fu) (c:=(AV.int .i64)) 1 hS rfl MC rfl rfl rfl (hS.iu 0 rfl VM) (fun _=>rfl) rfl h fun v70 H Ll KA hm h hS=> ?_;try simp only [W]
          refine Cb MN ?_;refine DR (s' :=(u::u:: .ptr Eu Ev 0 0::u:: .ptr Ew Ey 0 0::u::u::u:: .ptr G8 G9 0 0::u::v70:: .e0::u::u::u::u::u::u::u::u::u::u::u::u::u::u::u::u::u::u::u::u::u::u::u::u::u::u::u::u::u:: .int .i64 a0.Next:: .int .i64 Fq::u::u::u::u::u::u::u::u::u::u::u::u::u::u::u::u::u::u::u::u::u::u::u::u::u::u::u::u::u::u::u::u::u::u::u::u::u::u::u::u::u::u::u::u::u::u::u::u::u::u::u::u::u::u::u::u::u::u::u::u::u::u::u::[])) rfl ?_
          exact CI JN ⟨_,(Option.some.inj h).symm,_,KA,rfl,(hS.C2 5 [1,2,3,4] (by decide))⟩
         ·refine B7 ?_;refine Cb MN ?_;refine DR (s' :=(u::u:: .ptr Eu Ev 0 0::u:: .ptr Ew Ey 0 0::u::u::u:: .ptr G8 G9 0 0::u::G7:: .e0::u::u::u::u::u::u::u::u::u::u::u::u::u::u::u::u::u::u::u::u::u::u::u::u::u::u::u::u::u:: .int .i64 a0.Next:: .int .i64 Fq::u::u::u::u::u::u::u::u::u::u::u::u::u::u::u::u::u::u::u::u::u::u::u::u::u::u::u::u::u::u::u::u::u::u::u::u::u::u::u::u::u::u::u::u::u::u::u::u::u::u::u::u::u::u::u::u::u::u::u::u::u::u::u::[])) rfl ?_
          exact CI JN ⟨_,(Option.some.inj h).symm,_,MC,rfl,hS⟩
        ·obtain ⟨FG,Eo,Kw,Mt,rfl,hS⟩:=hq;obtain rfl:=Eo.symm;replace h:=VK;try dsimp only at h
         refine Ce Jc ?_;exact CI Ie ⟨_,(Option.some.inj h).symm,_,Mt,rfl,hS⟩
      ·obtain ⟨Gb,Eo,Kz,MK,rfl,hS⟩:=hq;obtain rfl:=Eo.symm;replace h:=VE;try dsimp only at h
       refine Cb JR ?_;refine Cm gC ?_;try simp only [W,EE,Nat.reduceAdd]
       exact CE Ho h ⟨_,MK,rfl,hS⟩
     ·refine B9 ?_;refine Cd Gz ?_;try obtain rfl:=Option.some.inj h
      obtain rfl:=VC _ rfl;have h:(some (Fu):Option ((List Int)))=some (Fu):=rfl;refine CF Ho ?_;refine Cg HP ?_;exact CI HO ⟨_,(Option.some.inj h).symm,_,MC,rfl,hS⟩
    ·obtain ⟨FF,Eo,v33,Jd,rfl,hS⟩:=hq;obtain rfl:=Eo.symm;replace h:=MI;try dsimp only at h
     refine Cb FB ?_;refine B5 fun RL MO=> ?_;refine C8 gC [(7,[0,1,2]),(10,[])] (by kernel_rfl) rfl (by kernel_rfl) ?_
     try simp only [W,EE,reduceIte,Nat.reduceAdd,Nat.reduceBEq,hS.var 3 rfl,hS.var 1 rfl,iX,lJ,Nat.reduceEqDiff,List.contains_cons,Nat.reduceBEq,Bool.or_self]
     refine Dv (b6:=[[.sl [.sc]]]) (ys:=[.fz (a0.Ep.map (AV.int .i64))]) h rfl (by rfl) fun Kg PD h=>⟨.own 1 (Kg.map (AV.int .i64)),Vj PD (ay.nil _) fun v76 VN H hS=>Dm rfl (Dk 0 hS rfl VN (fun _ _=>by simp [aY,aO,dp]) fun H hS=>Di rfl),(Dw _ (fun _=>rfl) _),?_⟩
     refine Ds ?_;refine Dq hS (fun _ _=>rfl) (fun _=>rfl) fun v78 H PE hS=> ?_;refine Dn ?_;try simp only [List.headD_cons]
     try simp only [W]
     refine CC h fun HY VO h=> ?_;refine Vn VO (List.mem_of_getElem? (i:=3) rfl) hS PE fun v80 Ii H hS=> ?_;refine C9 ?_;refine C_ (by first|rfl|(simp [gT,aM,W,EE,hS.var 2 rfl];done)|exact DE 0 hS rfl Ii rfl rfl rfl rfl rfl|exact DE 1 hS rfl Jd rfl rfl rfl rfl rfl) ?_
     refine C_ (by first|rfl|(simp [gT,aM,W,EE,bP,jL,aB,AV.cells,hS.var 2 rfl];done)|exact DE 0 hS rfl Ii rfl rfl rfl rfl rfl|exact DE 1 hS rfl Jd rfl rfl rfl rfl rfl) ?_
     refine C_ (by first|rfl|(simp [gT,aM,W,EE,bP,jL,aB,AV.cells,hS.var 4 rfl];done)|exact DE 0 hS rfl Ii rfl rfl rfl rfl rfl|exact DE 1 hS rfl Jd rfl rfl rfl rfl rfl) ?_
     refine Da ?_;try simp only [W,EE]
     refine C7 rfl rfl rfl rfl (by simp only [fG,Ii.Cy,Ii.cells];simp [E,splice,AV.cells,dD,cN]<;>rfl) ?_
     try simp only [W]
     refine Cs hS rfl rfl fun G_ Ha H hS=> ?_;try simp only [W]
     refine Ct (a:= .agg [.int .i64 a0.Next,.fz (EL.map El),v80]) (y' := .agg [.int .i64 a0.Next,.fz (EL.map El),v80]) 0 hS rfl rfl rfl rfl rfl (by simp only [dD,List.all_cons,List.all_nil,Ii.qu];rfl) rfl rfl fun H hS=> ?_
     try simp only [W]
     refine Cb MO ?_;refine B5 fun TT Pc=> ?_;refine B5 fun TU Pd=> ?_;refine Cm gC ?_;try simp only [W,EE,Nat.reduceAdd,hS.var 5 rfl]
     refine Cb Pd ?_;obtain ⟨VP,h,VQ⟩:=Option.bind_eq_some_iff.1 h;refine CH gC (fun s H=> ∃Kh:List Int,VP=(Kh)∧ ∃v87:AV,bp v87∧s=(u::u::u::u:: .ptr Ew Ey 0 0::u::u::u::u::u::v33::v87::u:: .ptr G_ Ha 0 0::u::u::u::u::u::u::u::u::u::u::u::u::u::u::u::u::u::u::u::u::u::u::u::u::u::u::u::u::u::u::u::u::u::u::u::u::u::u::u::u::u::u::u::u::u::u::u::u::u::u::u::u::u::u::u::u::u::u::u::u::u::u::u::u::u::u::u::u::u::u::u::u::u::u::u::u::u::u::u::u::u::u::u::u::u::u::u::u::u::u::u::u::[])∧ay H (⟨v33,1,FF.map (AV.int .i64)⟩::⟨v87,1,Kh.map (AV.int .i64)⟩::⟨v80,1,HY.map (AV.int .i64)⟩::⟨.ptr Ew Ey 0 0,3,[.agg [.int .i64 0,.nil,.nil]]⟩::⟨.ptr G_ Ha 0 0,3,[.agg [.int .i64 a0.Next,.fz (EL.map El),v80]]⟩::F)) (fun K91 RM=> ?_) (fun s H hq=> ?_)
     ·refine B5 fun K92 RN=> ?_;refine B_ ?_;simp only [W];refine Cl h (fun hc h=> ?_) (fun hc h=> ?_)
      ·refine B5 fun RO KB=> ?_;refine Cm gC ?_;try simp only [W,EE,Nat.reduceAdd,hS.var 5 rfl]
       refine Cv rfl rfl rfl (fun _=>rfl) h fun GZ Rk h=> ?_;try simp only [W,EE,EN,Nat.reduceAdd,Nat.reduceBEq]
       refine Cb KB ?_;refine B5 fun NN Ix=> ?_;refine Cm gC ?_;try simp only [W,Nat.reduceAdd,Nat.reduceBEq,List.contains_cons,Nat.reduceBEq,Bool.or_self]
       refine Dv (b6:=[[.sl [.sc]]]) (ys:=[.fe (.agg [.int .i64 a0.Next,.fz (EL.map El),.fz (HY.map (AV.int .i64))]) 0]) h rfl (Dh (AD hS 0 rfl (Dc (AB rfl (AB rfl (AB (De hS 1 rfl Ii (fun _=>rfl)) (Db _)))))) Dg) fun FV Pe h=>⟨.own 1 (FV.map (AV.int .i64)),Vv Pe (ay.nil _) fun v97 VR H hS=>Dm rfl (Dk 0 hS rfl VR (fun _ _=>by simp [aY,aO,dp]) fun H hS=>Di rfl),(Dw _ (fun _=>rfl) _),?_⟩
       refine Ds ?_;refine Dq hS (fun _ _=>rfl) (fun _=>rfl) fun Je H RP hS=> ?_;refine Dn ?_;try simp only [List.headD_cons]
       try simp only [W,EE]
       refine Cz 0 hS rfl RP rfl ?_;try simp only [W]
       refine Cb Ix ?_;obtain ⟨PF,VT,VU⟩:=Option.bind_eq_some_iff.1 h;refine CH gC (fun s H=> ∃Lq:List Int,PF=(Lq)∧ ∃v105:AV,bp v105∧s=(u::u::u::u:: .ptr Ew Ey 0 0::u::u::u::u::u::v33::v105::u:: .ptr G_ Ha 0 0::u::u::u::u::u::u::u::u::u::u::u::u::u::u::u::u::u::u::u::u::u::u::u::u::u::u::u::u::u::u::u::u::u::u::u::u::u::u::u::u::u::u::u::u::u::u::u::u::u::u::u::u::u::u::u::u::u::u::u::u::u::u::u::u::u::u::u::u::u::u::u::u::u::u::u::u::u::u::u::u::u::u::u::u::u::u::u::u::u::u::u::u::[])∧ay H (⟨v33,1,FF.map (AV.int .i64)⟩::⟨v105,1,Lq.map (AV.int .i64)⟩::⟨v80,1,HY.map (AV.int .i64)⟩::⟨.ptr Ew Ey 0 0,3,[.agg [.int .i64 0,.nil,.nil]]⟩::⟨.ptr G_ Ha 0 0,3,[.agg [.int .i64 a0.Next,.fz (EL.map El),v80]]⟩::F)) (fun Pf JI=> ?_) (fun s H hq=> ?_)
       ·refine B6 fun RQ MP=> ?_;refine CD gC VT (fun x s H=>match x with|(GI,HX)=> ∃Ij:AV,bp Ij∧s=(u::u::u::u:: .ptr Ew Ey 0 0::u::u::u::u::u::v33::Ij::u:: .ptr G_ Ha 0 0:: .int .i64 (IntKind.i64.wrap (GZ.To-1))::u::u::u::u::u::u::u::u::u::u::u::u::u::u::u::u::u::u::u::u::u::u::u::u::u::u::u::u::u::u::u::u::u::u::u::u::u::u::u::u::u::u::u::u::u::u::u::u::u::u::u::u::u::u::u::u::u::u::u::u::u::u::u::u::u::Je:: .int .i64 (FV.length:Int):: .int .i64 HX::u::u::u::u::u::u::u::u::u::u::u::u::u::u::u::u::u::u::u::u::u::u::u::[])∧ay H (⟨v33,1,FF.map (AV.int .i64)⟩::⟨Ij,1,GI.map (AV.int .i64)⟩::⟨Je,1,FV.map (AV.int .i64)⟩::⟨v80,1,HY.map (AV.int .i64)⟩::⟨.ptr Ew Ey 0 0,3,[.agg [.int .i64 0,.nil,.nil]]⟩::⟨.ptr G_ Ha 0 0,3,[.agg [.int .i64 a0.Next,.fz (EL.map El),v80]]⟩::F)) ⟨_,nu,rfl,((hS.Av 1).C2 8 [4,0,1,3,6,2] (by decide))⟩ (fun x abI s H h VV hi abJ RR=> ?_)
        obtain ⟨GI,HX⟩:=x;try dsimp only at hi
        obtain ⟨Ij,MQ,rfl,hS⟩:=hi;simp only [Ln] at h;refine B5 fun abK VW=> ?_;refine Cm gC ?_;try simp only [W,EE,Nat.reduceAdd]
        refine Cb VW ?_;refine B5 fun Uc Mo=> ?_;refine B_ ?_;simp only [W];refine Cl h (fun hc h=> ?_) (fun hc h=> ?_)
        ·refine B7 ?_;refine Cb Mo ?_;refine B5 fun Rq JJ=> ?_;obtain ⟨VX,h,VY⟩:=Option.bind_eq_some_iff.1 h;refine CH gC (fun s H=> ∃Lo:List Int,VX=(Lo)∧ ∃Oc:AV,bp Oc∧s=(u::u::u::u:: .ptr Ew Ey 0 0::u::u::u::u::u::v33::Oc::u:: .ptr G_ Ha 0 0:: .int .i64 (IntKind.i64.wrap (GZ.To-1))::u::u::u::u::u::u::u::u::u::u::u::u::u::u::u::u::u::u::u::u::u::u::u::u::u::u::u::u::u::u::u::u::u::u::u::u::u::u::u::u::u::u::u::u::u::u::u::u::u::u::u::u::u::u::u::u::u::u::u::u::u::u::u::u::u::Je:: .int .i64 (FV.length:Int):: .int .i64 HX::u::u::u::u::u::u::u::u::u::u::u::u::u::u::u::u::u::u::u::u::u::u::u::[])∧ay H (⟨v33,1,FF.map (AV.int .i64)⟩::⟨Oc,1,Lo.map (AV.int .i64)⟩::⟨Je,1,FV.map (AV.int .i64)⟩::⟨v80,1,HY.map (AV.int .i64)⟩::⟨.ptr Ew Ey 0 0,3,[.agg [.int .i64 0,.nil,.nil]]⟩::⟨.ptr G_ Ha 0 0,3,[.agg [.int .i64 a0.Next,.fz (EL.map El),v80]]⟩::F)) (fun abL VZ=> ?_) (fun s H hq=> ?_)
         ·refine B6 fun PG IG=> ?_;refine B5 fun V0 PH=> ?_;refine Cm gC ?_;try simp only [W,EE,Nat.reduceAdd]
          refine Cw 2 hS rfl rfl rfl rfl rfl h (fun Nt abM abN abO V1 h V2=> ?_) RP.ne;obtain ⟨abP,V3,V4⟩:=hS.elem 2 rfl V2 V1;try simp only [W,EE,V3,V4]
          refine Cb PH ?_;refine B5 fun Pg Ia=> ?_;refine Cm gC ?_;try simp only [W,EE,Nat.reduceAdd]
          refine Cb Ia ?_;obtain ⟨V5,h,V6⟩:=Option.bind_eq_some_iff.1 h;refine CH gC (fun s H=> ∃HN:List Int,V5=(HN)∧ ∃IH:AV,bp IH∧s=(u::u::u::u:: .ptr Ew Ey 0 0::u::u::u::u::u::v33::IH::u:: .ptr G_ Ha 0 0:: .int .i64 (IntKind.i64.wrap (GZ.To-1))::u::u::u::u::u::u::u::u::u::u::u::u::u::u::u::u::u::u::u::u::u::u::u::u::u::u::u::u::u::u::u::u::u::u::u::u::u::u::u::u::u::u::u::u::u::u::u::u::u::u::u::u::u::u::u::u::u::u::u::u::u::u::u::u::u::Je:: .int .i64 (FV.length:Int):: .int .i64 HX::u::u::u::u::u::u::u::u::u::u::u::u::u::u::u::u::u::u::u::u::u::u::u::[])∧ay H (⟨v33,1,FF.map (AV.int .i64)⟩::⟨IH,1,HN.map (AV.int .i64)⟩::⟨Je,1,FV.map (AV.int .i64)⟩::⟨v80,1,HY.map (AV.int .i64)⟩::⟨.ptr Ew Ey 0 0,3,[.agg [.int .i64 0,.nil,.nil]]⟩::⟨.ptr G_ Ha 0 0,3,[.agg [.int .i64 a0.Next,.fz (EL.map El),v80]]⟩::F)) (fun RS JS=> ?_) (fun s H hq=> ?_)
          ·refine B5 fun V7 MR=> ?_;refine B_ ?_;simp only [W];refine Cl h (fun hc h=> ?_) (fun hc h=> ?_)
           ·refine Cm gC ?_;try simp only [W,Nat.reduceAdd]
            refine CB (el:=([Nt]:List Int).map (AV.int .i64)) hS rfl rfl rfl rfl rfl rfl rfl fun abQ H V8 hS=> ?_;try simp only [W,EE]
            refine CR (l:=GI) (c:=(AV.int .i64)) 2 hS rfl MQ rfl rfl rfl (hS.iu 0 rfl V8) (fun _=>rfl) rfl h fun KC H I5 PJ hm h hS=> ?_;try simp only [W]
            refine Cb MR ?_;refine DR (s' :=(u::u::u::u:: .ptr Ew Ey 0 0::u::u::u::u::u::v33::KC::u:: .ptr G_ Ha 0 0:: .int .i64 (IntKind.i64.wrap (GZ.To-1))::u::u::u::u::u::u::u::u::u::u::u::u::u::u::u::u::u::u::u::u::u::u::u::u::u::u::u::u::u::u::u::u::u::u::u::u::u::u::u::u::u::u::u::u::u::u::u::u::u::u::u::u::u::u::u::u::u::u::u::u::u::u::u::u::u::Je:: .int .i64 (FV.length:Int):: .int .i64 HX::u::u::u::u::u::u::u::u::u::u::u::u::u::u::u::u::u::u::u::u::u::u::u::[])) rfl ?_
            exact CI JS ⟨_,(Option.some.inj h).symm,_,PJ,rfl,(hS.C2 7 [1,2,3,4,5,6] (by decide))⟩
           ·refine B7 ?_;refine Cb MR ?_;refine DR (s' :=(u::u::u::u:: .ptr Ew Ey 0 0::u::u::u::u::u::v33::Ij::u:: .ptr G_ Ha 0 0:: .int .i64 (IntKind.i64.wrap (GZ.To-1))::u::u::u::u::u::u::u::u::u::u::u::u::u::u::u::u::u::u::u::u::u::u::u::u::u::u::u::u::u::u::u::u::u::u::u::u::u::u::u::u::u::u::u::u::u::u::u::u::u::u::u::u::u::u::u::u::u::u::u::u::u::u::u::u::u::Je:: .int .i64 (FV.length:Int):: .int .i64 HX::u::u::u::u::u::u::u::u::u::u::u::u::u::u::u::u::u::u::u::u::u::u::u::[])) rfl ?_
            exact CI JS ⟨_,(Option.some.inj h).symm,_,MQ,rfl,hS⟩
          ·obtain ⟨HN,Eo,IH,PK,rfl,hS⟩:=hq;obtain rfl:=Eo.symm;replace h:=V6;try dsimp only at h
           refine Ce IG ?_;exact CI VZ ⟨_,(Option.some.inj h).symm,_,PK,rfl,hS⟩
         ·obtain ⟨Lo,Eo,Oc,V9,rfl,hS⟩:=hq;obtain rfl:=Eo.symm;replace h:=VY;try dsimp only at h
          refine Cb JJ ?_;refine Cm gC ?_;try simp only [W,EE,Nat.reduceAdd]
          exact CE RR h ⟨_,V9,rfl,hS⟩
        ·refine B9 ?_;refine Cd Mo ?_;try obtain rfl:=Option.some.inj h
         obtain rfl:=VV _ rfl;have h:(some (GI):Option ((List Int)))=some (GI):=rfl;refine CF RR ?_;refine Cg MP ?_;exact CI JI ⟨_,(Option.some.inj h).symm,_,MQ,rfl,(hS.C2 6 [0,1,3,4,5] (by decide))⟩
       ·obtain ⟨Lq,Eo,v105,V_,rfl,hS⟩:=hq;obtain rfl:=Eo.symm;replace h:=VU;try dsimp only at h
        refine Cb RN ?_;refine DR (s' :=(u::u::u::u:: .ptr Ew Ey 0 0::u::u::u::u::u::v33::v105::u:: .ptr G_ Ha 0 0::u::u::u::u::u::u::u::u::u::u::u::u::u::u::u::u::u::u::u::u::u::u::u::u::u::u::u::u::u::u::u::u::u::u::u::u::u::u::u::u::u::u::u::u::u::u::u::u::u::u::u::u::u::u::u::u::u::u::u::u::u::u::u::u::u::u::u::u::u::u::u::u::u::u::u::u::u::u::u::u::u::u::u::u::u::u::u::u::u::u::u::u::[])) rfl ?_
        exact CI RM ⟨_,(Option.some.inj h).symm,_,V_,rfl,hS⟩
      ·refine B7 ?_;refine Cb RN ?_;refine DR (s' :=(u::u::u::u:: .ptr Ew Ey 0 0::u::u::u::u::u::v33:: .e0::u:: .ptr G_ Ha 0 0::u::u::u::u::u::u::u::u::u::u::u::u::u::u::u::u::u::u::u::u::u::u::u::u::u::u::u::u::u::u::u::u::u::u::u::u::u::u::u::u::u::u::u::u::u::u::u::u::u::u::u::u::u::u::u::u::u::u::u::u::u::u::u::u::u::u::u::u::u::u::u::u::u::u::u::u::u::u::u::u::u::u::u::u::u::u::u::u::u::u::u::u::[])) rfl ?_
       exact CI RM ⟨_,(Option.some.inj h).symm,_,nu,rfl,((hS.Av 1).C2 7 [3,0,2,5,1] (by decide))⟩
     ·obtain ⟨Kh,Eo,v87,RT,rfl,hS⟩:=hq;obtain rfl:=Eo.symm;replace h:=VQ;try dsimp only at h
      refine Cb Pc ?_;refine B5 fun Wa Od=> ?_;refine Cm gC ?_;try simp only [W,EE,Nat.reduceAdd,Nat.reduceBEq,hS.var 4 rfl]
      refine CR (l:=HY) (c:=(AV.int .i64)) 2 hS rfl Ii rfl rfl rfl (hS.iu 1 rfl RT) (fun _=>rfl) rfl h fun v143 H QL JT hm h hS=> ?_;try simp only [W,EE,Nat.reduceAdd,Nat.reduceBEq,hS.var 4 rfl]
      refine Ct (a:=v143) (y' := .agg [.int .i64 a0.Next,.fz (EL.map El),v143]) 4 hS rfl rfl rfl rfl (by rw [JT.cells];rfl) JT.Cy (JT.wr _ _ (by simp)) rfl fun H hS=> ?_
      try simp only [W]
      refine Cb Od ?_;refine B5 fun abR Wb=> ?_;refine Cm gC ?_;try simp only [W,EE,Nat.reduceAdd,Nat.reduceBEq,hS.var 4 rfl]
      refine CC h fun Nu Wc h=> ?_;refine RJ Wc (hS.C2 5 [2,0,1,3,4] (by decide)) JT fun H hS=> ?_
      try simp only [W]
      refine Cb Wb ?_;refine B5 fun abS Wd=> ?_;refine Cn (fz:=[(3,[([103],[.sc,.sl [.sc,.sc],.sl [.sc]])])]) gC ?_;try simp only [W,EE,reduceIte,Nat.reduceAdd,Nat.reduceLeDiff,Nat.reduceBEq,hS.var 4 rfl]
      refine C0 rfl ?_;refine CW rfl ?_;refine CX ?_;refine CZ 0 hS rfl JT (fun _ _=>by simp [aY,aO,dp]) fun H hS=> ?_
      refine CV ?_;simp only [W,u5 (c:=(AV.int .i64)) (fun _=>rfl)];try simp only [W,EE,EN,reduceIte,Nat.reduceAdd,Nat.reduceLeDiff,Nat.reduceBEq,Nat.reduceMul,Bool.false_eq_true]
      refine Ct (a:= .agg [.int .i64 a0.Next,.fz (EL.map El),.fz (Nu.map (AV.int .i64))]) (y' := .agg [.int .i64 a0.Next,.fz (EL.map El),.fz (Nu.map (AV.int .i64))]) 2 hS rfl rfl rfl rfl rfl rfl rfl rfl fun H hS=> ?_
      try simp only [W,Nat.reduceAdd,Nat.reduceBEq]
      refine Cb Wd ?_;refine B8 ?_;refine Ci En (C4 rfl rfl (hS.var 2 rfl) rfl (C5 rfl (C5 rfl (C5 rfl rfl)))) ?_;try obtain rfl:=Option.some.inj h
      exact hP _ Jd _ RT _ (hS.C2 4 [0,1] (by decide))
theorem We {a0 r:List Int} (h:slices_Compact_int a0=some r) {F:List It} {H:J} {m0:AV} (hS:ay H (⟨m0,1,a0.map (AV.int .i64)⟩::F)) (Hp:bp m0) {P:AV→J→Prop} (hP: ∀v0:AV,bp v0→ ∀H',ay H' (⟨v0,1,r.map (AV.int .i64)⟩::F)→P v0 H'):aq C 89 [m0] H P:=
 Ek (I:=Hi) rfl (by simp [Hi,kids]) h hS Hp hP
theorem Wf {a0:Int} {a1:List Int} {r:(List Int×Bool)} (h:Lr a0 a1=some r) {F:List It} {H:J} (hS:ay H (F)) {P:AV→J→Prop} (hP: ∀v80:AV,bp v80→ ∀H',ay H' (⟨v80,1,r.1.map (AV.int .i64)⟩::F)→P (.az [v80,.bool r.2]) H'):aq C 50 [.int .i64 a0,.fz (a1.map (AV.int .i64))] H P:=by
 refine Cp gC (res:=[.tmp 4,.tmp 5]) (n:=58) rfl rfl rfl rfl fun K0 En=> ?_;simp only [W,Nat.reduceSub,Nat.reduceAdd,List.replicate];unfold Lr at h;refine B5 fun K1 Er=> ?_;refine Cm gC ?_;try simp only [W,Nat.reduceAdd]
 refine Cb Er ?_;refine B5 fun K2 zY=> ?_;refine Cn (fz:=[(6,[([18],[.sc,.sl [.sc,.sc],.sl [.sc]])])]) gC ?_;try simp only [W,Nat.reduceAdd,Nat.reduceBEq]
 refine CC h fun b3 kS h=> ?_;obtain ⟨EM,GW⟩:=b3;try dsimp only at h
 refine Uu kS hS fun v6 Gx GR II H hS=> ?_;try simp only [W,Nat.reduceAdd,Nat.reduceBEq]
 refine Cs hS rfl rfl fun GS GU H hS=> ?_;try simp only [W,Nat.reduceAdd]
 refine C0 rfl ?_;refine CW rfl ?_;refine CZ 1 hS rfl Gx (fun _ _=>by simp [aY,aO,cp,dp,El]) fun H hS=> ?_
 refine CZ 1 hS rfl II (fun _ _=>by simp [aY,aO,dp]) fun H hS=> ?_
 refine CV ?_;simp only [W,u5 (c:=(AV.int .i64)) (fun _=>rfl),u5 (c:=El) (fun _=>rfl)];try simp only [W,EE,EN,reduceIte,Nat.reduceAdd,Nat.reduceLeDiff,Nat.reduceBEq,Nat.reduceMul,Bool.false_eq_true]
 refine Ct (a:= .agg [.int .i64 EM.Next,.fz (EM.Es.map El),.fz (EM.Ep.map (AV.int .i64))]) (y' := .agg [.int .i64 EM.Next,.fz (EM.Es.map El),.fz (EM.Ep.map (AV.int .i64))]) 0 hS rfl rfl rfl rfl rfl rfl rfl rfl fun H hS=> ?_
 try simp only [W,Nat.reduceAdd,Nat.reduceBEq]
 refine Cb zY ?_;refine B5 fun H7 Fm=> ?_;refine B5 fun GJ Fo=> ?_;obtain ⟨JF,h,g16⟩:=Option.bind_eq_some_iff.1 h;refine CH gC (fun s H=> ∃EX:Bool,JF=(EX)∧s=[u,.fz (a1.map (AV.int .i64)),u,u,u,u,.ptr GS GU 0 0,u,u,u,u,u,u,u,u,u,u,u,u,u,u,u,u,u,u,u,u,.bool EX,u,u,u,u,u,u,u,u,u,u,u,u,u,u,u,u,u,u,u,u,u,u,u,u,u,u,u,u,u,u]∧ay H (⟨.ptr GS GU 0 0,3,[.agg [.int .i64 EM.Next,.fz (EM.Es.map El),.fz (EM.Ep.map (AV.int .i64))]]⟩::F)) (fun FY EH=> ?_) (fun s H hq=> ?_)
 ·refine B5 fun Gc ET=> ?_;refine Cm gC ?_;try simp only [W,Nat.reduceAdd]
  refine C6 h (fun hc h=> ?_) (fun hc h=> ?_)
  ·try simp only [W,hc]
   refine Cb ET ?_;refine Ca ?_;exact CI EH ⟨_,(Option.some.inj h).symm,rfl,hS⟩
  ·try simp only [W,hc]
   refine CC h fun FK H9 h=> ?_;refine Pk H9 hS fun H hS=> ?_;try simp only [W,reduceIte,Bool.false_eq_true]
   refine Cb ET ?_;refine Ca ?_;exact CI EH ⟨_,(Option.some.inj h).symm,rfl,hS⟩
 ·obtain ⟨EX,Eo,rfl,hS⟩:=hq;obtain rfl:=Eo.symm;replace h:=g16;try dsimp only at h
  refine Cb Fo ?_;refine B_ ?_;simp only [W];refine Cl h (fun hc h=> ?_) (fun hc h=> ?_)
  ·refine B5 fun GK E_=> ?_;refine Cm gC ?_;try simp only [W,Nat.reduceAdd]
   refine Cb E_ ?_;refine B8 ?_;refine Cc Fm ?_;refine Ck En rfl rfl ?_;try obtain rfl:=Option.some.inj h
   exact hP _ nt _ ((hS.Au 1).C2 2 [0] (by decide))
  ·refine B7 ?_;refine Cb Fm ?_;refine B5 fun HA FA=> ?_;refine Cm gC ?_;try simp only [W,Nat.reduceAdd]
   refine CA rfl rfl ?_;try simp only [W]
   refine Cb FA ?_;refine B5 fun Iw FL=> ?_;refine B5 fun Ib FI=> ?_;refine Cm gC ?_;try simp only [W,EE,Nat.reduceAdd]
   refine Cb FI ?_;obtain ⟨Pn,Wg,RU⟩:=Option.bind_eq_some_iff.1 h;refine CH gC (fun s H=> ∃Fq:List Int,Pn=LR.next (Fq)∧ ∃v32:AV,bp v32∧s=[u,u,u,u,u,u,u,u,v32,u,u,u,u,u,u,u,u,u,u,u,u,u,u,u,u,u,u,u,u,u,u,u,u,u,u,u,u,u,u,u,u,u,u,u,u,u,u,u,u,u,u,u,u,u,u,u,u,u]∧ay H (⟨v32,1,Fq.map (AV.int .i64)⟩::F)) (fun NS Hl=> ?_) (fun s H hq=> ?_)
   ·refine B6 fun O6 HO=> ?_;refine CD gC Wg (fun x s H=>match x with|(Gg,F3,Fu,Gr,F4)=> ∃v25:AV,bp v25∧s=[u,u,u,u,u,u,.ptr GS GU 0 0,u,v25,u,u,u,u,u,u,u,u,u,u,u,u,u,u,u,u,u,u,u,u,.fz (a1.map (AV.int .i64)),.int .i64 (a1.length:Int),.int .i64 F3,u,u,u,u,u,u,u,u,u,u,u,u,u,u,u,u,u,u,u,u,u,u,u,u,u,u]∧ay H (⟨v25,1,Gg.map (AV.int .i64)⟩::⟨.ptr GS GU 0 0,3,[.agg [.int .i64 Fu,.fz (Gr.map El),.fz (F4.map (AV.int .i64))]]⟩::F)) ⟨_,nu,rfl,(hS.Av 1)⟩ (fun x y39 s H h RV hi NK HP=> ?_)
    obtain ⟨Gg,F3,Fu,Gr,F4⟩:=x;try dsimp only at hi
    obtain ⟨v25,RW,rfl,hS⟩:=hi;simp only [Nv] at h;refine B5 fun N6 HG=> ?_;refine Cm gC ?_;try simp only [W,EE,Nat.reduceAdd]
    refine Cb HG ?_;refine B5 fun MF Gm=> ?_;refine B_ ?_;simp only [W];refine Cl h (fun hc h=> ?_) (fun hc h=> ?_)
    ·refine B7 ?_;refine Cb Gm ?_;refine B5 fun MJ Gz=> ?_;refine B6 fun RK JR=> ?_;refine B5 fun Pt Jc=> ?_;refine Cm gC ?_;try simp only [W,EE,Nat.reduceAdd]
     refine Cv rfl rfl rfl (fun _=>rfl) h fun Hg RX h=> ?_;try simp only [W,EE]
     refine Cb Jc ?_;refine B5 fun Mk Gk=> ?_;refine Cn (fz:=[(6,[([41],[.sl [.sc,.sc]])])]) gC ?_;try simp only [W,EE,reduceIte,Nat.reduceAdd,Nat.reduceLeDiff,Nat.reduceBEq,hS.var 1 rfl]
     refine C7 rfl rfl rfl rfl rfl ?_;try simp only [W,Nat.reduceAdd,Nat.reduceBEq]
     refine CB (el:=([(⟨Hg,(IntKind.i64.wrap (Hg+1))⟩:Span)]:List Span).map El) hS rfl rfl rfl rfl rfl rfl rfl fun H_ H Ml hS=> ?_;try simp only [W,Nat.reduceAdd]
     refine CT 0 hS rfl Ml rfl (fun _ _=>by simp [aY,aO,cp,dp,El]) (fun _=>rfl) fun H r6 hS=> ?_
     try simp only [W,EN]
     refine CC h fun Gf N8 h=> ?_;obtain ⟨Gu,Nn,QM,HZ⟩:=Gf;try dsimp only at h
     refine Vw N8 hS fun v55 abT Pv MB H hS=> ?_;try simp only [W,Nat.reduceAdd,Nat.reduceBEq]
     refine Cs hS rfl rfl fun abU abV H hS=> ?_;try simp only [W,Nat.reduceAdd,Nat.reduceBEq]
     refine Ct (a:= .agg [.int .i64 Gu.Next,.fz (Gu.Es.map El),.fz (Gu.Ep.map (AV.int .i64))]) (y' := .agg [.int .i64 Gu.Next,.fz (Gu.Es.map El),.fz (Gu.Ep.map (AV.int .i64))]) 0 hS rfl rfl rfl rfl rfl rfl rfl rfl fun H hS=> ?_
     try simp only [W,Nat.reduceAdd,Nat.reduceBEq]
     refine Cb Gk ?_;refine B5 fun Pw ID=> ?_;refine B5 fun Wh PM=> ?_;refine Cm gC ?_;try simp only [W,Nat.reduceAdd]
     refine Cb PM ?_;refine B_ ?_;simp only [W];refine Cl h (fun hc h=> ?_) (fun hc h=> ?_)
     ·refine B5 fun RY MS=> ?_;refine Cm gC ?_;try simp only [W,Nat.reduceAdd]
      refine Cb MS ?_;refine B8 ?_;refine Cc ID ?_;refine Ch JR ?_;refine Cc Gz ?_;try obtain rfl:=Option.some.inj h
      obtain rfl:=RV _ rfl;have h:(some (LR.done ([],false)):Option (LR ((List Int)) (List Int×Bool)))=some (LR.done ([],false)):=rfl;refine CG HP ?_;refine Ch HO ?_;try obtain rfl:=Option.some.inj h
      obtain rfl:=Option.some.inj RU;have h:(some ([],false):Option (List Int×Bool))=some ([],false):=rfl;refine CJ Hl ?_;refine Cc FL ?_;refine Ck En rfl rfl ?_;try obtain rfl:=Option.some.inj h
      exact hP _ nt _ ((hS.Au 1).C2 6 [0] (by decide))
     ·refine B7 ?_;refine Cb ID ?_;refine B5 fun RZ KD=> ?_;refine Cm gC ?_;try simp only [W,EE,reduceIte,Nat.reduceAdd,Nat.reduceLeDiff,hS.var 0 rfl]
      refine Ct (a:= .agg [.int .i64 Gu.Next,.fz (Gu.Es.map El),.fz (Gu.Ep.map (AV.int .i64))]) (y' := .agg [.int .i64 Gu.Next,.fz (Gu.Es.map El),.fz (Gu.Ep.map (AV.int .i64))]) 4 hS rfl rfl rfl rfl rfl rfl rfl rfl fun H hS=> ?_
      try simp only [W]
      refine Cb KD ?_;refine Cm gC ?_;try simp only [W,EE,Nat.reduceAdd]
      refine CR (l:=Gg) (c:=(AV.int .i64)) 3 hS rfl RW rfl rfl rfl (hS.iu 2 rfl MB) (fun _=>rfl) rfl h fun v70 H Ll KA hm h hS=> ?_;try simp only [W]
      refine Cf JR ?_;refine Cb Gz ?_;refine Cm gC ?_;try simp only [W,EE,Nat.reduceAdd]
      exact CE HP h ⟨_,KA,rfl,(hS.C2 5 [3,4] (by decide))⟩
    ·refine B9 ?_;refine Cd Gm ?_;try obtain rfl:=Option.some.inj h
     obtain rfl:=RV _ rfl;have h:(some (LR.next (Gg)):Option (LR ((List Int)) (List Int×Bool)))=some (LR.next (Gg)):=rfl
     refine CF HP ?_;refine Cg HO ?_;exact CI Hl ⟨_,(Option.some.inj h).symm,_,RW,rfl,(hS.C2 2 [0] (by decide))⟩
   ·obtain ⟨Fq,Eo,v32,Oe,rfl,hS⟩:=hq;obtain rfl:=Eo.symm;replace h:=RU;try dsimp only at h
    refine Cb FL ?_;refine B5 fun RL MO=> ?_;refine Cm gC ?_;try simp only [W,Nat.reduceAdd]
    refine CC h fun Kg PD h=> ?_;refine RJ PD hS Oe fun H hS=> ?_;try simp only [W]
    refine Cb MO ?_;refine B5 fun Wi Og=> ?_;refine Cm gC ?_;try simp only [W,Nat.reduceAdd]
    refine CC h fun Jv PN h=> ?_;refine We PN hS Oe fun v78 PE H hS=> ?_;try simp only [W]
    refine Cb Og ?_;refine B8 ?_;refine Ck En rfl rfl ?_;try obtain rfl:=Option.some.inj h
    exact hP _ PE _ hS
theorem R0 {a0:Int} {a1:Int} {a2:Int} {r:(Bool)} (h:Ki a0 a1 a2=some r) {F:List It} {H:J} (hS:ay H (F)) {P:AV→J→Prop} (hP: ∀H',ay H' (F)→P (.bool r) H'):aq C 90 [.int .i64 a0,.int .i64 a1,.int .i64 a2] H P:=by
 refine Cp gC (res:=[.tmp 6]) (n:=15) rfl rfl rfl rfl fun K0 En=> ?_;simp only [W,Nat.reduceSub,Nat.reduceAdd,List.replicate];unfold Ki at h;refine B5 fun K1 Er=> ?_;refine Cm gC ?_;try simp only [W,Nat.reduceAdd]
 refine Cb Er ?_;refine B5 fun K2 zY=> ?_;refine Cm gC ?_;try simp only [W,EE,Nat.reduceAdd]
 refine C6 h (fun hc h=> ?_) (fun hc h=> ?_)
 ·try simp only [W,EE,reduceIte,hc]
  refine Cb zY ?_;refine B8 ?_;refine Cj En rfl ?_;try obtain rfl:=Option.some.inj h
  exact hP _ hS
 ·try simp only [W,hc]
  refine Cb zY ?_;refine B8 ?_;refine Cj En rfl ?_;try obtain rfl:=Option.some.inj h
  exact hP _ hS
theorem Wj {a0:Int} {r:(EB×Bool)} (h:Nw a0=some r) {F:List It} {H:J} (hS:ay H (F)) {P:AV→J→Prop} (hP: ∀v9:AV,bp v9→ ∀v11:AV,bp v11→ ∀H',ay H' (⟨v9,2,r.1.Es.map El⟩::⟨v11,1,r.1.Ep.map (AV.int .i64)⟩::F)→P (.az [.agg [.int .i64 r.1.Next,v9,v11],.bool r.2]) H'):aq C 115 [.int .i64 a0] H P:=by
 refine Cp gC (res:=[.cell 2 116,.tmp 3]) (n:=10) rfl rfl rfl rfl fun K0 En=> ?_;simp only [W,Nat.reduceSub,Nat.reduceAdd,List.replicate];unfold Nw at h;refine B5 fun K1 Er=> ?_;refine Cm gC ?_;try simp only [W,Nat.reduceAdd]
 refine Cs hS rfl rfl fun Eu Ev H hS=> ?_;try simp only [W]
 refine Cb Er ?_;refine B5 fun K4 EI=> ?_;refine B5 fun K5 EV=> ?_;refine Cm gC ?_;try simp only [W,Nat.reduceAdd]
 refine CC h fun GX H8 h=> ?_;refine R0 H8 hS fun H hS=> ?_;try simp only [W]
 refine Cb EV ?_;refine B_ ?_;simp only [W];refine Cl h (fun hc h=> ?_) (fun hc h=> ?_)
 ·refine B5 fun K7 EU=> ?_;refine Cm gC ?_;try simp only [W,EE,Nat.reduceAdd]
  refine C7 rfl rfl rfl rfl rfl ?_;try simp only [W]
  refine Ct (a:= .agg [.int .i64 0,.nil,.nil]) (y' := .agg [.int .i64 0,.nil,.nil]) 0 hS rfl rfl rfl rfl rfl rfl rfl rfl fun H hS=> ?_
  try simp only [W]
  refine Cb EU ?_;refine B8 ?_;refine Cc EI ?_;refine Ci En (C4 rfl rfl (hS.var 0 rfl) rfl (C5 rfl rfl)) ?_;try obtain rfl:=Option.some.inj h
  exact hP _ nt _ nt _ (((hS.Au 1).Au 2).C2 3 [0,1] (by decide))
 ·refine B7 ?_;refine Cb EI ?_;refine B5 fun K8 EO=> ?_;refine Cm gC ?_;try simp only [W,EE,Nat.reduceAdd]
  refine C7 rfl rfl rfl rfl rfl ?_;try simp only [W]
  refine Ct (a:= .agg [.int .i64 a0,.nil,.nil]) (y' := .agg [.int .i64 a0,.nil,.nil]) 0 hS rfl rfl rfl rfl rfl rfl rfl rfl fun H hS=> ?_
  try simp only [W]
  refine Cb EO ?_;refine B8 ?_;refine Ci En (C4 rfl rfl (hS.var 0 rfl) rfl (C5 rfl rfl)) ?_;try obtain rfl:=Option.some.inj h
  exact hP _ nt _ nt _ (((hS.Au 1).Au 2).C2 3 [0,1] (by decide))
theorem R1 {a0:List Int} {a1:Int} {r:(Bool)} (h:Kj a0 a1=some r) {F:List It} {H:J} (hS:ay H (F)) {P:AV→J→Prop} (hP: ∀H',ay H' (F)→P (.bool r) H'):aq C 145 [.fz (a0.map (AV.int .i64)),.int .i64 a1] H P:=by
 refine Cp gC (res:=[.tmp 4]) (n:=17) rfl rfl rfl rfl fun K0 En=> ?_;simp only [W,Nat.reduceSub,Nat.reduceAdd,List.replicate];unfold Kj at h;refine B5 fun K1 Er=> ?_;refine Cm gC ?_;try simp only [W,Nat.reduceAdd]
 refine Cb Er ?_;refine B5 fun K2 zY=> ?_;refine B5 fun K3 EG=> ?_;refine Cm gC ?_;try simp only [W,EE,Nat.reduceAdd]
 refine Cb EG ?_;obtain ⟨Gl,GL,g12⟩:=Option.bind_eq_some_iff.1 h;refine CH gC (fun s H=>Gl=LR.next ()∧s=[u,u,u,u,u,u,u,u,u,u,u,u,u,u,u,u,u]∧ay H (F)) (fun K7 EU=> ?_) (fun s H hq=> ?_)
 ·refine B6 fun K8 EO=> ?_;refine CD gC GL (fun x s H=>s=[u,.int .i64 a1,u,u,u,u,u,.fz (a0.map (AV.int .i64)),.int .i64 (a0.length:Int),.int .i64 x,u,u,u,u,u,u,u]∧ay H (F)) ⟨rfl,hS⟩ (fun Ez HQ s H h FO hi K9 EK=> ?_)
  skip
  try dsimp only at hi
  obtain ⟨rfl,hS⟩:=hi;simp only [Nx] at h;refine B5 fun GJ Fo=> ?_;refine Cm gC ?_;try simp only [W,EE,Nat.reduceAdd]
  refine Cb Fo ?_;refine B5 fun Hz Fe=> ?_;refine B_ ?_;simp only [W];refine Cl h (fun hc h=> ?_) (fun hc h=> ?_)
  ·refine B7 ?_;refine Cb Fe ?_;refine B5 fun G5 E8=> ?_;refine B6 fun F8 EQ=> ?_;refine B5 fun FY EH=> ?_;refine Cm gC ?_;try simp only [W,EE,Nat.reduceAdd]
   refine Cv rfl rfl rfl (fun _=>rfl) h fun EL NP h=> ?_;try simp only [W,EE]
   refine Cb EH ?_;refine B5 fun Gw E9=> ?_;refine Cm gC ?_;try simp only [W,EE,Nat.reduceAdd]
   refine Cb E9 ?_;refine B_ ?_;simp only [W];refine Cl h (fun hc h=> ?_) (fun hc h=> ?_)
   ·refine B5 fun GK E_=> ?_;refine Cm gC ?_;try simp only [W,Nat.reduceAdd]
    refine Cb E_ ?_;refine B8 ?_;refine Ch EQ ?_;refine Cc E8 ?_;try obtain rfl:=Option.some.inj h
    obtain rfl:=FO _ rfl;have h:(some (LR.done true):Option (LR Unit (Bool)))=some (LR.done true):=rfl;refine CG EK ?_;refine Ch EO ?_;try obtain rfl:=Option.some.inj h
    obtain rfl:=Option.some.inj g12;have h:(some true:Option (Bool))=some true:=rfl;refine CJ EU ?_;refine Cc zY ?_;refine Cj En rfl ?_;try obtain rfl:=Option.some.inj h
    exact hP _ hS
   ·refine B7 ?_;refine Cf EQ ?_;refine Cb E8 ?_;refine Cm gC ?_;try simp only [W,EE,Nat.reduceAdd]
    exact CE EK h ⟨rfl,hS⟩
  ·refine B9 ?_;refine Cd Fe ?_;try obtain rfl:=Option.some.inj h
   obtain rfl:=FO _ rfl;have h:(some (LR.next ()):Option (LR Unit (Bool)))=some (LR.next ()):=rfl
   refine CF EK ?_;refine Cg EO ?_;exact CI EU ⟨(Option.some.inj h).symm,rfl,hS⟩
 ·obtain ⟨rfl,rfl,hS⟩:=hq;replace h:=g12;try dsimp only at h
  refine Cb zY ?_;refine B5 fun Gy Fa=> ?_;refine Cm gC ?_;try simp only [W,Nat.reduceAdd]
  refine Cb Fa ?_;refine B8 ?_;refine Cj En rfl ?_;try obtain rfl:=Option.some.inj h
  exact hP _ hS
theorem PO {a0:List Int} {a1:Int} {r:(Bool)} (h:Jw a0 a1=some r) {F:List It} {H:J} (hS:ay H (F)) {P:AV→J→Prop} (hP: ∀H',ay H' (F)→P (.bool r) H'):aq C 116 [.fz (a0.map (AV.int .i64)),.int .i64 a1] H P:=by
 refine Cp gC (res:=[.tmp 4]) (n:=27) rfl rfl rfl rfl fun K0 En=> ?_;simp only [W,Nat.reduceSub,Nat.reduceAdd,List.replicate];unfold Jw at h;refine B5 fun K1 Er=> ?_;refine Cm gC ?_;try simp only [W,Nat.reduceAdd]
 refine Cb Er ?_;refine B5 fun K2 zY=> ?_;refine B5 fun K3 EG=> ?_;refine Cm gC ?_;try simp only [W,EE,Nat.reduceAdd]
 refine Cb EG ?_;obtain ⟨Gl,GL,g12⟩:=Option.bind_eq_some_iff.1 h;refine CH gC (fun s H=>Gl=LR.next ()∧s=[u,u,u,u,u,u,u,u,u,u,u,u,u,u,u,u,u,u,u,u,u,u,u,u,u,u,u]∧ay H (F)) (fun K7 EU=> ?_) (fun s H hq=> ?_)
 ·refine B6 fun K8 EO=> ?_;refine CD gC GL (fun x s H=>s=[.fz (a0.map (AV.int .i64)),.int .i64 a1,u,u,u,u,u,.fz (a0.map (AV.int .i64)),.int .i64 (a0.length:Int),.int .i64 x,u,u,u,u,u,u,u,u,u,u,u,u,u,u,u,u,u]∧ay H (F)) ⟨rfl,hS⟩ (fun Ez HQ s H h FO hi K9 EK=> ?_)
  skip
  try dsimp only at hi
  obtain ⟨rfl,hS⟩:=hi;simp only [Ls] at h;refine B5 fun GJ Fo=> ?_;refine Cm gC ?_;try simp only [W,EE,Nat.reduceAdd]
  refine Cb Fo ?_;refine B5 fun Hz Fe=> ?_;refine B_ ?_;simp only [W];refine Cl h (fun hc h=> ?_) (fun hc h=> ?_)
  ·refine B7 ?_;refine Cb Fe ?_;refine B5 fun G5 E8=> ?_;refine B6 fun F8 EQ=> ?_;refine B5 fun FY EH=> ?_;refine Cm gC ?_;try simp only [W,EE,Nat.reduceAdd]
   refine Cv rfl rfl rfl (fun _=>rfl) h fun EL NP h=> ?_;try simp only [W,EE]
   refine Cb EH ?_;refine B5 fun Gw E9=> ?_;obtain ⟨Ks,h,g22⟩:=Option.bind_eq_some_iff.1 h;refine CH gC (fun s H=> ∃Fc:Bool,Ks=(Fc)∧s=[.fz (a0.map (AV.int .i64)),.int .i64 a1,u,u,u,u,u,.fz (a0.map (AV.int .i64)),.int .i64 (a0.length:Int),.int .i64 Ez,u,u,u,u,u,u,u,u,u,u,u,u,u,u,u,.bool Fc,u]∧ay H (F)) (fun Ib FI=> ?_) (fun s H hq=> ?_)
   ·refine B5 fun GM Ff=> ?_;refine Cm gC ?_;try simp only [W,EE,Nat.reduceAdd]
    refine CC h fun Hf NQ h=> ?_;refine R0 NQ hS fun H hS=> ?_;try simp only [W]
    refine C6 h (fun hc h=> ?_) (fun hc h=> ?_)
    ·try simp only [W,hc]
     refine Cb Ff ?_;refine Ca ?_;exact CI FI ⟨_,(Option.some.inj h).symm,rfl,hS⟩
    ·try simp only [W,EE,hc]
     refine CO rfl rfl rfl (fun _=>rfl) h fun HK Uw h=> ?_;try simp only [W]
     refine CC h fun FH NR h=> ?_;refine R1 NR hS fun H hS=> ?_;try simp only [W,reduceIte,Bool.false_eq_true]
     refine Cb Ff ?_;refine Ca ?_;exact CI FI ⟨_,(Option.some.inj h).symm,rfl,hS⟩
   ·obtain ⟨Fc,Eo,rfl,hS⟩:=hq;obtain rfl:=Eo.symm;replace h:=g22;try dsimp only at h
    refine Cb E9 ?_;refine B_ ?_;simp only [W];refine Cl h (fun hc h=> ?_) (fun hc h=> ?_)
    ·refine B5 fun Hk Fs=> ?_;refine Cm gC ?_;try simp only [W,Nat.reduceAdd]
     refine Cb Fs ?_;refine B8 ?_;refine Ch EQ ?_;refine Cc E8 ?_;try obtain rfl:=Option.some.inj h
     obtain rfl:=FO _ rfl;have h:(some (LR.done false):Option (LR Unit (Bool)))=some (LR.done false):=rfl;refine CG EK ?_;refine Ch EO ?_;try obtain rfl:=Option.some.inj h
     obtain rfl:=Option.some.inj g12;have h:(some false:Option (Bool))=some false:=rfl;refine CJ EU ?_;refine Cc zY ?_;refine Cj En rfl ?_;try obtain rfl:=Option.some.inj h
     exact hP _ hS
    ·refine B7 ?_;refine Cf EQ ?_;refine Cb E8 ?_;refine Cm gC ?_;try simp only [W,EE,Nat.reduceAdd]
     exact CE EK h ⟨rfl,hS⟩
  ·refine B9 ?_;refine Cd Fe ?_;try obtain rfl:=Option.some.inj h
   obtain rfl:=FO _ rfl;have h:(some (LR.next ()):Option (LR Unit (Bool)))=some (LR.next ()):=rfl
   refine CF EK ?_;refine Cg EO ?_;exact CI EU ⟨(Option.some.inj h).symm,rfl,hS⟩
 ·obtain ⟨rfl,rfl,hS⟩:=hq;replace h:=g12;try dsimp only at h
  refine Cb zY ?_;refine B5 fun NS Hl=> ?_;refine Cm gC ?_;try simp only [W,Nat.reduceAdd]
  refine Cb Hl ?_;refine B8 ?_;refine Cj En rfl ?_;try obtain rfl:=Option.some.inj h
  exact hP _ hS
theorem PP {a0:Int} {a1:Int} {r:(Int)} (h:Jx a0 a1=some r) {F:List It} {H:J} (hS:ay H (F)) {P:AV→J→Prop} (hP: ∀H',ay H' (F)→P (.int .i64 r) H'):aq C 61 [.int .i64 a0,.int .i64 a1] H P:=by
 refine Cp gC (res:=[.tmp 4]) (n:=10) rfl rfl rfl rfl fun K0 En=> ?_;simp only [W,Nat.reduceSub,Nat.reduceAdd,List.replicate];unfold Jx at h;refine B5 fun K1 Er=> ?_;refine Cm gC ?_;try simp only [W,Nat.reduceAdd]
 refine Cb Er ?_;refine B5 fun K2 zY=> ?_;refine B5 fun K3 EG=> ?_;refine Cm gC ?_;try simp only [W,EE,Nat.reduceAdd]
 refine Cb EG ?_;refine B_ ?_;simp only [W];refine Cl h (fun hc h=> ?_) (fun hc h=> ?_)
 ·refine B5 fun K4 EI=> ?_;refine Cm gC ?_;try simp only [W,Nat.reduceAdd]
  refine Cb EI ?_;refine B8 ?_;refine Cc zY ?_;refine Cj En rfl ?_;try obtain rfl:=Option.some.inj h
  exact hP _ hS
 ·refine B7 ?_;refine Cb zY ?_;refine B5 fun K5 EV=> ?_;refine Cm gC ?_;try simp only [W,Nat.reduceAdd]
  refine Cb EV ?_;refine B8 ?_;refine Cj En rfl ?_;try obtain rfl:=Option.some.inj h
  exact hP _ hS
end Go.GB
