import Derived.Test.YtclgbpneokeaeaaGreatVeF
import Derived.Test.YtclgbpneokeaeaaGreatProg
import Derived.Test.YtclgbpneokeaeaaGreatVaG
import Derived.KernelRfl
open Go Go.VS
set_option maxRecDepth 8000
set_option maxHeartbeats 4000000
namespace Go.GC
def Ej (x:Span):AV:= .agg [.int .i64 x.En,.int .i64 x.To]
def UZ (x:Et):AV:= .agg [.int .i64 x.Next,.fz (x.Em.map Ej),.fz (x.Ek.map (AV.int .i64))]
def U0 (x:ED):AV:= .agg [.fz (x.Code.map (AV.int .u8)),.int .i64 x.At,.int .u64 x.ES]
def E:aK:=fun t=>match t with
 |3=>some {sz:=1,agg:=false,zero:=[AV.int IntKind.i64 0],bytes:=8,au:=UD.it IntKind.i64,ky:=true}
 |4=>some {sz:=1,agg:=false,zero:=[AV.bool false],bytes:=1,au:=UD.bl,ky:=true}
 |5=>some {sz:=1,agg:=false,zero:=[AV.int IntKind.u8 0],bytes:=1,au:=UD.it IntKind.u8,ky:=true}
 |22=>some {sz:=1,agg:=false,zero:=[AV.nil],bytes:=24,au:=UD.sl 5,ky:=true}
 |23=>some {sz:=1,agg:=false,zero:=[AV.nil],bytes:=24,au:=UD.sl 121,ky:=true}
 |24=>some {sz:=1,agg:=false,zero:=[AV.nil],bytes:=24,au:=UD.sl 3,ky:=true}
 |26=>some {sz:=3,agg:=true,zero:=[AV.int IntKind.i64 0,AV.nil,AV.nil],bytes:=56,au:=UD.st [(0,3),(1,23),(2,24)],ky:=true}
 |105=>some {sz:=1,agg:=false,zero:=[AV.dy],bytes:=8,au:=UD.pt,ky:=true}
 |106=>some {sz:=1,agg:=false,zero:=[AV.int IntKind.u64 0],bytes:=8,au:=UD.it IntKind.u64,ky:=true}
 |108=>some {sz:=3,agg:=true,zero:=[AV.nil,AV.int IntKind.i64 0,AV.int IntKind.u64 0],bytes:=40,au:=UD.st [(0,22),(1,3),(2,106)],ky:=true}
 |113=>some {sz:=1,agg:=false,zero:=[AV.undef],bytes:=8,au:=UD.ot,ky:=true}
 |121=>some {sz:=2,agg:=true,zero:=[AV.int IntKind.i64 0,AV.int IntKind.i64 0],bytes:=16,au:=UD.st [(0,3),(1,3)],ky:=true}
 |180=>some {sz:=1,agg:=false,zero:=[AV.undef],bytes:=8,au:=UD.ot,ky:=true}
 |209=>some {sz:=1,agg:=false,zero:=[AV.undef],bytes:=8,au:=UD.ot,ky:=true}
 |210=>some {sz:=1,agg:=false,zero:=[AV.nil],bytes:=24,au:=UD.sl 23,ky:=true}
 |_=>none
def fH:FuncId→kA:=fun f=>match f with
 |3=>{bP:=[[.sc]],loops:=[(0,{keep:=[1,6,7,15,176,177,178]})],blocks:=[(0,[1,6,7])],nK:=[(26,[],[1]),(27,[],[1])],fF:=[(8,[],some [1,5,6,7,8,9,10,15,117]),(14,[],some [1,6,7,9,15,19,171]),(23,[],some [1,212])],fz:=[(3,[(6,[([52],[.sc,.sl [.sc,.sc],.sl [.sc]])])])],xe:=[(118,[1])]}
 |8=>{bP:=[[.sc,.sl [.sc,.sc],.sl [.sc]],[.sl [.sc,.sc]]],fF:=[(4,[],some [2,4,5,6,27]),(7,[([6],[.sl [.sc,.sc]])],none)],fz:=[(3,[(4,[([17],[.sl [.sc]])])])],xe:=[(27,[2,4,5,6]),(34,[2,5,6])]}
 |9=>{bP:=[[.sc,.sl [.sc,.sc],.sl [.sc]],[.sl [.sc]],[.sl [.sc]],[.sc]],loops:=[(0,{keep:=[2,4,8,10,11,41,42]}),(2,{keep:=[4,10,11,13,14,80,81,82]})],blocks:=[(1,[2,4,8,10,11,41,42]),(0,[2,4,8,10,11]),(3,[4,10,11,13,14,80,81,82]),(2,[4,10,11,13])],nK:=[(13,[7,10],[5]),(16,[],[0])],fF:=[(1,[],some [1,2,4,26]),(10,[],some [2,4,8,10,11,12,41,42,54])],fz:=[(2,[(1,[([27],[.sc,.sl [.sc,.sc],.sl [.sc]])])]),(5,[(1,[([37],[.sc,.sl [.sc,.sc],.sl [.sc]])])]),(24,[(3,[([103],[.sc,.sl [.sc,.sc],.sl [.sc]])])])],xe:=[(54,[2,4,8,10,11,41,42]),(71,[4,10,11,13]),(89,[4,10,11,13,14,80,81,82])]}
 |10=>{bP:=[[.sc,.sl [.sc,.sc],.sl [.sc]],[.sl [.sc]],[.sl [.sc]],[.sc]],nK:=[(6,[],[1])],fF:=[(1,[],some [1,2,4,21])]}
 |11=>{bP:=[[.sl [.sc]],[.sc]]}
 |12=>{bP:=[[.sl [.sc]],[.sc]]}
 |13=>{bP:=[[.sc]]}
 |14=>{bP:=[[.sc]],loops:=[(0,{keep:=[0,1,12,13]})],blocks:=[(0,[])]}
 |15=>{bP:=[[.sc]],loops:=[(0,{keep:=[1,18,19,20]})],blocks:=[(0,[])],fF:=[(1,[],some [1,16]),(6,[],some [1,18,19,20,50])]}
 |16=>{bP:=[[.sc],[.sc]]}
 |17=>{bP:=[[.sc]],loops:=[(0,{keep:=[1,7,8,9]})],blocks:=[(0,[])]}
 |18=>{bP:=[[.sc,.sl [.sc,.sc],.sl [.sc]]],xe:=[(11,[2,4])]}
 |19=>{bP:=[[.sc,.sl [.sc,.sc],.sl [.sc]],[.sc],[.sc]],nK:=[(3,[12],[5,8])],fF:=[(1,[],some [1,2,12])]}
 |20=>{bP:=[[.sc,.sl [.sc,.sc],.sl [.sc]],[.sc],[.sc]],nK:=[(5,[3],[])],fF:=[(1,[],some [1,2,13])]}
 |21=>{bP:=[[.sc]],fz:=[(2,[(2,[([8],[.sl [.sc]])])])]}
 |22=>{bP:=[[.sc,.sl [.sc,.sc],.sl [.sc]],[.sc]]}
 |23=>{bP:=[[.sc,.sl [.sc,.sc],.sl [.sc]],[.sc]]}
 |65=>{bP:=[[.sc,.sl [.sc,.sc],.sl [.sc]]],loops:=[(0,{keep:=[0,2,3,4,21,22,23]})],blocks:=[(1,[0,2,3,4,21,22,23]),(0,[0,2,4])],nK:=[(7,[],[6]),(12,[3,5,7],[])],fF:=[(6,[],some [0,2,3,4,7,21,22,23,37])],xe:=[(50,[0,2,3,4,21,22,23]),(54,[2,4])]}
 |66=>{bP:=[[.sl [.sc,.sc]],[.sc]],loops:=[(0,{keep:=[4,10,11,12]})],blocks:=[(0,[4])],fF:=[(2,[([2],[.sl [.sc,.sc]])],none)],fz:=[(7,[(5,[([16,4],[.sl [.sc,.sc]])])]),(9,[(1,[([23,4],[.sl [.sc,.sc]])])])]}
 |67=>{bP:=[[.sl [.sc]]],loops:=[(0,{keep:=[0,1,5,6]}),(2,{keep:=[0,5,7]})],blocks:=[(1,[0,1,5,6]),(0,[0,5]),(2,[0,5])],fF:=[(8,[],some [0,5,7,31]),(15,[],some [0,5,69])],fz:=[(16,[(9,[([78],[.sl [.sc]])])])],xe:=[(18,[0,1,5,6]),(69,[5])]}
 |68=>{bP:=[[.sc]]}
 |69=>{bP:=[[.sc]],xe:=[(11,[1,5])]}
 |70=>{bP:=[[.sl [.sc,.sc]]],loops:=[(0,{keep:=[0,3,4,5]})],blocks:=[(0,[0,3])],fF:=[(11,[],some [3,42])],xe:=[(10,[0,3,4]),(42,[3])]}
 |71=>{bP:=[[.sc]]}
 |72=>{bP:=[[.sl [.sc,.sc]],[.sc]],nK:=[(3,[],[3,4])],fF:=[(1,[],some [0,1,13]),(2,[([4],[.sl [.sc,.sc]])],none)],fz:=[(3,[(5,[([18],[.sl [.sc,.sc]])])])]}
 |73=>{bP:=[[.sc]]}
 |74=>{bP:=[[.sl [.sc]]],loops:=[(0,{keep:=[0,1,5,6]})],blocks:=[(1,[0,1,5,6]),(0,[0,5])],xe:=[(29,[0,1,5,6])]}
 |75=>{bP:=[[.sl [.sc]]]}
 |76=>{bP:=[[.sc]]}
 |77=>{bP:=[[.sl [.sc]]],loops:=[(0,{keep:=[0,3,9,10]})],blocks:=[(1,[0,3,9,10]),(0,[3])],fF:=[(5,[],some [0,3,4,9,10,28])],xe:=[(28,[0,3,9,10])]}
 |78=>{bP:=[]}
 |79=>{bP:=[[.sc]],loops:=[(0,{keep:=[1,26,27,28]})],blocks:=[(0,[])],fF:=[(1,[],some [1,24])]}
 |80=>{bP:=[[.sc]]}
 |81=>{bP:=[[.sc,.sl [.sc,.sc],.sl [.sc]],[.sl [.sc]],[.sl [.sc]],[.sc]],loops:=[(0,{keep:=[2,4,8,9,10,11]}),(2,{keep:=[2,4,8,9,10,12,14]})],blocks:=[(1,[2,4,8,9,10,11]),(0,[2,4,8,9,10]),(3,[2,4,8,9,10,12,14]),(2,[4,8,9,10])],nK:=[(1,[8],[]),(21,[7],[])],fF:=[(6,[],some [2,4,8,9,10,11,39]),(17,[],some [2,4,8,9,10,12,14,15,77]),(19,[],some [2,4,8,9,10,12,14,91])],xe:=[(39,[2,4,8,9,10,11]),(48,[2,4,8,9,10,12]),(77,[2,4,8,9,10,12,14,15]),(91,[2,4,8,9,10,12,14])]}
 |82=>{bP:=[[.sc,.sl [.sc,.sc],.sl [.sc]]],nK:=[(1,[11],[])]}
 |83=>{bP:=[[.sl [.sc]]],loops:=[(0,{keep:=[1,3,4]})],blocks:=[(1,[1,3,4]),(0,[3])],fF:=[(5,[],some [1,3,4,22])],xe:=[(22,[1,3,4])]}
 |84=>{bP:=[[.sc]],loops:=[(0,{keep:=[0,1,12,13]})],blocks:=[(0,[])]}
 |85=>{bP:=[[.sc]]}
 |86=>{bP:=[[.sc]],loops:=[(0,{keep:=[0,8,9,10]})],blocks:=[(0,[])],fF:=[(6,[],some [0,8,9,10,32])]}
 |87=>{bP:=[[.sc]],loops:=[(0,{keep:=[3,6,7,8]})],blocks:=[(0,[3])]}
 |88=>{bP:=[[.sl [.sc,.sc]]]}
 |89=>{bP:=[[.sc]]}
 |90=>{bP:=[[.sc]]}
 |98=>{bP:=[[.sc]]}
 |112=>{bP:=[[.sc]],loops:=[(0,{keep:=[1,7,8,9]})],blocks:=[(0,[])]}
 |113=>{bP:=[[.sc]],loops:=[(0,{keep:=[0,1,7,8,9]})],blocks:=[(0,[])],fF:=[(4,[],some [0,1,7,8,9,31])]}
 |134=>{bP:=[[.sc]],loops:=[(0,{keep:=[0,1,7,8,9]})],blocks:=[(0,[])],fF:=[(4,[],some [0,1,7,8,9,25])]}
 |135=>{bP:=[[.sl [.sc,.sc]]],loops:=[(0,{keep:=[0,3,5,6]}),(2,{keep:=[0,3,5,6]})],blocks:=[(0,[0,3,5,6]),(2,[0,3,5,6])],nK:=[(7,[17],[])],fF:=[(3,[],some [0,3,5,6,20]),(6,[],some [0,3,5,6,43])]}
 |136=>{bP:=[[.sl [.sc,.sc]],[.sc]],fF:=[(2,[([2],[.sl [.sc,.sc]])],none)]}
 |137=>{bP:=[[.sc]]}
 |138=>{bP:=[[.sc]],xe:=[(13,[0,3])]}
 |139=>{bP:=[[.sl [.sc,.sc]],[.sc]],fF:=[(2,[([2],[.sl [.sc,.sc]])],none)]}
 |140=>{bP:=[[.sl [.sc,.sc]]],loops:=[(0,{keep:=[4,13,14,15]})],blocks:=[(1,[4,13,14,15]),(0,[4])],nK:=[(8,[12],[])],fF:=[(7,[],some [4,6,7,13,14,15,33])]}
 |141=>{bP:=[[.sl [.sc,.sc]]],loops:=[(0,{keep:=[0,3,9,10,11]}),(2,{keep:=[6,25,26,27]})],blocks:=[(1,[0,3,9,10,11]),(0,[0,3]),(2,[6])],xe:=[(20,[0,3,9,10,11])]}
 |142=>{bP:=[[.sc]]}
 |143=>{bP:=[[.sc]]}
 |144=>{bP:=[[.sc]],loops:=[(0,{keep:=[0,1,7,8]})],blocks:=[(0,[])]}
 |147=>{bP:=[[.sc]],loops:=[(0,{keep:=[1,7,8,9]})],blocks:=[(0,[])],fF:=[(4,[],some [1,7,8,9,22])]}
 |148=>{bP:=[[.sc]],loops:=[(0,{keep:=[0,5,6,7]})],blocks:=[(0,[0])],fF:=[(4,[],some [0,5,6,7,29])]}
 |149=>{bP:=[[.sl [.sc,.sc]]],loops:=[(0,{keep:=[5,11,12,13]})],blocks:=[(0,[5])],nK:=[(5,[],[2])]}
 |150=>{bP:=[[.sc]]}
 |156=>{bP:=[[.sc]],loops:=[(0,{keep:=[0,1,7,8]})],blocks:=[(0,[])]}
 |180=>{bP:=[[.sc]]}
 |181=>{bP:=[]}
 |183=>{bP:=[[.sl [.sc,.sc]]],xe:=[(6,[0,1]),(16,[0])]}
 |184=>{bP:=[[.sc]],loops:=[(0,{keep:=[0,1,7,8]})],blocks:=[(0,[])]}
 |196=>{bP:=[[.sc]]}
 |_=>{}
noncomputable def code:FuncId→Option Func:=fun f=>match f with
 |3=>some Go.Proofs.Tryz.f3
 |8=>some Go.Proofs.Tryz.f8
 |9=>some Go.Proofs.Tryz.f9
 |10=>some Go.Proofs.Tryz.f10
 |11=>some Go.Proofs.Tryz.f11
 |12=>some Go.Proofs.Tryz.f12
 |13=>some Go.Proofs.Tryz.f13
 |14=>some Go.Proofs.Tryz.f14
 |15=>some Go.Proofs.Tryz.f15
 |16=>some Go.Proofs.Tryz.f16
 |17=>some Go.Proofs.Tryz.f17
 |18=>some Go.Proofs.Tryz.f18
 |19=>some Go.Proofs.Tryz.f19
 |20=>some Go.Proofs.Tryz.f20
 |21=>some Go.Proofs.Tryz.f21
 |22=>some Go.Proofs.Tryz.f22
 |23=>some Go.Proofs.Tryz.f23
 |65=>some Go.Proofs.Tryz.f65
 |66=>some Go.Proofs.Tryz.f66
 |67=>some Go.Proofs.Tryz.f67
 |68=>some Go.Proofs.Tryz.f68
 |69=>some Go.Proofs.Tryz.f69
 |70=>some Go.Proofs.Tryz.f70
 |71=>some Go.Proofs.Tryz.f71
 |72=>some Go.Proofs.Tryz.f72
 |73=>some Go.Proofs.Tryz.f73
 |74=>some Go.Proofs.Tryz.f74
 |76=>some Go.Proofs.Tryz.f76
 |77=>some Go.Proofs.Tryz.f77
 |79=>some Go.Proofs.Tryz.f79
 |80=>some Go.Proofs.Tryz.f80
 |81=>some Go.Proofs.Tryz.f81
 |82=>some Go.Proofs.Tryz.f82
 |83=>some Go.Proofs.Tryz.f83
 |84=>some Go.Proofs.Tryz.f84
 |85=>some Go.Proofs.Tryz.f85
 |86=>some Go.Proofs.Tryz.f86
 |87=>some Go.Proofs.Tryz.f87
 |89=>some Go.Proofs.Tryz.f89
 |90=>some Go.Proofs.Tryz.f90
 |98=>some Go.Proofs.Tryz.f98
 |112=>some Go.Proofs.Tryz.f112
 |113=>some Go.Proofs.Tryz.f113
 |134=>some Go.Proofs.Tryz.f134
 |135=>some Go.Proofs.Tryz.f135
 |136=>some Go.Proofs.Tryz.f136
 |137=>some Go.Proofs.Tryz.f137
 |138=>some Go.Proofs.Tryz.f138
 |139=>some Go.Proofs.Tryz.f139
 |140=>some Go.Proofs.Tryz.f140
 |141=>some Go.Proofs.Tryz.f141
 |142=>some Go.Proofs.Tryz.f142
 |143=>some Go.Proofs.Tryz.f143
 |144=>some Go.Proofs.Tryz.f144
 |147=>some Go.Proofs.Tryz.f147
 |148=>some Go.Proofs.Tryz.f148
 |149=>some Go.Proofs.Tryz.f149
 |150=>some Go.Proofs.Tryz.f150
 |156=>some Go.Proofs.Tryz.f156
 |180=>some Go.Proofs.Tryz.f180
 |183=>some Go.Proofs.Tryz.f183
 |184=>some Go.Proofs.Tryz.f184
 |196=>some Go.Proofs.Tryz.f196
 |_=>none
def Nb:List (FuncId×Nat×Nat):=[(75,1,8),(88,2,16)]
def qn:List (FuncId×FuncId×Nat):=[(181,182,2)]
def nE:List FuncId:=[]
def lM:List FuncId:=[78]
def kids:List FuncId:=[]
def Ih:nG:=⟨Nb,qn,nE,lM,kids,[]⟩
noncomputable def C:aG:=⟨E,fH,code,lN Ih⟩
theorem gC:Go.VS.Good C:=Ec (I:=Ih) rfl
theorem R4:C.E=E:=rfl
theorem E3:E 3=some {sz:=1,agg:=false,zero:=[AV.int IntKind.i64 0],bytes:=8,au:=UD.it IntKind.i64,ky:=true}:=rfl
theorem E4:E 4=some {sz:=1,agg:=false,zero:=[AV.bool false],bytes:=1,au:=UD.bl,ky:=true}:=rfl
theorem E5:E 5=some {sz:=1,agg:=false,zero:=[AV.int IntKind.u8 0],bytes:=1,au:=UD.it IntKind.u8,ky:=true}:=rfl
theorem R5:E 22=some {sz:=1,agg:=false,zero:=[AV.nil],bytes:=24,au:=UD.sl 5,ky:=true}:=rfl
theorem R6:E 23=some {sz:=1,agg:=false,zero:=[AV.nil],bytes:=24,au:=UD.sl 121,ky:=true}:=rfl
theorem R7:E 24=some {sz:=1,agg:=false,zero:=[AV.nil],bytes:=24,au:=UD.sl 3,ky:=true}:=rfl
theorem R8:E 26=some {sz:=3,agg:=true,zero:=[AV.int IntKind.i64 0,AV.nil,AV.nil],bytes:=56,au:=UD.st [(0,3),(1,23),(2,24)],ky:=true}:=rfl
theorem R9:E 105=some {sz:=1,agg:=false,zero:=[AV.dy],bytes:=8,au:=UD.pt,ky:=true}:=rfl
theorem R_:E 106=some {sz:=1,agg:=false,zero:=[AV.int IntKind.u64 0],bytes:=8,au:=UD.it IntKind.u64,ky:=true}:=rfl
theorem Sa:E 108=some {sz:=3,agg:=true,zero:=[AV.nil,AV.int IntKind.i64 0,AV.int IntKind.u64 0],bytes:=40,au:=UD.st [(0,22),(1,3),(2,106)],ky:=true}:=rfl
theorem Sb:E 113=some {sz:=1,agg:=false,zero:=[AV.undef],bytes:=8,au:=UD.ot,ky:=true}:=rfl
theorem Sc:E 121=some {sz:=2,agg:=true,zero:=[AV.int IntKind.i64 0,AV.int IntKind.i64 0],bytes:=16,au:=UD.st [(0,3),(1,3)],ky:=true}:=rfl
theorem Sd:E 180=some {sz:=1,agg:=false,zero:=[AV.undef],bytes:=8,au:=UD.ot,ky:=true}:=rfl
theorem Se:E 209=some {sz:=1,agg:=false,zero:=[AV.undef],bytes:=8,au:=UD.ot,ky:=true}:=rfl
theorem Sf:E 210=some {sz:=1,agg:=false,zero:=[AV.nil],bytes:=24,au:=UD.sl 23,ky:=true}:=rfl
theorem EE:type_of% (And.intro @R4<|And.intro @E3<|And.intro @E4<|And.intro @E5<|And.intro @R5<|And.intro @R6<|And.intro @R7<|And.intro @R8<|And.intro @R9<|And.intro @R_<|And.intro @Sa<|And.intro @Sb<|And.intro @Sc<|And.intro @Sd<|And.intro @Se @Sf):=And.intro @R4<|And.intro @E3<|And.intro @E4<|And.intro @E5<|And.intro @R5<|And.intro @R6<|And.intro @R7<|And.intro @R8<|And.intro @R9<|And.intro @R_<|And.intro @Sa<|And.intro @Sb<|And.intro @Sc<|And.intro @Sd<|And.intro @Se @Sf
theorem Sg (x:ED):U0 x= .agg [.fz (x.Code.map (AV.int .u8)),.int .i64 x.At,.int .u64 x.ES]:=rfl
theorem Si (x:Et):UZ x= .agg [.int .i64 x.Next,.fz (x.Em.map Ej),.fz (x.Ek.map (AV.int .i64))]:=rfl
theorem Sj (x:Span):Ej x= .agg [.int .i64 x.En,.int .i64 x.To]:=rfl
theorem EN:type_of% (And.intro @Sg<|And.intro @Si<|And.intro @Sj<|And.intro @DH @uP):=And.intro @Sg<|And.intro @Si<|And.intro @Sj<|And.intro @DH @uP
theorem Sk {a0:ED} {i0:Nat} {w0:Nat} {r:(Int×ED)} (h:KQ a0=some r) {F:List It} {H:J} (hS:az H (⟨.ptr i0 w0 0 0,3,[.agg [.fz (a0.Code.map (AV.int .u8)),.int .i64 a0.At,.int .u64 a0.ES]]⟩::F)) {P:AV→J→Prop} (hP: ∀H',az H' (⟨.ptr i0 w0 0 0,3,[.agg [.fz (r.2.Code.map (AV.int .u8)),.int .i64 r.2.At,.int .u64 r.2.ES]]⟩::F)→P (.int .i64 r.1) H'):aq C 138 [.ptr i0 w0 0 0] H P:=by
 refine Cn gC (res:=[.tmp 2]) (n:=62) rfl rfl rfl rfl fun K0 El=> ?_;simp only [W,Nat.reduceSub,Nat.reduceAdd,List.replicate];unfold KQ at h;refine B3 fun K1 Er=> ?_;refine Ck gC ?_;try simp only [W,Nat.reduceAdd]
 refine B_ Er ?_;refine B3 fun K2 zU=> ?_;refine Ck gC ?_;try simp only [W,Nat.reduceAdd]
 refine B_ zU ?_;refine B3 fun K3 EJ=> ?_;refine B3 fun K4 EC=> ?_;refine Cm gC (by kernel_rfl) ?_
 try simp only [W,EE,Nat.reduceAdd,Nat.reduceBEq,hS.var 0 rfl]
 refine B_ EC ?_;obtain ⟨U1,h,g7⟩:=Option.bind_eq_some_iff.1 h;refine CG gC (fun s H=> ∃EF:Int,U1=(EF)∧s=(.ptr i0 w0 0 0::u::u:: .int .i64 EF::u::u::u::u::u::u::u::u::u::u::u::u::u::u::u::u::u::u::u::u::u::u::u::u::u::u::u::u::u::u::u::u::u::u::u::u::u::u::u::u::u::u::u::u::u::u::u::u::u::u::u::u::u::u::u::u::u::u::[])∧az H (⟨.ptr i0 w0 0 0,3,[.agg [.fz (a0.Code.map (AV.int .u8)),.int .i64 a0.At,.int .u64 a0.ES]]⟩::F)) (fun K8 EK=> ?_) (fun s H hq=> ?_)
 ·refine B3 fun K9 EL=> ?_;refine B8 ?_;simp only [W];refine Cj h (fun hc h=> ?_) (fun hc h=> ?_)
  ·refine Cm gC (by kernel_rfl) ?_
   try simp only [W,EE,Nat.reduceAdd,Nat.reduceBEq,hS.var 0 rfl]
   refine Cu rfl rfl rfl (fun _=>rfl) h fun FI Sl h=> ?_;try simp only [W,EE]
   refine B_ EL ?_;refine DP (s' :=(.ptr i0 w0 0 0::u::u:: .int .i64 (IntKind.i64.wrap FI)::u::u::u::u::u::u::u::u::u::u::u::u::u::u::u::u::u::u::u::u::u::u::u::u::u::u::u::u::u::u::u::u::u::u::u::u::u::u::u::u::u::u::u::u::u::u::u::u::u::u::u::u::u::u::u::u::u::u::[])) rfl ?_
   exact CH EK ⟨_,(Option.some.inj h).symm,rfl,hS⟩
  ·refine B5 ?_;refine B_ EL ?_;refine DP (s' :=(.ptr i0 w0 0 0::u::u:: .int .i64 0::u::u::u::u::u::u::u::u::u::u::u::u::u::u::u::u::u::u::u::u::u::u::u::u::u::u::u::u::u::u::u::u::u::u::u::u::u::u::u::u::u::u::u::u::u::u::u::u::u::u::u::u::u::u::u::u::u::u::[])) rfl ?_
   exact CH EK ⟨_,(Option.some.inj h).symm,rfl,hS⟩
 ·obtain ⟨EF,Es,rfl,hS⟩:=hq;obtain rfl:=Es.symm;replace h:=g7;try dsimp only at h
  refine B_ EJ ?_;refine B3 fun Ii Fy=> ?_;refine Ck gC ?_;try simp only [W,EE,Nat.reduceAdd,Nat.reduceBEq,hS.var 0 rfl]
  refine Cs (a:= .int .i64 (IntKind.i64.wrap (a0.At+1))) (y' := .agg [.fz (a0.Code.map (AV.int .u8)),.int .i64 (IntKind.i64.wrap (a0.At+1)),.int .u64 a0.ES]) 0 hS rfl rfl rfl rfl rfl rfl rfl rfl fun H hS=> ?_
  try simp only [W]
  refine B_ Fy ?_;refine B3 fun Ij Fs=> ?_;refine Ck gC ?_;try simp only [W,EE,Nat.reduceAdd,Nat.reduceBEq,hS.var 0 rfl]
  refine Cs (a:= .int .u64 (IntKind.u64.wrap ((IntKind.u64.wrap ((IntKind.u64.wrap (a0.ES*6364136223846793005))+(IntKind.u64.wrap EF)))+1442695040888963407))) (y' := .agg [.fz (a0.Code.map (AV.int .u8)),.int .i64 (IntKind.i64.wrap (a0.At+1)),.int .u64 (IntKind.u64.wrap ((IntKind.u64.wrap ((IntKind.u64.wrap (a0.ES*6364136223846793005))+(IntKind.u64.wrap EF)))+1442695040888963407))]) 0 hS rfl rfl rfl rfl rfl rfl rfl rfl fun H hS=> ?_
  try simp only [W]
  refine B_ Fs ?_;refine B3 fun Hi Fz=> ?_;refine B3 fun G4 E8=> ?_;refine Cm gC (by kernel_rfl) ?_
  try simp only [W,EE,Nat.reduceAdd,Nat.reduceBEq,hS.var 0 rfl]
  refine B_ E8 ?_;refine B8 ?_;simp only [W];refine Cj h (fun hc h=> ?_) (fun hc h=> ?_)
  ·refine B3 fun Gm EP=> ?_;refine Ck gC ?_;try simp only [W,Nat.reduceAdd]
   refine B_ EP ?_;refine B6 ?_;refine Ca Fz ?_;refine Ch El rfl ?_;try obtain rfl:=Option.some.inj h
   exact hP _ hS
  ·refine B5 ?_;refine B_ Fz ?_;refine B3 fun Gc EM=> ?_;refine Ck gC ?_;try simp only [W,EE,Nat.reduceAdd,Nat.reduceBEq,hS.var 0 rfl]
   rw [CK _ _ _ rfl,Option.map_some,tv];try simp only [W,EE]
   refine B_ EM ?_;refine B6 ?_;refine Ch El rfl ?_;try obtain rfl:=Option.some.inj h
   exact hP _ hS
theorem HA {a0:ED} {a1:Int} {i0:Nat} {w0:Nat} {r:(Int×ED)} (h:Gv a0 a1=some r) {F:List It} {H:J} (hS:az H (⟨.ptr i0 w0 0 0,3,[.agg [.fz (a0.Code.map (AV.int .u8)),.int .i64 a0.At,.int .u64 a0.ES]]⟩::F)) {P:AV→J→Prop} (hP: ∀H',az H' (⟨.ptr i0 w0 0 0,3,[.agg [.fz (r.2.Code.map (AV.int .u8)),.int .i64 r.2.At,.int .u64 r.2.ES]]⟩::F)→P (.int .i64 r.1) H'):aq C 69 [.ptr i0 w0 0 0,.int .i64 a1] H P:=by
 refine Cn gC (res:=[.tmp 4]) (n:=20) rfl rfl rfl rfl fun K0 El=> ?_;simp only [W,Nat.reduceSub,Nat.reduceAdd,List.replicate];unfold Gv at h;refine B3 fun K1 Er=> ?_;refine Ck gC ?_;try simp only [W,Nat.reduceAdd]
 refine B_ Er ?_;refine B3 fun K2 zU=> ?_;refine B3 fun K3 EJ=> ?_;refine Ck gC ?_;try simp only [W,EE,Nat.reduceAdd]
 refine B_ EJ ?_;refine B8 ?_;simp only [W];refine Cj h (fun hc h=> ?_) (fun hc h=> ?_)
 ·refine B3 fun K4 EC=> ?_;refine Ck gC ?_;try simp only [W,Nat.reduceAdd]
  refine B_ EC ?_;refine B6 ?_;refine Ca zU ?_;refine Ch El rfl ?_;try obtain rfl:=Option.some.inj h
  exact hP _ hS
 ·refine B5 ?_;refine B_ zU ?_;refine B3 fun K5 EZ=> ?_;refine Ck gC ?_;try simp only [W,Nat.reduceAdd]
  refine CB h fun Fi HS h=> ?_;obtain ⟨EA,Fo⟩:=Fi;try dsimp only at h
  refine Sk HS hS fun H hS=> ?_;try simp only [W]
  refine B_ EZ ?_;refine B3 fun K9 EL=> ?_;refine B3 fun JN FX=> ?_;refine Ck gC ?_;try simp only [W,EE,Nat.reduceAdd]
  refine B_ FX ?_;obtain ⟨PT,h,g16⟩:=Option.bind_eq_some_iff.1 h;refine CG gC (fun s H=> ∃EX:Int,∃Fq:List Int,∃EU:Int,∃E_:Int,PT=(EX,Fq,EU,E_)∧s=[u,.int .i64 a1,u,u,u,.int .i64 EX,u,u,u,u,u,u,u,u,u,u,u,u,u,u]∧az H (⟨.ptr i0 w0 0 0,3,[.agg [.fz (Fq.map (AV.int .u8)),.int .i64 EU,.int .u64 E_]]⟩::F)) (fun Gd EQ=> ?_) (fun s H hq=> ?_)
  ·refine B3 fun GR Fa=> ?_;refine B8 ?_;simp only [W];refine Cj h (fun hc h=> ?_) (fun hc h=> ?_)
   ·refine Ck gC ?_;try simp only [W,EE,Nat.reduceAdd]
    refine CB h fun FE Ll h=> ?_;obtain ⟨EW,ET⟩:=FE;try dsimp only at h
    refine Sk Ll hS fun H hS=> ?_;try simp only [W,EE]
    refine B_ Fa ?_;refine B9 ?_;exact CH EQ ⟨_,_,_,_,(Option.some.inj h).symm,rfl,hS⟩
   ·refine B5 ?_;refine B_ Fa ?_;refine B9 ?_;exact CH EQ ⟨_,_,_,_,(Option.some.inj h).symm,rfl,hS⟩
  ·obtain ⟨EX,Fq,EU,E_,rfl,rfl,hS⟩:=hq;replace h:=g16;try dsimp only at h
   refine B_ EL ?_;refine B3 fun JO F3=> ?_;refine Ck gC ?_;try simp only [W,EE,Nat.reduceAdd]
   refine w_num _ h fun HI abE h=> ?_;try simp only [W]
   refine B_ F3 ?_;refine B6 ?_;refine Ch El rfl ?_;try obtain rfl:=Option.some.inj h
   exact hP _ hS
theorem Ol {a0:Int} {a1:Int} {a2:Int} {r:(Bool)} (h:Jx a0 a1 a2=some r) {F:List It} {H:J} (hS:az H (F)) {P:AV→J→Prop} (hP: ∀H',az H' (F)→P (.bool r) H'):aq C 90 [.int .i64 a0,.int .i64 a1,.int .i64 a2] H P:=by
 refine Cn gC (res:=[.tmp 6]) (n:=15) rfl rfl rfl rfl fun K0 El=> ?_;simp only [W,Nat.reduceSub,Nat.reduceAdd,List.replicate];unfold Jx at h;refine B3 fun K1 Er=> ?_;refine Ck gC ?_;try simp only [W,Nat.reduceAdd]
 refine B_ Er ?_;refine B3 fun K2 zU=> ?_;refine Ck gC ?_;try simp only [W,EE,Nat.reduceAdd]
 refine C4 h (fun hc h=> ?_) (fun hc h=> ?_)
 ·try simp only [W,EE,reduceIte,hc]
  refine B_ zU ?_;refine B6 ?_;refine Ch El rfl ?_;try obtain rfl:=Option.some.inj h
  exact hP _ hS
 ·try simp only [W,hc]
  refine B_ zU ?_;refine B6 ?_;refine Ch El rfl ?_;try obtain rfl:=Option.some.inj h
  exact hP _ hS
theorem Sm {a0:Int} {r:(Et×Bool)} (h:Jy a0=some r) {F:List It} {H:J} (hS:az H (F)) {P:AV→J→Prop} (hP: ∀v9:AV,bA v9→ ∀v11:AV,bA v11→ ∀H',az H' (⟨v9,2,r.1.Em.map Ej⟩::⟨v11,1,r.1.Ek.map (AV.int .i64)⟩::F)→P (.ay [.agg [.int .i64 r.1.Next,v9,v11],.bool r.2]) H'):aq C 23 [.int .i64 a0] H P:=by
 refine Cn gC (res:=[.cell 2 26,.tmp 3]) (n:=10) rfl rfl rfl rfl fun K0 El=> ?_;simp only [W,Nat.reduceSub,Nat.reduceAdd,List.replicate];unfold Jy at h;refine B3 fun K1 Er=> ?_;refine Ck gC ?_;try simp only [W,Nat.reduceAdd]
 refine Cr hS rfl rfl fun Eo Ep H hS=> ?_;try simp only [W]
 refine B_ Er ?_;refine B3 fun K4 EC=> ?_;refine B3 fun K5 EZ=> ?_;refine Ck gC ?_;try simp only [W,Nat.reduceAdd]
 refine CB h fun Fi HS h=> ?_;refine Ol HS hS fun H hS=> ?_;try simp only [W]
 refine B_ EZ ?_;refine B8 ?_;simp only [W];refine Cj h (fun hc h=> ?_) (fun hc h=> ?_)
 ·refine B3 fun K7 EI=> ?_;refine Ck gC ?_;try simp only [W,EE,Nat.reduceAdd]
  refine C5 rfl rfl rfl rfl rfl ?_;try simp only [W]
  refine Cs (a:= .agg [.int .i64 0,.nil,.nil]) (y' := .agg [.int .i64 0,.nil,.nil]) 0 hS rfl rfl rfl rfl rfl rfl rfl rfl fun H hS=> ?_
  try simp only [W]
  refine B_ EI ?_;refine B6 ?_;refine Ca EC ?_;refine Cg El (C2 rfl rfl (hS.var 0 rfl) rfl (C3 rfl rfl)) ?_;try obtain rfl:=Option.some.inj h
  exact hP _ nr _ nr _ (((hS.Ap 1).Ap 2).C0 3 [0,1] (by decide))
 ·refine B5 ?_;refine B_ EC ?_;refine B3 fun K8 EK=> ?_;refine Ck gC ?_;try simp only [W,EE,Nat.reduceAdd]
  refine C5 rfl rfl rfl rfl rfl ?_;try simp only [W]
  refine Cs (a:= .agg [.int .i64 a0,.nil,.nil]) (y' := .agg [.int .i64 a0,.nil,.nil]) 0 hS rfl rfl rfl rfl rfl rfl rfl rfl fun H hS=> ?_
  try simp only [W]
  refine B_ EK ?_;refine B6 ?_;refine Cg El (C2 rfl rfl (hS.var 0 rfl) rfl (C3 rfl rfl)) ?_;try obtain rfl:=Option.some.inj h
  exact hP _ nr _ nr _ (((hS.Ap 1).Ap 2).C0 3 [0,1] (by decide))
theorem Jb {a0:ED} {a1:Int} {i0:Nat} {w0:Nat} {r:(Bool×ED)} (h:Hb a0 a1=some r) {F:List It} {H:J} (hS:az H (⟨.ptr i0 w0 0 0,3,[.agg [.fz (a0.Code.map (AV.int .u8)),.int .i64 a0.At,.int .u64 a0.ES]]⟩::F)) {P:AV→J→Prop} (hP: ∀H',az H' (⟨.ptr i0 w0 0 0,3,[.agg [.fz (r.2.Code.map (AV.int .u8)),.int .i64 r.2.At,.int .u64 r.2.ES]]⟩::F)→P (.bool r.1) H'):aq C 68 [.ptr i0 w0 0 0,.int .i64 a1] H P:=by
 refine Cn gC (res:=[.tmp 4]) (n:=9) rfl rfl rfl rfl fun K0 El=> ?_;simp only [W,Nat.reduceSub,Nat.reduceAdd,List.replicate];unfold Hb at h;refine B3 fun K1 Er=> ?_;refine Ck gC ?_;try simp only [W,Nat.reduceAdd]
 refine B_ Er ?_;refine B3 fun K2 zU=> ?_;refine Ck gC ?_;try simp only [W,Nat.reduceAdd]
 refine CB h fun b3 kQ h=> ?_;obtain ⟨F7,Hs⟩:=b3;try dsimp only at h
 refine HA kQ hS fun H hS=> ?_;try simp only [W,EE]
 refine B_ zU ?_;refine B6 ?_;refine Ch El rfl ?_;try obtain rfl:=Option.some.inj h
 exact hP _ hS
theorem Sn {a0:Int} {a1:Int} {r:(Int)} (h:KR a0 a1=some r) {F:List It} {H:J} (hS:az H (F)) {P:AV→J→Prop} (hP: ∀H',az H' (F)→P (.int .i64 r) H'):aq C 137 [.int .i64 a0,.int .i64 a1] H P:=by
 refine Cn gC (res:=[.tmp 4]) (n:=10) rfl rfl rfl rfl fun K0 El=> ?_;simp only [W,Nat.reduceSub,Nat.reduceAdd,List.replicate];unfold KR at h;refine B3 fun K1 Er=> ?_;refine Ck gC ?_;try simp only [W,Nat.reduceAdd]
 refine B_ Er ?_;refine B3 fun K2 zU=> ?_;refine B3 fun K3 EJ=> ?_;refine Ck gC ?_;try simp only [W,EE,Nat.reduceAdd]
 refine B_ EJ ?_;refine B8 ?_;simp only [W];refine Cj h (fun hc h=> ?_) (fun hc h=> ?_)
 ·refine B3 fun K4 EC=> ?_;refine Ck gC ?_;try simp only [W,Nat.reduceAdd]
  refine B_ EC ?_;refine B6 ?_;refine Ca zU ?_;refine Ch El rfl ?_;try obtain rfl:=Option.some.inj h
  exact hP _ hS
 ·refine B5 ?_;refine B_ zU ?_;refine B3 fun K5 EZ=> ?_;refine Ck gC ?_;try simp only [W,Nat.reduceAdd]
  refine B_ EZ ?_;refine B6 ?_;refine Ch El rfl ?_;try obtain rfl:=Option.some.inj h
  exact hP _ hS
theorem Sp {a0:ED} {a1:List Int} {i0:Nat} {w0:Nat} {r:(Int×ED)} (h:J7 a0 a1=some r) {F:List It} {H:J} (hS:az H (⟨.ptr i0 w0 0 0,3,[.agg [.fz (a0.Code.map (AV.int .u8)),.int .i64 a0.At,.int .u64 a0.ES]]⟩::F)) {P:AV→J→Prop} (hP: ∀H',az H' (⟨.ptr i0 w0 0 0,3,[.agg [.fz (r.2.Code.map (AV.int .u8)),.int .i64 r.2.At,.int .u64 r.2.ES]]⟩::F)→P (.int .i64 r.1) H'):aq C 89 [.ptr i0 w0 0 0,.fz (a1.map (AV.int .i64))] H P:=by
 refine Cn gC (res:=[.tmp 4]) (n:=12) rfl rfl rfl rfl fun K0 El=> ?_;simp only [W,Nat.reduceSub,Nat.reduceAdd,List.replicate];unfold J7 at h;refine B3 fun K1 Er=> ?_;refine Ck gC ?_;try simp only [W,Nat.reduceAdd]
 refine B_ Er ?_;refine B3 fun K2 zU=> ?_;refine Ck gC ?_;try simp only [W,EE,Nat.reduceAdd]
 refine CB h fun b3 kQ h=> ?_;obtain ⟨F7,Hs⟩:=b3;try dsimp only at h
 refine HA kQ hS fun H hS=> ?_;try simp only [W,EE]
 refine Cu rfl rfl rfl (fun _=>rfl) h fun Fi HS h=> ?_;try simp only [W,EE]
 refine B_ zU ?_;refine B6 ?_;refine Ch El rfl ?_;try obtain rfl:=Option.some.inj h
 exact hP _ hS
theorem Sq {a0:ED} {a1:Int} {i0:Nat} {w0:Nat} {r:(List Int×ED)} (h:KS a0 a1=some r) {F:List It} {H:J} (hS:az H (⟨.ptr i0 w0 0 0,3,[.agg [.fz (a0.Code.map (AV.int .u8)),.int .i64 a0.At,.int .u64 a0.ES]]⟩::F)) {P:AV→J→Prop} (hP: ∀v138:AV,bA v138→ ∀H',az H' (⟨v138,1,r.1.map (AV.int .i64)⟩::⟨.ptr i0 w0 0 0,3,[.agg [.fz (r.2.Code.map (AV.int .u8)),.int .i64 r.2.At,.int .u64 r.2.ES]]⟩::F)→P (v138) H'):aq C 67 [.ptr i0 w0 0 0,.int .i64 a1] H P:=by
 refine Cn gC (res:=[.tmp 4]) (n:=82) rfl rfl rfl rfl fun K0 El=> ?_;simp only [W,Nat.reduceSub,Nat.reduceAdd,List.replicate];unfold KS at h;refine B3 fun K1 Er=> ?_;refine Ck gC ?_;try simp only [W,Nat.reduceAdd]
 refine B_ Er ?_;refine B3 fun K2 zU=> ?_;refine Ck gC ?_;try simp only [W,Nat.reduceAdd]
 refine B_ zU ?_;refine B3 fun K3 EJ=> ?_;refine B3 fun K4 EC=> ?_;refine Ck gC ?_;try simp only [W,Nat.reduceAdd]
 refine B_ EC ?_;obtain ⟨Nc,PU,g24⟩:=Option.bind_eq_some_iff.1 h;refine CG gC (fun s H=> ∃Fq:List Int,∃E_:List Int,∃H7:Int,∃Ht:Int,Nc=(Fq,E_,H7,Ht)∧ ∃E7:AV,bA E7∧s=(.ptr i0 w0 0 0::u::u::u::u::E7::u::u::u::u::u::u::u::u::u::u::u::u::u::u::u::u::u::u::u::u::u::u::u::u::u::u::u::u::u::u::u::u::u::u::u::u::u::u::u::u::u::u::u::u::u::u::u::u::u::u::u::u::u::u::u::u::u::u::u::u::u::u::u::u::u::u::u::u::u::u::u::u::u::u::u::u::[])∧az H (⟨E7,1,Fq.map (AV.int .i64)⟩::⟨.ptr i0 w0 0 0,3,[.agg [.fz (E_.map (AV.int .u8)),.int .i64 H7,.int .u64 Ht]]⟩::F)) (fun GI E9=> ?_) (fun s H hq=> ?_)
 ·refine B4 fun HB Fv=> ?_;refine CC gC PU (fun x s H=>match x with|(EF,EH,Fj,EB,EX)=> ∃v6:AV,bA v6∧s=(.ptr i0 w0 0 0:: .int .i64 a1::u::u::u::v6:: .int .i64 EH::u::u::u::u::u::u::u::u::u::u::u::u::u::u::u::u::u::u::u::u::u::u::u::u::u::u::u::u::u::u::u::u::u::u::u::u::u::u::u::u::u::u::u::u::u::u::u::u::u::u::u::u::u::u::u::u::u::u::u::u::u::u::u::u::u::u::u::u::u::u::u::u::u::u::u::[])∧az H (⟨v6,1,EF.map (AV.int .i64)⟩::⟨.ptr i0 w0 0 0,3,[.agg [.fz (Fj.map (AV.int .u8)),.int .i64 EB,.int .u64 EX]]⟩::F)) ⟨_,nr,rfl,(hS.Ap 1)⟩ (fun x Kr s H h Om hi Ik FH=> ?_)
  obtain ⟨EF,EH,Fj,EB,EX⟩:=x;try dsimp only at hi
  obtain ⟨v6,HC,rfl,hS⟩:=hi;simp only [PB] at h;refine B3 fun Jc FO=> ?_;refine B3 fun HT FA=> ?_;refine Ck gC ?_;try simp only [W,EE,Nat.reduceAdd]
  refine B_ FA ?_;refine B8 ?_;simp only [W];refine Cj h (fun hc h=> ?_) (fun hc h=> ?_)
  ·refine B5 ?_;refine B_ FO ?_;refine B3 fun Gn E2=> ?_;obtain ⟨Nd,h,PV⟩:=Option.bind_eq_some_iff.1 h;refine CG gC (fun s H=> ∃FU:List Int,∃EY:List Int,∃Fm:Int,∃FQ:Int,Nd=(FU,EY,Fm,FQ)∧ ∃v30:AV,bA v30∧s=(.ptr i0 w0 0 0:: .int .i64 a1::u::u::u::v30:: .int .i64 EH::u::u::u::u::u::u::u::u::u::u::u::u::u::u::u::u::u::u::u::u::u::u::u::u::u::u::u::u::u::u::u::u::u::u::u::u::u::u::u::u::u::u::u::u::u::u::u::u::u::u::u::u::u::u::u::u::u::u::u::u::u::u::u::u::u::u::u::u::u::u::u::u::u::u::u::[])∧az H (⟨v30,1,FU.map (AV.int .i64)⟩::⟨.ptr i0 w0 0 0,3,[.agg [.fz (EY.map (AV.int .u8)),.int .i64 Fm,.int .u64 FQ]]⟩::F)) (fun On HU=> ?_) (fun s H hq=> ?_)
   ·refine B4 fun Il FD=> ?_;refine B3 fun PW Ks=> ?_;refine Ck gC ?_;try simp only [W,Nat.reduceAdd]
    refine CB h fun HQ PX h=> ?_;obtain ⟨LQ,J8⟩:=HQ;try dsimp only at h
    refine Jb PX (hS.C0 2 [1,0] (by decide)) fun H hS=> ?_
    try simp only [W]
    refine B_ Ks ?_;obtain ⟨PY,h,U2⟩:=Option.bind_eq_some_iff.1 h;refine CG gC (fun s H=> ∃FM:List Int,PY=(FM)∧ ∃Oo:AV,bA Oo∧s=(.ptr i0 w0 0 0:: .int .i64 a1::u::u::u::Oo:: .int .i64 EH::u::u::u::u::u::u::u::u::u::u::u::u::u::u::u::u::u::u::u::u::u::u::u::u::u::u::u::u::u::u::u::u::u::u::u::u::u::u::u::u::u::u::u::u::u::u::u::u::u::u::u::u::u::u::u::u::u::u::u::u::u::u::u::u::u::u::u::u::u::u::u::u::u::u::u::[])∧az H (⟨Oo,1,FM.map (AV.int .i64)⟩::⟨.ptr i0 w0 0 0,3,[.agg [.fz (J8.Code.map (AV.int .u8)),.int .i64 J8.At,.int .u64 J8.ES]]⟩::F)) (fun PZ IG=> ?_) (fun s H hq=> ?_)
    ·refine B3 fun P0 JP=> ?_;refine B8 ?_;simp only [W];refine Cj h (fun hc h=> ?_) (fun hc h=> ?_)
     ·refine Ck gC ?_;try simp only [W,Nat.reduceAdd]
      refine CA (el:=([EH]:List Int).map (AV.int .i64)) hS rfl rfl rfl rfl rfl rfl rfl fun U3 H P1 hS=> ?_;try simp only [W,EE]
      refine CP (l:=EF) (c:=(AV.int .i64)) 2 hS rfl HC rfl rfl rfl (hS.il 0 rfl P1) (fun _=>rfl) rfl h fun v51 H LS U4 hm h hS=> ?_;try simp only [W]
      refine B_ JP ?_;refine DP (s' :=(.ptr i0 w0 0 0:: .int .i64 a1::u::u::u::v51:: .int .i64 EH::u::u::u::u::u::u::u::u::u::u::u::u::u::u::u::u::u::u::u::u::u::u::u::u::u::u::u::u::u::u::u::u::u::u::u::u::u::u::u::u::u::u::u::u::u::u::u::u::u::u::u::u::u::u::u::u::u::u::u::u::u::u::u::u::u::u::u::u::u::u::u::u::u::u::u::[])) rfl ?_
      exact CH IG ⟨_,(Option.some.inj h).symm,_,U4,rfl,(hS.C0 3 [2,1] (by decide))⟩
     ·refine B5 ?_;refine B_ JP ?_;refine DP (s' :=(.ptr i0 w0 0 0:: .int .i64 a1::u::u::u::v6:: .int .i64 EH::u::u::u::u::u::u::u::u::u::u::u::u::u::u::u::u::u::u::u::u::u::u::u::u::u::u::u::u::u::u::u::u::u::u::u::u::u::u::u::u::u::u::u::u::u::u::u::u::u::u::u::u::u::u::u::u::u::u::u::u::u::u::u::u::u::u::u::u::u::u::u::u::u::u::u::[])) rfl ?_
      exact CH IG ⟨_,(Option.some.inj h).symm,_,HC,rfl,(hS.C0 2 [1,0] (by decide))⟩
    ·obtain ⟨FM,Es,Oo,U5,rfl,hS⟩:=hq;obtain rfl:=Es.symm;replace h:=U2;try dsimp only at h
     refine Cc FD ?_;exact CH HU ⟨_,_,_,_,(Option.some.inj h).symm,_,U5,rfl,hS⟩
   ·obtain ⟨FU,EY,Fm,FQ,rfl,v30,U6,rfl,hS⟩:=hq;replace h:=PV;try dsimp only at h
    refine B_ E2 ?_;refine Ck gC ?_;try simp only [W,EE,Nat.reduceAdd]
    exact CD FH h ⟨_,U6,rfl,hS⟩
  ·refine B7 ?_;refine Cb FO ?_;try obtain rfl:=Option.some.inj h
   obtain rfl:=Om _ rfl;have h:(some (EF,Fj,EB,EX):Option ((List Int)×(List Int)×Int×Int))=some (EF,Fj,EB,EX):=rfl;refine CE FH ?_;refine Ce Fv ?_;exact CH E9 ⟨_,_,_,_,(Option.some.inj h).symm,_,HC,rfl,hS⟩
 ·obtain ⟨Fq,E_,H7,Ht,rfl,E7,FT,rfl,hS⟩:=hq;replace h:=g24;try dsimp only at h
  refine B_ EJ ?_;refine B3 fun Oq HD=> ?_;refine B3 fun Ot IH=> ?_;refine Ck gC ?_;try simp only [W,Nat.reduceAdd]
  refine CB h fun U7 U8 h=> ?_;obtain ⟨LV,H8⟩:=U7;try dsimp only at h
  refine HA U8 (hS.C0 2 [1,0] (by decide)) fun H hS=> ?_
  try simp only [W]
  refine B_ IH ?_;obtain ⟨U9,U_,Va⟩:=Option.bind_eq_some_iff.1 h;refine CG gC (fun s H=> ∃H9:List Int,∃KT:List Int,∃KU:Int,∃KV:Int,U9=(H9,KT,KU,KV)∧s=(.ptr i0 w0 0 0::u::u::u::u::E7::u::u::u::u::u::u::u::u::u::u::u::u::u::u::u::u::u::u::u::u::u::u::u::u::u::u::u::u::u::u::u::u::u::u::u::u::u::u::u::u::u::u::u::u::u::u::u::u::u::u::u::u::u::u::u::u::u::u::u::u::u::u::u::u::u::u::u::u::u::u::u::u::u::u::u::u::[])∧az H (⟨E7,1,H9.map (AV.int .i64)⟩::⟨.ptr i0 w0 0 0,3,[.agg [.fz (KT.map (AV.int .u8)),.int .i64 KU,.int .u64 KV]]⟩::F)) (fun Vb P2=> ?_) (fun s H hq=> ?_)
  ·refine B4 fun Sr II=> ?_;refine CC gC U_ (fun x s H=>match x with|(Ft,Jz,JA,Ff,JB)=>s=(.ptr i0 w0 0 0::u::u::u::u::E7::u:: .int .i64 Jz::u::u::u::u::u::u::u::u::u::u::u::u::u::u::u::u::u::u::u::u::u::u::u::u::u::u::u::u::u::u::u::u::u::u::u::u::u::u::u::u::u::u::u::u::u::u::u::u::u::u::u::u::u::u::u::u::u::u::u::u::u::u::u::u::u::u::u::u::u::u::u::u::u::u::[])∧az H (⟨E7,1,Ft.map (AV.int .i64)⟩::⟨.ptr i0 w0 0 0,3,[.agg [.fz (JA.map (AV.int .u8)),.int .i64 Ff,.int .u64 JB]]⟩::F)) ⟨rfl,(hS.C0 2 [1,0] (by decide))⟩ (fun x y75 s H h Vc hi Ss IJ=> ?_)
   obtain ⟨Ft,Jz,JA,Ff,JB⟩:=x;try dsimp only at hi
   obtain ⟨rfl,hS⟩:=hi;simp only [PC] at h;refine B3 fun Su Kt=> ?_;refine B3 fun K78 Vd=> ?_;obtain ⟨Ve,h,Vf⟩:=Option.bind_eq_some_iff.1 h;refine CG gC (fun s H=> ∃JC:Bool,Ve=(JC)∧s=(.ptr i0 w0 0 0::u::u::u::u::E7::u:: .int .i64 Jz::u::u::u::u::u::u::u::u::u::u::u::u::u::u::u::u::u::u::u::u::u::u::u:: .bool JC::u::u::u::u::u::u::u::u::u::u::u::u::u::u::u::u::u::u::u::u::u::u::u::u::u::u::u::u::u::u::u::u::u::u::u::u::u::u::u::u::u::u::u::u::u::u::u::u::u::u::[])∧az H (⟨E7,1,Ft.map (AV.int .i64)⟩::⟨.ptr i0 w0 0 0,3,[.agg [.fz (JA.map (AV.int .u8)),.int .i64 Ff,.int .u64 JB]]⟩::F)) (fun K82 Sv=> ?_) (fun s H hq=> ?_)
   ·refine B3 fun K83 Sw=> ?_;refine Ck gC ?_;try simp only [W,EE,Nat.reduceAdd]
    refine C4 h (fun hc h=> ?_) (fun hc h=> ?_)
    ·try simp only [W,EE,hc]
     refine Cy 0 hS rfl FT rfl ?_;try simp only [W,EE,reduceIte]
     refine B_ Sw ?_;refine DP (s' :=(.ptr i0 w0 0 0::u::u::u::u::E7::u:: .int .i64 Jz::u::u::u::u::u::u::u::u::u::u::u::u::u::u::u::u::u::u::u::u::u::u::u:: .bool (decide (1<(Ft.length:Int)))::u::u::u::u::u::u::u::u::u::u::u::u::u::u::u::u::u::u::u::u::u::u::u::u::u::u::u::u::u::u::u::u::u::u::u::u::u::u::u::u::u::u::u::u::u::u::u::u::u::u::[])) rfl ?_
     exact CH Sv ⟨_,(Option.some.inj h).symm,rfl,hS⟩
    ·try simp only [W,hc]
     refine B_ Sw ?_;refine DP (s' :=(.ptr i0 w0 0 0::u::u::u::u::E7::u:: .int .i64 Jz::u::u::u::u::u::u::u::u::u::u::u::u::u::u::u::u::u::u::u::u::u::u::u:: .bool false::u::u::u::u::u::u::u::u::u::u::u::u::u::u::u::u::u::u::u::u::u::u::u::u::u::u::u::u::u::u::u::u::u::u::u::u::u::u::u::u::u::u::u::u::u::u::u::u::u::u::[])) rfl ?_
     exact CH Sv ⟨_,(Option.some.inj h).symm,rfl,hS⟩
   ·obtain ⟨JC,Es,rfl,hS⟩:=hq;obtain rfl:=Es.symm;replace h:=Vf;try dsimp only at h
    refine B_ Vd ?_;refine B8 ?_;simp only [W];refine Cj h (fun hc h=> ?_) (fun hc h=> ?_)
    ·refine B5 ?_;refine B_ Kt ?_;refine B3 fun Ou IK=> ?_;refine B4 fun Ov IL=> ?_;refine B3 fun Vg Ox=> ?_;refine Ck gC ?_;try simp only [W,EE,Nat.reduceAdd]
     refine Cy 0 hS rfl FT rfl ?_;try simp only [W,EE]
     refine CB h fun Lk Vh h=> ?_;obtain ⟨Gw,H4⟩:=Lk;try dsimp only at h
     refine HA Vh (hS.C0 2 [1,0] (by decide)) fun H hS=> ?_
     try simp only [W]
     refine B_ Ox ?_;refine B3 fun Sx Ln=> ?_;refine Ck gC ?_;try simp only [W,EE,Nat.reduceAdd]
     refine Cy 1 hS rfl FT rfl ?_;try simp only [W,EE]
     refine CB h fun Sy Vi h=> ?_;obtain ⟨LU,NS⟩:=Sy;try dsimp only at h
     refine HA Vi hS fun H hS=> ?_;try simp only [W,EE]
     refine CB h fun Hc Sz h=> ?_;refine Sn Sz hS fun H hS=> ?_;try simp only [W]
     refine B_ Ln ?_;refine B3 fun Vj P3=> ?_;refine Ck gC ?_;try simp only [W,EE,Nat.reduceAdd]
     refine Cv 1 hS rfl rfl rfl rfl rfl h (fun F8 abF abG abH P4 h Vk=> ?_) FT.ne;obtain ⟨abI,Vl,Vm⟩:=hS.elem 1 rfl Vk P4;try simp only [W,EE,Vl,Vm]
     refine B_ P3 ?_;refine B3 fun K98 Vn=> ?_;refine Ck gC ?_;try simp only [W,EE,Nat.reduceAdd]
     refine Cv 1 hS rfl rfl rfl rfl rfl h (fun J9 abJ abK abL Vo h Vp=> ?_) FT.ne;obtain ⟨abM,Vq,Vr⟩:=hS.elem 1 rfl Vp Vo;try simp only [W,EE,Vq,Vr]
     refine Cv 1 hS rfl rfl rfl rfl rfl h (fun abN abO abP abQ SA h SB=> ?_) FT.ne;obtain ⟨abR,abS,abT⟩:=hS.elem 1 rfl SB SA;try simp only [W]
     refine Cw (a:= .int .i64 J9) (y' :=J9) 1 hS rfl SB SA rfl rfl rfl rfl rfl rfl rfl fun H hS=> ?_
     try simp only [W]
     refine B_ Vn ?_;refine Ck gC ?_;try simp only [W,EE,Nat.reduceAdd]
     refine Cv 1 hS rfl rfl rfl rfl rfl h (fun abU abV abW abX SC h SD=> ?_) FT.ne;obtain ⟨abY,abZ,ab0⟩:=hS.elem 1 rfl SD SC;try simp only [W]
     refine Cw (a:= .int .i64 F8) (y' :=F8) 1 hS rfl SD SC rfl rfl rfl rfl rfl rfl rfl fun H hS=> ?_
     try simp only [W]
     refine Cd IL ?_;refine B_ IK ?_;refine Ck gC ?_;try simp only [W,EE,Nat.reduceAdd]
     exact CD IJ h ⟨rfl,(hS.C0 2 [1,0] (by decide))⟩
    ·refine B7 ?_;refine Cb Kt ?_;try obtain rfl:=Option.some.inj h
     obtain rfl:=Vc _ rfl;have h:(some (Ft,JA,Ff,JB):Option ((List Int)×(List Int)×Int×Int))=some (Ft,JA,Ff,JB):=rfl;refine CE IJ ?_;refine Ce II ?_;exact CH P2 ⟨_,_,_,_,(Option.some.inj h).symm,rfl,hS⟩
  ·obtain ⟨H9,KT,KU,KV,rfl,rfl,hS⟩:=hq;replace h:=Va;try dsimp only at h
   refine B_ HD ?_;refine B3 fun Vs P5=> ?_;refine B3 fun SE Nf=> ?_;obtain ⟨Vt,h,Vu⟩:=Option.bind_eq_some_iff.1 h;refine CG gC (fun s H=> ∃H_:Bool,∃GZ:List Int,∃HJ:Int,∃HK:Int,Vt=(H_,GZ,HJ,HK)∧s=(.ptr i0 w0 0 0::u::u::u::u::E7::u::u::u::u::u::u::u::u::u::u::u::u::u::u::u::u::u::u::u::u::u::u::u::u::u::u::u::u::u::u::u::u::u::u::u::u::u::u::u::u::u::u::u::u::u::u::u::u::u::u::u::u::u::u::u::u::u::u::u::u::u::u::u:: .bool H_::u::u::u::u::u::u::u::u::u::u::u::u::[])∧az H (⟨E7,1,H9.map (AV.int .i64)⟩::⟨.ptr i0 w0 0 0,3,[.agg [.fz (GZ.map (AV.int .u8)),.int .i64 HJ,.int .u64 HK]]⟩::F)) (fun SG JQ=> ?_) (fun s H hq=> ?_)
   ·refine B3 fun Vv Oy=> ?_;refine Ck gC ?_;try simp only [W,EE,Nat.reduceAdd]
    refine Cy 0 hS rfl FT rfl ?_;try simp only [W,EE]
    refine C4 h (fun hc h=> ?_) (fun hc h=> ?_)
    ·try simp only [W,hc]
     refine CB h fun Vw Vx h=> ?_;obtain ⟨PD,NT⟩:=Vw;try dsimp only at h
     refine Jb Vx (hS.C0 2 [1,0] (by decide)) fun H hS=> ?_
     try simp only [W,reduceIte]
     refine B_ Oy ?_;refine DP (s' :=(.ptr i0 w0 0 0::u::u::u::u::E7::u::u::u::u::u::u::u::u::u::u::u::u::u::u::u::u::u::u::u::u::u::u::u::u::u::u::u::u::u::u::u::u::u::u::u::u::u::u::u::u::u::u::u::u::u::u::u::u::u::u::u::u::u::u::u::u::u::u::u::u::u::u::u:: .bool PD::u::u::u::u::u::u::u::u::u::u::u::u::[])) rfl ?_
     exact CH JQ ⟨_,_,_,_,(Option.some.inj h).symm,rfl,(hS.C0 2 [1,0] (by decide))⟩
    ·try simp only [W,hc]
     refine B_ Oy ?_;refine DP (s' :=(.ptr i0 w0 0 0::u::u::u::u::E7::u::u::u::u::u::u::u::u::u::u::u::u::u::u::u::u::u::u::u::u::u::u::u::u::u::u::u::u::u::u::u::u::u::u::u::u::u::u::u::u::u::u::u::u::u::u::u::u::u::u::u::u::u::u::u::u::u::u::u::u::u::u::u:: .bool false::u::u::u::u::u::u::u::u::u::u::u::u::[])) rfl ?_
     exact CH JQ ⟨_,_,_,_,(Option.some.inj h).symm,rfl,hS⟩
   ·obtain ⟨H_,GZ,HJ,HK,rfl,rfl,hS⟩:=hq;replace h:=Vu;try dsimp only at h
    refine B_ Nf ?_;obtain ⟨Vy,h,Vz⟩:=Option.bind_eq_some_iff.1 h;refine CG gC (fun s H=> ∃LW:List Int,∃LX:List Int,∃LY:Int,∃LZ:Int,Vy=(LW,LX,LY,LZ)∧s=(u::u::u::u::u::E7::u::u::u::u::u::u::u::u::u::u::u::u::u::u::u::u::u::u::u::u::u::u::u::u::u::u::u::u::u::u::u::u::u::u::u::u::u::u::u::u::u::u::u::u::u::u::u::u::u::u::u::u::u::u::u::u::u::u::u::u::u::u::u::u::u::u::u::u::u::u::u::u::u::u::u::u::[])∧az H (⟨E7,1,LW.map (AV.int .i64)⟩::⟨.ptr i0 w0 0 0,3,[.agg [.fz (LX.map (AV.int .u8)),.int .i64 LY,.int .u64 LZ]]⟩::F)) (fun SH Lo=> ?_) (fun s H hq=> ?_)
    ·refine B3 fun ab1 SI=> ?_;refine B8 ?_;simp only [W];refine Cj h (fun hc h=> ?_) (fun hc h=> ?_)
     ·refine Cl (fz:=[(9,[([78],[.sl [.sc]])])]) gC ?_;try simp only [W,EE,Nat.reduceAdd,Nat.reduceBEq]
      refine Cy 0 hS rfl FT rfl ?_;try simp only [W,EE,Nat.reduceAdd,Nat.reduceBEq]
      refine Cv 0 hS rfl rfl rfl rfl rfl h (fun PE ab2 ab3 ab4 VA h VB=> ?_) FT.ne;obtain ⟨ab5,VC,VD⟩:=hS.elem 0 rfl VB VA;try simp only [W,EE,Nat.reduceAdd,Nat.reduceBEq,VC,VD]
      refine CA (el:=([-1,60,PE]:List Int).map (AV.int .i64)) hS rfl rfl rfl rfl rfl rfl rfl fun v130 H Oz hS=> ?_;try simp only [W,Nat.reduceAdd]
      refine CR 0 hS rfl Oz rfl (fun _ _=>by simp [aY,aN,dp]) (fun _=>rfl) fun H r6 hS=> ?_
      try simp only [W]
      refine CB h fun VE VF h=> ?_;obtain ⟨NU,NV⟩:=VE;try dsimp only at h
      refine Sp VF (hS.C0 2 [1,0] (by decide)) fun H hS=> ?_
      try simp only [W,EE,Nat.reduceAdd,Nat.reduceBEq]
      refine Cv 1 hS rfl rfl rfl rfl rfl h (fun ab6 ab7 ab8 ab9 SJ h SK=> ?_) FT.ne;obtain ⟨ab_,aca,acb⟩:=hS.elem 1 rfl SK SJ;try simp only [W,Nat.reduceAdd,Nat.reduceBEq]
      refine Cw (a:= .int .i64 NU) (y' :=NU) 1 hS rfl SK SJ rfl rfl rfl rfl rfl rfl rfl fun H hS=> ?_
      try simp only [W,Nat.reduceAdd]
      refine B_ SI ?_;refine DP (s' :=(u::u::u::u::u::E7::u::u::u::u::u::u::u::u::u::u::u::u::u::u::u::u::u::u::u::u::u::u::u::u::u::u::u::u::u::u::u::u::u::u::u::u::u::u::u::u::u::u::u::u::u::u::u::u::u::u::u::u::u::u::u::u::u::u::u::u::u::u::u::u::u::u::u::u::u::u::u::u::u::u::u::u::[])) rfl ?_
      exact CH Lo ⟨_,_,_,_,(Option.some.inj h).symm,rfl,(hS.C0 2 [1,0] (by decide))⟩
     ·refine B5 ?_;refine B_ SI ?_;refine DP (s' :=(u::u::u::u::u::E7::u::u::u::u::u::u::u::u::u::u::u::u::u::u::u::u::u::u::u::u::u::u::u::u::u::u::u::u::u::u::u::u::u::u::u::u::u::u::u::u::u::u::u::u::u::u::u::u::u::u::u::u::u::u::u::u::u::u::u::u::u::u::u::u::u::u::u::u::u::u::u::u::u::u::u::u::[])) rfl ?_
      exact CH Lo ⟨_,_,_,_,(Option.some.inj h).symm,rfl,hS⟩
    ·obtain ⟨LW,LX,LY,LZ,rfl,rfl,hS⟩:=hq;replace h:=Vz;try dsimp only at h
     refine B_ P5 ?_;refine B3 fun acd VG=> ?_;refine Ck gC ?_;try simp only [W,Nat.reduceAdd]
     refine B_ VG ?_;refine B6 ?_;refine Ch El rfl ?_;try obtain rfl:=Option.some.inj h
     exact hP _ FT _ hS
theorem VH {a0:Span} {r:(Bool)} (h:NW a0=some r) {F:List It} {H:J} (hS:az H (F)) {P:AV→J→Prop} (hP: ∀H',az H' (F)→P (.bool r) H'):aq C 196 [.agg [.int .i64 a0.En,.int .i64 a0.To]] H P:=by
 refine Cn gC (res:=[.tmp 2]) (n:=18) rfl rfl rfl rfl fun K0 El=> ?_;simp only [W,Nat.reduceSub,Nat.reduceAdd,List.replicate];unfold NW at h;refine B3 fun K1 Er=> ?_;refine Ck gC ?_;try simp only [W,Nat.reduceAdd]
 refine Cq hS rfl rfl rfl rfl fun Eo Ep H hS=> ?_;try simp only [W]
 refine B_ Er ?_;refine B3 fun K4 EC=> ?_;refine Ck gC ?_;try simp only [W,EE,Nat.reduceAdd,Nat.reduceBEq,hS.var 0 rfl]
 refine C4 h (fun hc h=> ?_) (fun hc h=> ?_)
 ·try simp only [W,EE,reduceIte,Nat.reduceAdd,Nat.reduceBEq,hS.var 0 rfl,hc]
  refine C4 h (fun hc h=> ?_) (fun hc h=> ?_)
  ·try simp only [W,EE,reduceIte,Nat.reduceAdd,Nat.reduceBEq,hS.var 0 rfl,hc]
   refine B_ EC ?_;refine B6 ?_;refine Ch El rfl ?_;try obtain rfl:=Option.some.inj h
   exact hP _ (hS.C0 1 [] (by decide))
  ·try simp only [W,hc]
   refine B_ EC ?_;refine B6 ?_;refine Ch El rfl ?_;try obtain rfl:=Option.some.inj h
   exact hP _ (hS.C0 1 [] (by decide))
 ·try simp only [W,hc]
  refine B_ EC ?_;refine B6 ?_;refine Ch El rfl ?_;try obtain rfl:=Option.some.inj h
  exact hP _ (hS.C0 1 [] (by decide))
theorem VI {a0:List Span} {r:(Bool)} (h:L4 a0=some r) {F:List It} {H:J} (hS:az H (F)) {P:AV→J→Prop} (hP: ∀H',az H' (F)→P (.bool r) H'):aq C 148 [.fz (a0.map Ej)] H P:=by
 refine Cn gC (res:=[.tmp 2]) (n:=34) rfl rfl rfl rfl fun K0 El=> ?_;simp only [W,Nat.reduceSub,Nat.reduceAdd,List.replicate];unfold L4 at h;refine B3 fun K1 Er=> ?_;refine Ck gC ?_;try simp only [W,Nat.reduceAdd]
 refine B_ Er ?_;refine B3 fun K2 zU=> ?_;refine B3 fun K3 EJ=> ?_;refine Ck gC ?_;try simp only [W,EE,Nat.reduceAdd]
 refine B_ EJ ?_;obtain ⟨Gp,GJ,g12⟩:=Option.bind_eq_some_iff.1 h;refine CG gC (fun s H=>Gp=LR.next ()∧s=[.fz (a0.map Ej),u,u,u,u,u,u,u,u,u,u,u,u,u,u,u,u,u,u,u,u,u,u,u,u,u,u,u,u,u,u,u,u,u]∧az H (F)) (fun K7 EI=> ?_) (fun s H hq=> ?_)
 ·refine B4 fun K8 EK=> ?_;refine CC gC GJ (fun x s H=>s=[.fz (a0.map Ej),u,u,u,u,.fz (a0.map Ej),.int .i64 (a0.length:Int),.int .i64 x,u,u,u,u,u,u,u,u,u,u,u,u,u,u,u,u,u,u,u,u,u,u,u,u,u,u]∧az H (F)) ⟨rfl,hS⟩ (fun Ey HV s H h FP hi K9 EL=> ?_)
  skip
  try dsimp only at hi
  obtain ⟨rfl,hS⟩:=hi;simp only [L3] at h;refine B3 fun Hi Fz=> ?_;refine Ck gC ?_;try simp only [W,EE,Nat.reduceAdd]
  refine B_ Fz ?_;refine B3 fun G4 E8=> ?_;refine B8 ?_;simp only [W];refine Cj h (fun hc h=> ?_) (fun hc h=> ?_)
  ·refine B5 ?_;refine B_ E8 ?_;refine B3 fun Gm EP=> ?_;refine B4 fun Gc EM=> ?_;refine B3 fun Gd EQ=> ?_;refine Ck gC ?_;try simp only [W,EE,Nat.reduceAdd]
   refine Cu rfl rfl rfl (fun _=>rfl) h fun Ez Ku h=> ?_;try simp only [W,EE,EN,reduceIte,Nat.reduceAdd,Nat.reduceLeDiff]
   refine Cr hS rfl rfl fun VJ VK H hS=> ?_;try simp only [W]
   refine Cs (a:= .agg [.int .i64 Ez.En,.int .i64 Ez.To]) (y' := .agg [.int .i64 Ez.En,.int .i64 Ez.To]) 0 hS rfl rfl rfl rfl rfl rfl rfl rfl fun H hS=> ?_
   try simp only [W]
   refine B_ EQ ?_;refine B3 fun Ik FH=> ?_;obtain ⟨Kr,h,g24⟩:=Option.bind_eq_some_iff.1 h;refine CG gC (fun s H=> ∃Gk:Bool,Kr=(Gk)∧s=[.fz (a0.map Ej),u,u,u,u,.fz (a0.map Ej),.int .i64 (a0.length:Int),.int .i64 Ey,u,u,u,u,u,u,u,u,u,u,u,u,u,u,u,u,u,u,u,u,u,.bool Gk,u,u,u,u]∧az H (F)) (fun Jc FO=> ?_) (fun s H hq=> ?_)
   ·refine B3 fun HT FA=> ?_;refine Cm gC (by kernel_rfl) ?_
    try simp only [W,EE,reduceIte,Nat.reduceAdd,Nat.reduceLeDiff,hS.var 0 rfl]
    refine Dt (bP:=[[.sc]]) (ys:=[.agg [.int .i64 Ez.En,.int .i64 Ez.To]]) h rfl (by rfl) fun KW P6 h=>⟨.bool KW,VH P6 (az.nil _) fun H hS=>Dl rfl (Di rfl (Dh rfl)),⟨rfl,rfl,fun _=>rfl⟩,?_⟩
    try simp only [W]
    refine C4 h (fun hc h=> ?_) (fun hc h=> ?_)
    ·try simp only [W,hc]
     refine B_ FA ?_;refine B9 ?_;exact CH FO ⟨_,(Option.some.inj h).symm,rfl,(hS.C0 1 [] (by decide))⟩
    ·try simp only [W,EE,hc]
     refine C4 h (fun hc h=> ?_) (fun hc h=> ?_)
     ·try simp only [W,EE,hc]
      refine Cu rfl rfl rfl (fun _=>rfl) h fun Hu P7 h=> ?_;try simp only [W,EE,EN,reduceIte,Nat.reduceAdd,Nat.reduceBEq,Bool.false_eq_true,hS.var 0 rfl]
      refine B_ FA ?_;refine B9 ?_;exact CH FO ⟨_,(Option.some.inj h).symm,rfl,(hS.C0 1 [] (by decide))⟩
     ·try simp only [W,reduceIte,Bool.false_eq_true,hc]
      refine B_ FA ?_;refine B9 ?_;exact CH FO ⟨_,(Option.some.inj h).symm,rfl,(hS.C0 1 [] (by decide))⟩
   ·obtain ⟨Gk,Es,rfl,hS⟩:=hq;obtain rfl:=Es.symm;replace h:=g24;try dsimp only at h
    refine B_ FH ?_;refine B8 ?_;simp only [W];refine Cj h (fun hc h=> ?_) (fun hc h=> ?_)
    ·refine B3 fun Kv Gz=> ?_;refine Ck gC ?_;try simp only [W,Nat.reduceAdd]
     refine B_ Gz ?_;refine B6 ?_;refine Cf EM ?_;refine Ca EP ?_;try obtain rfl:=Option.some.inj h
     obtain rfl:=FP _ rfl;have h:(some (LR.done false):Option (LR Unit (Bool)))=some (LR.done false):=rfl;refine CF EL ?_;refine Cf EK ?_;try obtain rfl:=Option.some.inj h
     obtain rfl:=Option.some.inj g12;have h:(some false:Option (Bool))=some false:=rfl;refine CI EI ?_;refine Ca zU ?_;refine Ch El rfl ?_;try obtain rfl:=Option.some.inj h
     exact hP _ hS
    ·refine B5 ?_;refine Cd EM ?_;refine B_ EP ?_;refine Ck gC ?_;try simp only [W,EE,Nat.reduceAdd]
     exact CD EL h ⟨rfl,hS⟩
  ·refine B7 ?_;refine Cb E8 ?_;try obtain rfl:=Option.some.inj h
   obtain rfl:=FP _ rfl;have h:(some (LR.next ()):Option (LR Unit (Bool)))=some (LR.next ()):=rfl
   refine CE EL ?_;refine Ce EK ?_;exact CH EI ⟨(Option.some.inj h).symm,rfl,hS⟩
 ·obtain ⟨rfl,rfl,hS⟩:=hq;replace h:=g12;try dsimp only at h
  refine B_ zU ?_;refine B3 fun On HU=> ?_;refine Ck gC ?_;try simp only [W,EE,Nat.reduceAdd]
  refine B_ HU ?_;refine B6 ?_;refine Ch El rfl ?_;try obtain rfl:=Option.some.inj h
  exact hP _ hS
theorem SL {a0:List Span} {a1:Int} {r:(Bool)} (h:KX a0 a1=some r) {F:List It} {H:J} (hS:az H (F)) {P:AV→J→Prop} (hP: ∀H',az H' (F)→P (.bool r) H'):aq C 80 [.fz (a0.map Ej),.int .i64 a1] H P:=by
 refine Cn gC (res:=[.tmp 4]) (n:=23) rfl rfl rfl rfl fun K0 El=> ?_;simp only [W,Nat.reduceSub,Nat.reduceAdd,List.replicate];unfold KX at h;refine B3 fun K1 Er=> ?_;refine Ck gC ?_;try simp only [W,Nat.reduceAdd]
 refine B_ Er ?_;refine B3 fun K2 zU=> ?_;refine Ck gC ?_;try simp only [W,Nat.reduceAdd]
 refine CB h fun b3 kQ h=> ?_;refine VI kQ hS fun H hS=> ?_;try simp only [W]
 refine C4 h (fun hc h=> ?_) (fun hc h=> ?_)
 ·try simp only [W,EE,hc]
  refine C4 h (fun hc h=> ?_) (fun hc h=> ?_)
  ·try simp only [W,reduceIte,hc]
   refine B_ zU ?_;refine B6 ?_;refine Ch El rfl ?_;try obtain rfl:=Option.some.inj h
   exact hP _ hS
  ·try simp only [W,EE,hc]
   refine Cu rfl rfl rfl (fun _=>rfl) h fun F7 Kw h=> ?_;try simp only [W,EE,EN,reduceIte,Nat.reduceAdd,Nat.reduceBEq,Bool.false_eq_true]
   refine B_ zU ?_;refine B6 ?_;refine Ch El rfl ?_;try obtain rfl:=Option.some.inj h
   exact hP _ hS
 ·try simp only [W,hc]
  refine B_ zU ?_;refine B6 ?_;refine Ch El rfl ?_;try obtain rfl:=Option.some.inj h
  exact hP _ hS
theorem VL {a0:List Int} {a1:Int} {r:(Bool)} (h:L5 a0 a1=some r) {F:List It} {H:J} (hS:az H (F)) {P:AV→J→Prop} (hP: ∀H',az H' (F)→P (.bool r) H'):aq C 113 [.fz (a0.map (AV.int .i64)),.int .i64 a1] H P:=by
 refine Cn gC (res:=[.tmp 4]) (n:=33) rfl rfl rfl rfl fun K0 El=> ?_;simp only [W,Nat.reduceSub,Nat.reduceAdd,List.replicate];unfold L5 at h;refine B3 fun K1 Er=> ?_;refine Ck gC ?_;try simp only [W,Nat.reduceAdd]
 refine B_ Er ?_;refine B3 fun K2 zU=> ?_;refine B3 fun K3 EJ=> ?_;refine Ck gC ?_;try simp only [W,EE,Nat.reduceAdd]
 refine B_ EJ ?_;obtain ⟨Gp,GJ,g12⟩:=Option.bind_eq_some_iff.1 h;refine CG gC (fun s H=>Gp=LR.next ()∧s=[u,u,u,u,u,u,u,u,u,u,u,u,u,u,u,u,u,u,u,u,u,u,u,u,u,u,u,u,u,u,u,u,u]∧az H (F)) (fun K7 EI=> ?_) (fun s H hq=> ?_)
 ·refine B4 fun K8 EK=> ?_;refine CC gC GJ (fun x s H=>s=[.fz (a0.map (AV.int .i64)),.int .i64 a1,u,u,u,u,u,.fz (a0.map (AV.int .i64)),.int .i64 (a0.length:Int),.int .i64 x,u,u,u,u,u,u,u,u,u,u,u,u,u,u,u,u,u,u,u,u,u,u,u]∧az H (F)) ⟨rfl,hS⟩ (fun Ey HV s H h FP hi K9 EL=> ?_)
  skip
  try dsimp only at hi
  obtain ⟨rfl,hS⟩:=hi;simp only [NX] at h;refine B3 fun Hi Fz=> ?_;refine Ck gC ?_;try simp only [W,EE,Nat.reduceAdd]
  refine B_ Fz ?_;refine B3 fun G4 E8=> ?_;refine B8 ?_;simp only [W];refine Cj h (fun hc h=> ?_) (fun hc h=> ?_)
  ·refine B5 ?_;refine B_ E8 ?_;refine B3 fun Gm EP=> ?_;refine B4 fun Gc EM=> ?_;refine B3 fun Gd EQ=> ?_;refine Ck gC ?_;try simp only [W,EE,Nat.reduceAdd]
   refine Cu rfl rfl rfl (fun _=>rfl) h fun Ez Ku h=> ?_;try simp only [W,EE]
   refine B_ EQ ?_;refine B3 fun GI E9=> ?_;obtain ⟨Lp,h,g22⟩:=Option.bind_eq_some_iff.1 h;refine CG gC (fun s H=> ∃Gh:Bool,Lp=(Gh)∧s=[.fz (a0.map (AV.int .i64)),.int .i64 a1,u,u,u,u,u,.fz (a0.map (AV.int .i64)),.int .i64 (a0.length:Int),.int .i64 Ey,u,u,u,u,u,u,u,u,u,u,u,u,u,u,u,u,u,u,u,u,u,.bool Gh,u]∧az H (F)) (fun IM FW=> ?_) (fun s H hq=> ?_)
   ·refine B3 fun Hj Fu=> ?_;refine Ck gC ?_;try simp only [W,EE,Nat.reduceAdd]
    refine CB h fun GD OA h=> ?_;refine Ol OA hS fun H hS=> ?_;try simp only [W]
    refine C4 h (fun hc h=> ?_) (fun hc h=> ?_)
    ·try simp only [W,hc]
     refine B_ Fu ?_;refine B9 ?_;exact CH FW ⟨_,(Option.some.inj h).symm,rfl,hS⟩
    ·try simp only [W,EE,hc]
     refine C4 h (fun hc h=> ?_) (fun hc h=> ?_)
     ·try simp only [W,EE,hc]
      refine Cu rfl rfl rfl (fun _=>rfl) h fun IB ace h=> ?_;try simp only [W,EE,reduceIte,Bool.false_eq_true]
      refine B_ Fu ?_;refine B9 ?_;exact CH FW ⟨_,(Option.some.inj h).symm,rfl,hS⟩
     ·try simp only [W,reduceIte,Bool.false_eq_true,hc]
      refine B_ Fu ?_;refine B9 ?_;exact CH FW ⟨_,(Option.some.inj h).symm,rfl,hS⟩
   ·obtain ⟨Gh,Es,rfl,hS⟩:=hq;obtain rfl:=Es.symm;replace h:=g22;try dsimp only at h
    refine B_ E9 ?_;refine B8 ?_;simp only [W];refine Cj h (fun hc h=> ?_) (fun hc h=> ?_)
    ·refine B3 fun Gn E2=> ?_;refine Ck gC ?_;try simp only [W,Nat.reduceAdd]
     refine B_ E2 ?_;refine B6 ?_;refine Cf EM ?_;refine Ca EP ?_;try obtain rfl:=Option.some.inj h
     obtain rfl:=FP _ rfl;have h:(some (LR.done false):Option (LR Unit (Bool)))=some (LR.done false):=rfl;refine CF EL ?_;refine Cf EK ?_;try obtain rfl:=Option.some.inj h
     obtain rfl:=Option.some.inj g12;have h:(some false:Option (Bool))=some false:=rfl;refine CI EI ?_;refine Ca zU ?_;refine Ch El rfl ?_;try obtain rfl:=Option.some.inj h
     exact hP _ hS
    ·refine B5 ?_;refine Cd EM ?_;refine B_ EP ?_;refine Ck gC ?_;try simp only [W,EE,Nat.reduceAdd]
     exact CD EL h ⟨rfl,hS⟩
  ·refine B7 ?_;refine Cb E8 ?_;try obtain rfl:=Option.some.inj h
   obtain rfl:=FP _ rfl;have h:(some (LR.next ()):Option (LR Unit (Bool)))=some (LR.next ()):=rfl
   refine CE EL ?_;refine Ce EK ?_;exact CH EI ⟨(Option.some.inj h).symm,rfl,hS⟩
 ·obtain ⟨rfl,rfl,hS⟩:=hq;replace h:=g12;try dsimp only at h
  refine B_ zU ?_;refine B3 fun Jd FY=> ?_;refine Ck gC ?_;try simp only [W,Nat.reduceAdd]
  refine B_ FY ?_;refine B6 ?_;refine Ch El rfl ?_;try obtain rfl:=Option.some.inj h
  exact hP _ hS
theorem Ng {a0:List Span} {a1:Int} {r:(Bool)} (h:IY a0 a1=some r) {F:List It} {H:J} (hS:az H (F)) {P:AV→J→Prop} (hP: ∀H',az H' (F)→P (.bool r) H'):aq C 147 [.fz (a0.map Ej),.int .i64 a1] H P:=by
 refine Cn gC (res:=[.tmp 4]) (n:=24) rfl rfl rfl rfl fun K0 El=> ?_;simp only [W,Nat.reduceSub,Nat.reduceAdd,List.replicate];unfold IY at h;refine B3 fun K1 Er=> ?_;refine Ck gC ?_;try simp only [W,Nat.reduceAdd]
 refine B_ Er ?_;refine B3 fun K2 zU=> ?_;refine B3 fun K3 EJ=> ?_;refine Ck gC ?_;try simp only [W,EE,Nat.reduceAdd]
 refine B_ EJ ?_;obtain ⟨Gp,GJ,g12⟩:=Option.bind_eq_some_iff.1 h;refine CG gC (fun s H=>Gp=LR.next ()∧s=[u,u,u,u,u,u,u,u,u,u,u,u,u,u,u,u,u,u,u,u,u,u,u,u]∧az H (F)) (fun K7 EI=> ?_) (fun s H hq=> ?_)
 ·refine B4 fun K8 EK=> ?_;refine CC gC GJ (fun x s H=>s=[u,.int .i64 a1,u,u,u,u,u,.fz (a0.map Ej),.int .i64 (a0.length:Int),.int .i64 x,u,u,u,u,u,u,u,u,u,u,u,u,u,u]∧az H (F)) ⟨rfl,hS⟩ (fun Ey HV s H h FP hi K9 EL=> ?_)
  skip
  try dsimp only at hi
  obtain ⟨rfl,hS⟩:=hi;simp only [L6] at h;refine B3 fun Hi Fz=> ?_;refine Ck gC ?_;try simp only [W,EE,Nat.reduceAdd]
  refine B_ Fz ?_;refine B3 fun G4 E8=> ?_;refine B8 ?_;simp only [W];refine Cj h (fun hc h=> ?_) (fun hc h=> ?_)
  ·refine B5 ?_;refine B_ E8 ?_;refine B3 fun Gm EP=> ?_;refine B4 fun Gc EM=> ?_;refine B3 fun Gd EQ=> ?_;refine Ck gC ?_;try simp only [W,EE,Nat.reduceAdd]
   refine Cu rfl rfl rfl (fun _=>rfl) h fun Ez Ku h=> ?_;try simp only [W,EE,EN,reduceIte,Nat.reduceAdd,Nat.reduceLeDiff]
   refine Cr hS rfl rfl fun VJ VK H hS=> ?_;try simp only [W]
   refine Cs (a:= .agg [.int .i64 Ez.En,.int .i64 Ez.To]) (y' := .agg [.int .i64 Ez.En,.int .i64 Ez.To]) 0 hS rfl rfl rfl rfl rfl rfl rfl rfl fun H hS=> ?_
   try simp only [W]
   refine B_ EQ ?_;refine B3 fun Ik FH=> ?_;obtain ⟨Kr,h,g24⟩:=Option.bind_eq_some_iff.1 h;refine CG gC (fun s H=> ∃Gk:Bool,Kr=(Gk)∧s=[u,.int .i64 a1,u,u,u,u,u,.fz (a0.map Ej),.int .i64 (a0.length:Int),.int .i64 Ey,u,u,u,u,u,u,u,u,u,u,u,u,.bool Gk,u]∧az H (F)) (fun Jc FO=> ?_) (fun s H hq=> ?_)
   ·refine B3 fun HT FA=> ?_;refine Ck gC ?_;try simp only [W,EE,Nat.reduceAdd,Nat.reduceBEq,hS.var 0 rfl]
    refine C4 h (fun hc h=> ?_) (fun hc h=> ?_)
    ·try simp only [W,EE,reduceIte,Nat.reduceAdd,Nat.reduceBEq,hS.var 0 rfl,hc]
     refine B_ FA ?_;refine B9 ?_;exact CH FO ⟨_,(Option.some.inj h).symm,rfl,(hS.C0 1 [] (by decide))⟩
    ·try simp only [W,hc]
     refine B_ FA ?_;refine B9 ?_;exact CH FO ⟨_,(Option.some.inj h).symm,rfl,(hS.C0 1 [] (by decide))⟩
   ·obtain ⟨Gk,Es,rfl,hS⟩:=hq;obtain rfl:=Es.symm;replace h:=g24;try dsimp only at h
    refine B_ FH ?_;refine B8 ?_;simp only [W];refine Cj h (fun hc h=> ?_) (fun hc h=> ?_)
    ·refine B3 fun Gn E2=> ?_;refine Ck gC ?_;try simp only [W,Nat.reduceAdd]
     refine B_ E2 ?_;refine B6 ?_;refine Cf EM ?_;refine Ca EP ?_;try obtain rfl:=Option.some.inj h
     obtain rfl:=FP _ rfl;have h:(some (LR.done true):Option (LR Unit (Bool)))=some (LR.done true):=rfl;refine CF EL ?_;refine Cf EK ?_;try obtain rfl:=Option.some.inj h
     obtain rfl:=Option.some.inj g12;have h:(some true:Option (Bool))=some true:=rfl;refine CI EI ?_;refine Ca zU ?_;refine Ch El rfl ?_;try obtain rfl:=Option.some.inj h
     exact hP _ hS
    ·refine B5 ?_;refine Cd EM ?_;refine B_ EP ?_;refine Ck gC ?_;try simp only [W,EE,Nat.reduceAdd]
     exact CD EL h ⟨rfl,hS⟩
  ·refine B7 ?_;refine Cb E8 ?_;try obtain rfl:=Option.some.inj h
   obtain rfl:=FP _ rfl;have h:(some (LR.next ()):Option (LR Unit (Bool)))=some (LR.next ()):=rfl
   refine CE EL ?_;refine Ce EK ?_;exact CH EI ⟨(Option.some.inj h).symm,rfl,hS⟩
 ·obtain ⟨rfl,rfl,hS⟩:=hq;replace h:=g12;try dsimp only at h
  refine B_ zU ?_;refine B3 fun Jd FY=> ?_;refine Ck gC ?_;try simp only [W,Nat.reduceAdd]
  refine B_ FY ?_;refine B6 ?_;refine Ch El rfl ?_;try obtain rfl:=Option.some.inj h
  exact hP _ hS
theorem P8 {a0:Et} {r:(Bool)} (h:JD a0=some r) {F:List It} {H:J} (hS:az H (F)) {P:AV→J→Prop} (hP: ∀H',az H' (F)→P (.bool r) H'):aq C 79 [.agg [.int .i64 a0.Next,.fz (a0.Em.map Ej),.fz (a0.Ek.map (AV.int .i64))]] H P:=by
 refine Cn gC (res:=[.tmp 2]) (n:=37) rfl rfl rfl rfl fun K0 El=> ?_;simp only [W,Nat.reduceSub,Nat.reduceAdd,List.replicate];unfold JD at h;refine B3 fun K1 Er=> ?_;refine Ck gC ?_;try simp only [W,Nat.reduceAdd]
 refine Cq hS rfl rfl rfl rfl fun Eo Ep H hS=> ?_;try simp only [W]
 refine B_ Er ?_;refine B3 fun K4 EC=> ?_;refine B3 fun K5 EZ=> ?_;obtain ⟨P9,h,g8⟩:=Option.bind_eq_some_iff.1 h;refine CG gC (fun s H=> ∃FJ:Bool,P9=(FJ)∧s=[u,.ptr Eo Ep 0 0,u,u,u,u,u,u,u,u,u,u,u,u,u,u,u,u,u,u,u,u,u,u,.bool FJ,u,u,u,u,u,u,u,u,u,u,u,u]∧az H (⟨.ptr Eo Ep 0 0,3,[.agg [.int .i64 a0.Next,.fz (a0.Em.map Ej),.fz (a0.Ek.map (AV.int .i64))]]⟩::F)) (fun K9 EL=> ?_) (fun s H hq=> ?_)
 ·refine B3 fun JN FX=> ?_;refine Ck gC ?_;try simp only [W,EE,Nat.reduceAdd,Nat.reduceBEq,hS.var 0 rfl]
  refine CB h fun HM P_ h=> ?_;refine Ol P_ hS fun H hS=> ?_;try simp only [W]
  refine C4 h (fun hc h=> ?_) (fun hc h=> ?_)
  ·try simp only [W,hc]
   refine B_ FX ?_;refine B9 ?_;exact CH EL ⟨_,(Option.some.inj h).symm,rfl,hS⟩
  ·try simp only [W,EE,Nat.reduceAdd,Nat.reduceBEq,hS.var 0 rfl,hc]
   refine CB h fun L7 Qa h=> ?_;refine SL Qa hS fun H hS=> ?_;try simp only [W,reduceIte,Bool.false_eq_true]
   refine C4 h (fun hc h=> ?_) (fun hc h=> ?_)
   ·try simp only [W,hc]
    refine B_ FX ?_;refine B9 ?_;exact CH EL ⟨_,(Option.some.inj h).symm,rfl,hS⟩
   ·try simp only [W,EE,Nat.reduceAdd,Nat.reduceBEq,hS.var 0 rfl,hc]
    refine CB h fun Hd Je h=> ?_;refine VL Je hS fun H hS=> ?_;try simp only [W,reduceIte,Bool.false_eq_true]
    refine B_ FX ?_;refine B9 ?_;exact CH EL ⟨_,(Option.some.inj h).symm,rfl,hS⟩
 ·obtain ⟨FJ,Es,rfl,hS⟩:=hq;obtain rfl:=Es.symm;replace h:=g8;try dsimp only at h
  refine B_ EZ ?_;refine B8 ?_;simp only [W];refine Cj h (fun hc h=> ?_) (fun hc h=> ?_)
  ·refine B3 fun G4 E8=> ?_;refine Ck gC ?_;try simp only [W,Nat.reduceAdd]
   refine B_ E8 ?_;refine B6 ?_;refine Ca EC ?_;refine Ch El rfl ?_;try obtain rfl:=Option.some.inj h
   exact hP _ (hS.C0 1 [] (by decide))
  ·refine B5 ?_;refine B_ EC ?_;refine B3 fun Gm EP=> ?_;refine B3 fun Gc EM=> ?_;refine Ck gC ?_;try simp only [W,EE,Nat.reduceAdd,Nat.reduceBEq,hS.var 0 rfl]
   refine B_ EM ?_;obtain ⟨VM,VN,SM⟩:=Option.bind_eq_some_iff.1 h;refine CG gC (fun s H=>VM=LR.next ()∧s=[u,u,u,u,u,u,u,u,u,u,u,u,u,u,u,u,u,u,u,u,u,u,u,u,u,u,u,u,u,u,u,u,u,u,u,u,u]∧az H (F)) (fun HB Fv=> ?_) (fun s H hq=> ?_)
   ·refine B4 fun Ik FH=> ?_;refine CC gC VN (fun x s H=>s=[u,.ptr Eo Ep 0 0,u,u,u,u,u,u,u,u,u,u,u,u,u,u,u,u,u,u,u,u,u,u,u,u,.fz (a0.Ek.map (AV.int .i64)),.int .i64 (a0.Ek.length:Int),.int .i64 x,u,u,u,u,u,u,u,u]∧az H (⟨.ptr Eo Ep 0 0,3,[.agg [.int .i64 a0.Next,.fz (a0.Em.map Ej),.fz (a0.Ek.map (AV.int .i64))]]⟩::F)) ⟨rfl,hS⟩ (fun F9 y24 s H h SN hi JO F3=> ?_)
    skip
    try dsimp only at hi
    obtain ⟨rfl,hS⟩:=hi;simp only [NY] at h;refine B3 fun HT FA=> ?_;refine Ck gC ?_;try simp only [W,EE,Nat.reduceAdd]
    refine B_ FA ?_;refine B3 fun Gn E2=> ?_;refine B8 ?_;simp only [W];refine Cj h (fun hc h=> ?_) (fun hc h=> ?_)
    ·refine B5 ?_;refine B_ E2 ?_;refine B3 fun Il FD=> ?_;refine B4 fun Kv Gz=> ?_;refine B3 fun Lq Hk=> ?_;refine Ck gC ?_;try simp only [W,EE,Nat.reduceAdd]
     refine Cu rfl rfl rfl (fun _=>rfl) h fun G0 Qb h=> ?_;try simp only [W,EE]
     refine B_ Hk ?_;refine B3 fun SO Nh=> ?_;refine Ck gC ?_;try simp only [W,EE,Nat.reduceAdd,Nat.reduceBEq,hS.var 0 rfl]
     refine CB h fun RI VO h=> ?_;refine Ng VO hS fun H hS=> ?_;try simp only [W]
     refine B_ Nh ?_;refine B8 ?_;simp only [W];refine Cj h (fun hc h=> ?_) (fun hc h=> ?_)
     ·refine B3 fun Jd FY=> ?_;refine Ck gC ?_;try simp only [W,Nat.reduceAdd]
      refine B_ FY ?_;refine B6 ?_;refine Cf Gz ?_;refine Ca FD ?_;try obtain rfl:=Option.some.inj h
      obtain rfl:=SN _ rfl;have h:(some (LR.done false):Option (LR Unit (Bool)))=some (LR.done false):=rfl;refine CF F3 ?_;refine Cf FH ?_;try obtain rfl:=Option.some.inj h
      obtain rfl:=Option.some.inj SM;have h:(some false:Option (Bool))=some false:=rfl;refine CI Fv ?_;refine Ca EP ?_;refine Ch El rfl ?_;try obtain rfl:=Option.some.inj h
      exact hP _ (hS.C0 1 [] (by decide))
     ·refine B5 ?_;refine Cd Gz ?_;refine B_ FD ?_;refine Ck gC ?_;try simp only [W,EE,Nat.reduceAdd]
      exact CD F3 h ⟨rfl,hS⟩
    ·refine B7 ?_;refine Cb E2 ?_;try obtain rfl:=Option.some.inj h
     obtain rfl:=SN _ rfl;have h:(some (LR.next ()):Option (LR Unit (Bool)))=some (LR.next ()):=rfl
     refine CE F3 ?_;refine Ce FH ?_;exact CH Fv ⟨(Option.some.inj h).symm,rfl,(hS.C0 1 [] (by decide))⟩
   ·obtain ⟨rfl,rfl,hS⟩:=hq;replace h:=SM;try dsimp only at h
    refine B_ EP ?_;refine B3 fun Qc Jf=> ?_;refine Ck gC ?_;try simp only [W,Nat.reduceAdd]
    refine B_ Jf ?_;refine B6 ?_;refine Ch El rfl ?_;try obtain rfl:=Option.some.inj h
    exact hP _ hS
theorem VP {a0:Int} {a1:Int} {r:(Int)} (h:L8 a0 a1=some r) {F:List It} {H:J} (hS:az H (F)) {P:AV→J→Prop} (hP: ∀H',az H' (F)→P (.int .i64 r) H'):aq C 180 [.int .i64 a0,.int .i64 a1] H P:=by
 refine Cn gC (res:=[.tmp 4]) (n:=10) rfl rfl rfl rfl fun K0 El=> ?_;simp only [W,Nat.reduceSub,Nat.reduceAdd,List.replicate];unfold L8 at h;refine B3 fun K1 Er=> ?_;refine Ck gC ?_;try simp only [W,Nat.reduceAdd]
 refine B_ Er ?_;refine B3 fun K2 zU=> ?_;refine B3 fun K3 EJ=> ?_;refine Ck gC ?_;try simp only [W,EE,Nat.reduceAdd]
 refine B_ EJ ?_;refine B8 ?_;simp only [W];refine Cj h (fun hc h=> ?_) (fun hc h=> ?_)
 ·refine B3 fun K4 EC=> ?_;refine Ck gC ?_;try simp only [W,Nat.reduceAdd]
  refine B_ EC ?_;refine B6 ?_;refine Ca zU ?_;refine Ch El rfl ?_;try obtain rfl:=Option.some.inj h
  exact hP _ hS
 ·refine B5 ?_;refine B_ zU ?_;refine B3 fun K5 EZ=> ?_;refine Ck gC ?_;try simp only [W,Nat.reduceAdd]
  refine B_ EZ ?_;refine B6 ?_;refine Ch El rfl ?_;try obtain rfl:=Option.some.inj h
  exact hP _ hS
theorem SQ {a0:List Span} {a1:Span} {r:(List Span)} (h:KY a0 a1=some r) {F:List It} {H:J} (hS:az H (F)) {P:AV→J→Prop} (hP: ∀v82:AV,bA v82→ ∀H',az H' (⟨v82,2,r.map Ej⟩::F)→P (v82) H'):aq C 135 [.fz (a0.map Ej),.agg [.int .i64 a1.En,.int .i64 a1.To]] H P:=by
 refine Cn gC (res:=[.tmp 4]) (n:=72) rfl rfl rfl rfl fun K0 El=> ?_;simp only [W,Nat.reduceSub,Nat.reduceAdd,List.replicate];unfold KY at h;refine B3 fun K1 Er=> ?_;refine Ck gC ?_;try simp only [W,Nat.reduceAdd]
 refine Cq hS rfl rfl rfl rfl fun Eo Ep H hS=> ?_;try simp only [W]
 refine B_ Er ?_;refine B3 fun K4 EC=> ?_;refine Ck gC ?_;try simp only [W,Nat.reduceAdd]
 refine B_ EC ?_;refine B3 fun K5 EZ=> ?_;refine Ck gC ?_;try simp only [W,Nat.reduceAdd]
 refine B_ EZ ?_;refine B3 fun K6 E6=> ?_;obtain ⟨IN,Qd,g21⟩:=Option.bind_eq_some_iff.1 h;refine CG gC (fun s H=> ∃EX:List Span,∃EU:Int,IN=(EX,EU)∧ ∃v12:AV,bA v12∧s=(.fz (a0.map Ej)::u::u:: .ptr Eo Ep 0 0::u::v12:: .int .i64 EU::u::u::u::u::u::u::u::u::u::u::u::u::u::u::u::u::u::u::u::u::u::u::u::u::u::u::u::u::u::u::u::u::u::u::u::u::u::u::u::u::u::u::u::u::u::u::u::u::u::u::u::u::u::u::u::u::u::u::u::u::u::u::u::u::u::[])∧az H (⟨v12,2,EX.map Ej⟩::⟨.ptr Eo Ep 0 0,2,[.agg [.int .i64 a1.En,.int .i64 a1.To]]⟩::F)) (fun Gc EM=> ?_) (fun s H hq=> ?_)
 ·refine B4 fun Gd EQ=> ?_;refine CC gC Qd (fun x s H=>match x with|(EO,EB)=> ∃GS:AV,bA GS∧s=(.fz (a0.map Ej)::u::u:: .ptr Eo Ep 0 0::u::GS:: .int .i64 EB::u::u::u::u::u::u::u::u::u::u::u::u::u::u::u::u::u::u::u::u::u::u::u::u::u::u::u::u::u::u::u::u::u::u::u::u::u::u::u::u::u::u::u::u::u::u::u::u::u::u::u::u::u::u::u::u::u::u::u::u::u::u::u::u::u::[])∧az H (⟨GS,2,EO.map Ej⟩::⟨.ptr Eo Ep 0 0,2,[.agg [.int .i64 a1.En,.int .i64 a1.To]]⟩::F)) ⟨_,nr,rfl,(hS.Ap 2)⟩ (fun x Qe s H h Qf hi GR Fa=> ?_)
  obtain ⟨EO,EB⟩:=x;try dsimp only at hi
  obtain ⟨GS,JR,rfl,hS⟩:=hi;simp only [L9] at h;refine B3 fun JO F3=> ?_;refine B3 fun IM FW=> ?_;obtain ⟨Ni,h,Nj⟩:=Option.bind_eq_some_iff.1 h;refine CG gC (fun s H=> ∃L_:Bool,Ni=(L_)∧s=(.fz (a0.map Ej)::u::u:: .ptr Eo Ep 0 0::u::GS:: .int .i64 EB::u::u::u::u::u::u::u::u::u::u::u::u::u:: .bool L_::u::u::u::u::u::u::u::u::u::u::u::u::u::u::u::u::u::u::u::u::u::u::u::u::u::u::u::u::u::u::u::u::u::u::u::u::u::u::u::u::u::u::u::u::u::u::u::u::u::u::u::[])∧az H (⟨GS,2,EO.map Ej⟩::⟨.ptr Eo Ep 0 0,2,[.agg [.int .i64 a1.En,.int .i64 a1.To]]⟩::F)) (fun Gn E2=> ?_) (fun s H hq=> ?_)
  ·refine B3 fun Il FD=> ?_;refine Cm gC (by kernel_rfl) ?_
   try simp only [W,EE,Nat.reduceAdd]
   refine C4 h (fun hc h=> ?_) (fun hc h=> ?_)
   ·try simp only [W,EE,hc]
    refine Cu rfl rfl rfl (fun _=>rfl) h fun G3 VQ h=> ?_;try simp only [W,EE,EN,reduceIte,Nat.reduceAdd,Nat.reduceBEq,hS.var 1 rfl]
    refine B_ FD ?_;refine DP (s' :=(.fz (a0.map Ej)::u::u:: .ptr Eo Ep 0 0::u::GS:: .int .i64 EB::u::u::u::u::u::u::u::u::u::u::u::u::u:: .bool (decide (G3.To<a1.En))::u::u::u::u::u::u::u::u::u::u::u::u::u::u::u::u::u::u::u::u::u::u::u::u::u::u::u::u::u::u::u::u::u::u::u::u::u::u::u::u::u::u::u::u::u::u::u::u::u::u::u::[])) rfl ?_
    exact CH E2 ⟨_,(Option.some.inj h).symm,rfl,hS⟩
   ·try simp only [W,hc]
    refine B_ FD ?_;refine DP (s' :=(.fz (a0.map Ej)::u::u:: .ptr Eo Ep 0 0::u::GS:: .int .i64 EB::u::u::u::u::u::u::u::u::u::u::u::u::u:: .bool false::u::u::u::u::u::u::u::u::u::u::u::u::u::u::u::u::u::u::u::u::u::u::u::u::u::u::u::u::u::u::u::u::u::u::u::u::u::u::u::u::u::u::u::u::u::u::u::u::u::u::u::[])) rfl ?_
    exact CH E2 ⟨_,(Option.some.inj h).symm,rfl,hS⟩
  ·obtain ⟨L_,Es,rfl,hS⟩:=hq;obtain rfl:=Es.symm;replace h:=Nj;try dsimp only at h
   refine B_ FW ?_;refine B8 ?_;simp only [W];refine Cj h (fun hc h=> ?_) (fun hc h=> ?_)
   ·refine B5 ?_;refine B_ F3 ?_;refine B4 fun Lq Hk=> ?_;refine B3 fun Kx G5=> ?_;refine Ck gC ?_;try simp only [W,EE,Nat.reduceAdd]
    refine Cu rfl rfl rfl (fun _=>rfl) h fun HN SR h=> ?_;try simp only [W,EE,EN,reduceIte,Nat.reduceAdd,Nat.reduceLeDiff]
    refine CA (el:=([HN]:List Span).map Ej) hS rfl rfl rfl rfl rfl rfl rfl fun v33 H Im hS=> ?_;try simp only [W,EE]
    refine CP (l:=EO) (c:=Ej) 1 hS rfl JR rfl rfl rfl (hS.il 0 rfl Im) (fun _=>rfl) rfl h fun SS H IC Nk hm h hS=> ?_;try simp only [W]
    refine B_ G5 ?_;refine Ck gC ?_;try simp only [W,EE,Nat.reduceAdd]
    refine Cd Hk ?_;exact CD Fa h ⟨_,Nk,rfl,(hS.C0 3 [1,2] (by decide))⟩
   ·refine B7 ?_;refine Cb F3 ?_;try obtain rfl:=Option.some.inj h
    obtain rfl:=Qf _ rfl;have h:(some (EO,EB):Option ((List Span)×Int))=some (EO,EB):=rfl;refine CE Fa ?_;refine Ce EQ ?_;exact CH EM ⟨_,_,(Option.some.inj h).symm,_,JR,rfl,hS⟩
 ·obtain ⟨EX,EU,rfl,v12,JS,rfl,hS⟩:=hq;replace h:=g21;try dsimp only at h
  refine B_ E6 ?_;refine B3 fun Qg JT=> ?_;obtain ⟨SU,VR,VT⟩:=Option.bind_eq_some_iff.1 h;refine CG gC (fun s H=> ∃Ia:Int,∃HP:Int,∃Gy:Int,SU=(Ia,HP,Gy)∧s=(.fz (a0.map Ej)::u::u:: .ptr Eo Ep 0 0::u::v12:: .int .i64 Ia::u::u::u::u::u::u::u::u::u::u::u::u::u::u::u::u::u::u::u::u::u::u::u::u::u::u::u::u::u::u::u::u::u::u::u::u::u::u::u::u::u::u::u::u::u::u::u::u::u::u::u::u::u::u::u::u::u::u::u::u::u::u::u::u::u::[])∧az H (⟨v12,2,EX.map Ej⟩::⟨.ptr Eo Ep 0 0,2,[.agg [.int .i64 HP,.int .i64 Gy]]⟩::F)) (fun OB IP=> ?_) (fun s H hq=> ?_)
  ·refine B4 fun Nl HE=> ?_;refine CC gC VR (fun x s H=>match x with|(FM,FC,Gx)=>s=(.fz (a0.map Ej)::u::u:: .ptr Eo Ep 0 0::u::v12:: .int .i64 FM::u::u::u::u::u::u::u::u::u::u::u::u::u::u::u::u::u::u::u::u::u::u::u::u::u::u::u::u::u::u::u::u::u::u::u::u::u::u::u::u::u::u::u::u::u::u::u::u::u::u::u::u::u::u::u::u::u::u::u::u::u::u::u::u::u::[])∧az H (⟨v12,2,EX.map Ej⟩::⟨.ptr Eo Ep 0 0,2,[.agg [.int .i64 FC,.int .i64 Gx]]⟩::F)) ⟨rfl,hS⟩ (fun x y53 s H h VU hi Lr G6=> ?_)
   obtain ⟨FM,FC,Gx⟩:=x;try dsimp only at hi
   obtain ⟨rfl,hS⟩:=hi;simp only [Ma] at h;refine B3 fun Oq HD=> ?_;refine B3 fun Ot IH=> ?_;obtain ⟨Qh,h,Qi⟩:=Option.bind_eq_some_iff.1 h;refine CG gC (fun s H=> ∃GF:Bool,Qh=(GF)∧s=(.fz (a0.map Ej)::u::u:: .ptr Eo Ep 0 0::u::v12:: .int .i64 FM::u::u::u::u::u::u::u::u::u::u::u::u::u::u::u::u::u::u::u::u::u::u::u::u::u::u::u::u::u::u::u::u::u::u::u::u:: .bool GF::u::u::u::u::u::u::u::u::u::u::u::u::u::u::u::u::u::u::u::u::u::u::u::u::u::u::u::u::[])∧az H (⟨v12,2,EX.map Ej⟩::⟨.ptr Eo Ep 0 0,2,[.agg [.int .i64 FC,.int .i64 Gx]]⟩::F)) (fun Qj G7=> ?_) (fun s H hq=> ?_)
   ·refine B3 fun OC GU=> ?_;refine Cm gC (by kernel_rfl) ?_
    try simp only [W,EE,Nat.reduceAdd]
    refine C4 h (fun hc h=> ?_) (fun hc h=> ?_)
    ·try simp only [W,EE,hc]
     refine Cu rfl rfl rfl (fun _=>rfl) h fun IZ OD h=> ?_;try simp only [W,EE,EN,reduceIte,Nat.reduceAdd,Nat.reduceBEq,hS.var 1 rfl]
     refine B_ GU ?_;refine DP (s' :=(.fz (a0.map Ej)::u::u:: .ptr Eo Ep 0 0::u::v12:: .int .i64 FM::u::u::u::u::u::u::u::u::u::u::u::u::u::u::u::u::u::u::u::u::u::u::u::u::u::u::u::u::u::u::u::u::u::u::u::u:: .bool (decide (IZ.En≤Gx))::u::u::u::u::u::u::u::u::u::u::u::u::u::u::u::u::u::u::u::u::u::u::u::u::u::u::u::u::[])) rfl ?_
     exact CH G7 ⟨_,(Option.some.inj h).symm,rfl,hS⟩
    ·try simp only [W,hc]
     refine B_ GU ?_;refine DP (s' :=(.fz (a0.map Ej)::u::u:: .ptr Eo Ep 0 0::u::v12:: .int .i64 FM::u::u::u::u::u::u::u::u::u::u::u::u::u::u::u::u::u::u::u::u::u::u::u::u::u::u::u::u::u::u::u::u::u::u::u::u:: .bool false::u::u::u::u::u::u::u::u::u::u::u::u::u::u::u::u::u::u::u::u::u::u::u::u::u::u::u::u::[])) rfl ?_
     exact CH G7 ⟨_,(Option.some.inj h).symm,rfl,hS⟩
   ·obtain ⟨GF,Es,rfl,hS⟩:=hq;obtain rfl:=Es.symm;replace h:=Qi;try dsimp only at h
    refine B_ IH ?_;refine B8 ?_;simp only [W];refine Cj h (fun hc h=> ?_) (fun hc h=> ?_)
    ·refine B5 ?_;refine B_ HD ?_;refine B4 fun K63 VV=> ?_;refine B3 fun K64 VW=> ?_;refine C6 gC [(17,[])] (by kernel_rfl) rfl (by kernel_rfl) ?_
     try simp only [W,EE,reduceIte,Nat.reduceAdd,Nat.reduceBEq,hS.var 1 rfl,iV,lG,Nat.reduceEqDiff]
     refine Cu rfl rfl rfl (fun _=>rfl) h fun HO SV h=> ?_;try simp only [W,EE,EN,Nat.reduceAdd,Nat.reduceBEq]
     refine Dt (bP:=[[.sc]]) (ys:=[.int .i64 FC,.int .i64 HO.En]) h rfl (by rfl) fun I0 Qk h=>⟨.int .i64 I0,Sn Qk (az.nil _) fun H hS=>Dl rfl (Di rfl (Dh rfl)),⟨rfl,rfl,fun _=>rfl⟩,?_⟩
     try simp only [W,EE,Nat.reduceAdd,Nat.reduceBEq,hS.var 1 rfl]
     refine Cu rfl rfl rfl (fun _=>rfl) h fun PF acf h=> ?_;try simp only [W,EE,EN,Nat.reduceAdd,Nat.reduceBEq]
     refine Dt (bP:=[[.sc]]) (ys:=[.int .i64 Gx,.int .i64 PF.To]) h rfl (by rfl) fun I1 SX h=>⟨.int .i64 I1,VP SX (az.nil _) fun H hS=>Dl rfl (Di rfl (Dh rfl)),⟨rfl,rfl,fun _=>rfl⟩,?_⟩
     try simp only [W,EE]
     refine C5 rfl rfl rfl rfl rfl ?_;try simp only [W]
     refine Cs (a:= .agg [.int .i64 I0,.int .i64 I1]) (y' := .agg [.int .i64 I0,.int .i64 I1]) 1 hS rfl rfl rfl rfl rfl rfl rfl rfl fun H hS=> ?_
     try simp only [W]
     refine B_ VW ?_;refine Ck gC ?_;try simp only [W,EE,Nat.reduceAdd]
     refine Cd VV ?_;exact CD G6 h ⟨rfl,hS⟩
    ·refine B7 ?_;refine Cb HD ?_;try obtain rfl:=Option.some.inj h
     obtain rfl:=VU _ rfl;have h:(some (FM,FC,Gx):Option (Int×Int×Int))=some (FM,FC,Gx):=rfl;refine CE G6 ?_;refine Ce HE ?_;exact CH IP ⟨_,_,_,(Option.some.inj h).symm,rfl,hS⟩
  ·obtain ⟨Ia,HP,Gy,rfl,rfl,hS⟩:=hq;replace h:=VT;try dsimp only at h
   refine B_ JT ?_;refine B3 fun Vb P2=> ?_;refine Ck gC ?_;try simp only [W,EE,reduceIte,Nat.reduceAdd,Nat.reduceLeDiff,hS.var 1 rfl]
   refine CA (el:=([(⟨HP,Gy⟩:Span)]:List Span).map Ej) hS rfl rfl rfl rfl rfl rfl rfl fun v72 H Ls hS=> ?_;try simp only [W,EE]
   refine CP (l:=EX) (c:=Ej) 1 hS rfl JS rfl rfl rfl (hS.il 0 rfl Ls) (fun _=>rfl) rfl h fun v75 H Fk VX hm h hS=> ?_;try simp only [W]
   refine B_ P2 ?_;refine B3 fun Su Kt=> ?_;refine Ck gC ?_;try simp only [W,EE,Nat.reduceAdd]
   refine CN rfl rfl rfl (fun _=>rfl) h fun JE acg h=> ?_;try simp only [W,EE]
   refine CP (l:=Fk) (c:=Ej) 1 hS rfl VX rfl rfl rfl rfl (fun _=>rfl) rfl h fun v80 H JC IQ hm h hS=> ?_;try simp only [W]
   refine B_ Kt ?_;refine B6 ?_;refine Ch El rfl ?_;try obtain rfl:=Option.some.inj h
   exact hP _ IQ _ (hS.C0 3 [1] (by decide))
theorem VY {a0:List Span} {a1:List Span} {r:(List Span)} (h:Mc a0 a1=some r) {F:List It} {H:J} (hS:az H (F)) {P:AV→J→Prop} (hP: ∀GV:AV,bA GV→ ∀H',az H' (⟨GV,2,r.map Ej⟩::F)→P (GV) H'):aq C 149 [.fz (a0.map Ej),.fz (a1.map Ej)] H P:=by
 refine Cn gC (res:=[.tmp 4]) (n:=22) rfl rfl rfl rfl fun K0 El=> ?_;simp only [W,Nat.reduceSub,Nat.reduceAdd,List.replicate];unfold Mc at h;refine B3 fun K1 Er=> ?_;refine Ck gC ?_;try simp only [W,Nat.reduceAdd]
 refine B_ Er ?_;refine B3 fun K2 zU=> ?_;refine Ck gC ?_;try simp only [W,Nat.reduceAdd]
 refine Cz rfl rfl ?_;try simp only [W,EE]
 have hS:=hS.Aq 2;refine CP (l:=([]:List Span)) (c:=Ej) 0 hS rfl nt rfl rfl rfl rfl (fun _=>rfl) rfl h fun v5 H Ey VZ hm h hS=> ?_;try simp only [W]
 refine B_ zU ?_;refine B3 fun K7 EI=> ?_;refine B3 fun K8 EK=> ?_;refine Ck gC ?_;try simp only [W,EE,Nat.reduceAdd]
 refine B_ EK ?_;obtain ⟨PT,V0,g22⟩:=Option.bind_eq_some_iff.1 h;refine CG gC (fun s H=> ∃EU:List Span,PT=(EU)∧ ∃JU:AV,bA JU∧s=[u,u,u,u,u,JU,u,u,u,u,u,u,u,u,u,u,u,u,u,u,u,u]∧az H (⟨JU,2,EU.map Ej⟩::F)) (fun Gd EQ=> ?_) (fun s H hq=> ?_)
 ·refine B4 fun GR Fa=> ?_;refine CC gC V0 (fun x s H=>match x with|(Fj,Fq)=> ∃v10:AV,bA v10∧s=[u,u,u,u,u,v10,u,u,u,u,u,.fz (a1.map Ej),.int .i64 (a1.length:Int),.int .i64 Fq,u,u,u,u,u,u,u,u]∧az H (⟨v10,2,Fj.map Ej⟩::F)) ⟨_,VZ,rfl,hS⟩ (fun x Lp s H h V1 hi GI E9=> ?_)
  obtain ⟨Fj,Fq⟩:=x;try dsimp only at hi
  obtain ⟨v10,IS,rfl,hS⟩:=hi;simp only [Mb] at h;refine B3 fun IM FW=> ?_;refine Ck gC ?_;try simp only [W,EE,Nat.reduceAdd]
  refine B_ FW ?_;refine B3 fun Hj Fu=> ?_;refine B8 ?_;simp only [W];refine Cj h (fun hc h=> ?_) (fun hc h=> ?_)
  ·refine B5 ?_;refine B_ Fu ?_;refine B3 fun Jc FO=> ?_;refine B4 fun HT FA=> ?_;refine B3 fun Gn E2=> ?_;refine Ck gC ?_;try simp only [W,EE,Nat.reduceAdd]
   refine Cu rfl rfl rfl (fun _=>rfl) h fun Hu P7 h=> ?_;try simp only [W,EE,EN,reduceIte,Nat.reduceAdd,Nat.reduceLeDiff]
   refine Cr hS rfl rfl fun ach aci H hS=> ?_;try simp only [W]
   refine Cs (a:= .agg [.int .i64 Hu.En,.int .i64 Hu.To]) (y' := .agg [.int .i64 Hu.En,.int .i64 Hu.To]) 0 hS rfl rfl rfl rfl rfl rfl rfl rfl fun H hS=> ?_
   try simp only [W]
   refine B_ E2 ?_;refine Ck gC ?_;try simp only [W,EE,reduceIte,Nat.reduceAdd,Nat.reduceLeDiff,Nat.reduceBEq,hS.var 0 rfl,List.contains_cons,Nat.reduceBEq,Bool.or_self]
   refine Du (bP:=[[.sl [.sc,.sc]]]) (ys:=[.fz (Fj.map Ej),.agg [.int .i64 Hu.En,.int .i64 Hu.To]]) h rfl (Dg (Dd hS 1 rfl IS (fun _=>rfl)) (Dg rfl Df)) fun G0 Qb h=>⟨.own 2 (G0.map Ej),SQ Qb (az.nil _) fun v32 V2 H hS=>Dl rfl (Dj 0 hS rfl V2 (fun _ _=>by simp [aY,aN,ck,dp,Ej]) fun H hS=>Dh rfl),(Dw _ (fun _=>rfl) _),?_⟩
   refine Dr ?_;refine Dp hS (fun _ _=>rfl) (fun _=>rfl) fun Ky H Lt hS=> ?_;refine Dm ?_;try simp only [List.headD_cons]
   try simp only [W]
   refine Cd FA ?_;refine B_ FO ?_;refine Ck gC ?_;try simp only [W,EE,Nat.reduceAdd]
   exact CD E9 h ⟨_,Lt,rfl,(hS.C0 3 [0] (by decide))⟩
  ·refine B7 ?_;refine Cb Fu ?_;try obtain rfl:=Option.some.inj h
   obtain rfl:=V1 _ rfl;have h:(some (Fj):Option ((List Span)))=some (Fj):=rfl;refine CE E9 ?_;refine Ce Fa ?_;exact CH EQ ⟨_,(Option.some.inj h).symm,_,IS,rfl,hS⟩
 ·obtain ⟨EU,Es,JU,Lu,rfl,hS⟩:=hq;obtain rfl:=Es.symm;replace h:=g22;try dsimp only at h
  refine B_ EI ?_;refine B3 fun PW Ks=> ?_;refine Ck gC ?_;try simp only [W,Nat.reduceAdd]
  refine B_ Ks ?_;refine B6 ?_;refine Ch El rfl ?_;try obtain rfl:=Option.some.inj h
  exact hP _ Lu _ hS
theorem Ql {a0:List Int} {a1:Int} {r:(Bool)} (h:J_ a0 a1=some r) {F:List It} {H:J} (hS:az H (F)) {P:AV→J→Prop} (hP: ∀H',az H' (F)→P (.bool r) H'):aq C 112 [.fz (a0.map (AV.int .i64)),.int .i64 a1] H P:=by
 refine Cn gC (res:=[.tmp 4]) (n:=17) rfl rfl rfl rfl fun K0 El=> ?_;simp only [W,Nat.reduceSub,Nat.reduceAdd,List.replicate];unfold J_ at h;refine B3 fun K1 Er=> ?_;refine Ck gC ?_;try simp only [W,Nat.reduceAdd]
 refine B_ Er ?_;refine B3 fun K2 zU=> ?_;refine B3 fun K3 EJ=> ?_;refine Ck gC ?_;try simp only [W,EE,Nat.reduceAdd]
 refine B_ EJ ?_;obtain ⟨Gp,GJ,g12⟩:=Option.bind_eq_some_iff.1 h;refine CG gC (fun s H=>Gp=LR.next ()∧s=[u,u,u,u,u,u,u,u,u,u,u,u,u,u,u,u,u]∧az H (F)) (fun K7 EI=> ?_) (fun s H hq=> ?_)
 ·refine B4 fun K8 EK=> ?_;refine CC gC GJ (fun x s H=>s=[u,.int .i64 a1,u,u,u,u,u,.fz (a0.map (AV.int .i64)),.int .i64 (a0.length:Int),.int .i64 x,u,u,u,u,u,u,u]∧az H (F)) ⟨rfl,hS⟩ (fun Ey HV s H h FP hi K9 EL=> ?_)
  skip
  try dsimp only at hi
  obtain ⟨rfl,hS⟩:=hi;simp only [NZ] at h;refine B3 fun Hi Fz=> ?_;refine Ck gC ?_;try simp only [W,EE,Nat.reduceAdd]
  refine B_ Fz ?_;refine B3 fun G4 E8=> ?_;refine B8 ?_;simp only [W];refine Cj h (fun hc h=> ?_) (fun hc h=> ?_)
  ·refine B5 ?_;refine B_ E8 ?_;refine B3 fun Gm EP=> ?_;refine B4 fun Gc EM=> ?_;refine B3 fun Gd EQ=> ?_;refine Ck gC ?_;try simp only [W,EE,Nat.reduceAdd]
   refine Cu rfl rfl rfl (fun _=>rfl) h fun Ez Ku h=> ?_;try simp only [W,EE]
   refine B_ EQ ?_;refine B3 fun GI E9=> ?_;refine Ck gC ?_;try simp only [W,EE,Nat.reduceAdd]
   refine B_ E9 ?_;refine B8 ?_;simp only [W];refine Cj h (fun hc h=> ?_) (fun hc h=> ?_)
   ·refine B3 fun HB Fv=> ?_;refine Ck gC ?_;try simp only [W,Nat.reduceAdd]
    refine B_ Fv ?_;refine B6 ?_;refine Cf EM ?_;refine Ca EP ?_;try obtain rfl:=Option.some.inj h
    obtain rfl:=FP _ rfl;have h:(some (LR.done true):Option (LR Unit (Bool)))=some (LR.done true):=rfl;refine CF EL ?_;refine Cf EK ?_;try obtain rfl:=Option.some.inj h
    obtain rfl:=Option.some.inj g12;have h:(some true:Option (Bool))=some true:=rfl;refine CI EI ?_;refine Ca zU ?_;refine Ch El rfl ?_;try obtain rfl:=Option.some.inj h
    exact hP _ hS
   ·refine B5 ?_;refine Cd EM ?_;refine B_ EP ?_;refine Ck gC ?_;try simp only [W,EE,Nat.reduceAdd]
    exact CD EL h ⟨rfl,hS⟩
  ·refine B7 ?_;refine Cb E8 ?_;try obtain rfl:=Option.some.inj h
   obtain rfl:=FP _ rfl;have h:(some (LR.next ()):Option (LR Unit (Bool)))=some (LR.next ()):=rfl
   refine CE EL ?_;refine Ce EK ?_;exact CH EI ⟨(Option.some.inj h).symm,rfl,hS⟩
 ·obtain ⟨rfl,rfl,hS⟩:=hq;replace h:=g12;try dsimp only at h
  refine B_ zU ?_;refine B3 fun Gn E2=> ?_;refine Ck gC ?_;try simp only [W,Nat.reduceAdd]
  refine B_ E2 ?_;refine B6 ?_;refine Ch El rfl ?_;try obtain rfl:=Option.some.inj h
  exact hP _ hS
theorem V3 {a0:Et} {a1:List Span} {r:(Et×List Int×List Int×Bool)} (h:Mh a0 a1=some r) {F:List It} {H:J} (hS:az H (F)) {P:AV→J→Prop} (hP: ∀Qm:AV,bA Qm→ ∀Qn:AV,bA Qn→ ∀Qo:AV,bA Qo→ ∀H',az H' (⟨Qm,1,r.1.Ek.map (AV.int .i64)⟩::⟨Qn,1,r.2.1.map (AV.int .i64)⟩::⟨Qo,1,r.2.2.1.map (AV.int .i64)⟩::F)→P (.ay [.agg [.int .i64 r.1.Next,.fz (r.1.Em.map Ej),Qm],Qn,Qo,.bool r.2.2.2]) H'):aq C 81 [.agg [.int .i64 a0.Next,.fz (a0.Em.map Ej),.fz (a0.Ek.map (AV.int .i64))],.fz (a1.map Ej)] H P:=by
 refine Cn gC (res:=[.cell 4 26,.tmp 5,.tmp 6,.tmp 7]) (n:=103) rfl rfl rfl rfl fun K0 El=> ?_;simp only [W,Nat.reduceSub,Nat.reduceAdd,List.replicate];unfold Mh at h;refine B3 fun K1 Er=> ?_;refine Ck gC ?_;try simp only [W,Nat.reduceAdd]
 refine Cq hS rfl rfl rfl rfl fun Eo Ep H hS=> ?_;try simp only [W]
 refine Cr hS rfl rfl fun Eu Ev H hS=> ?_;try simp only [W]
 refine B_ Er ?_;refine B3 fun K6 E6=> ?_;refine C6 gC [(8,[])] (by kernel_rfl) rfl (by kernel_rfl) ?_
 try simp only [W,EE,reduceIte,Nat.reduceAdd,Nat.reduceBEq,hS.var 1 rfl,iV,lG,Nat.reduceEqDiff]
 refine Dv (bP:=[[.sl [.sc,.sc]]]) (ys:=[.fz (a0.Em.map Ej),.fz (a1.map Ej)]) h rfl (by rfl) fun EA Kz h=>⟨.own 2 (EA.map Ej),VY Kz (az.nil _) fun GS JR H hS=>Dl rfl (Dj 0 hS rfl JR (fun _ _=>by simp [aY,aN,ck,dp,Ej]) fun H hS=>Dh rfl),?_⟩
 simp only [W,u3 (c:=Ej) (fun _=>rfl)];try simp only [EE]
 refine C5 rfl rfl rfl rfl rfl ?_;try simp only [W]
 refine Cr hS rfl rfl fun Fb Fc H hS=> ?_;try simp only [W]
 refine Cs (a:= .agg [.int .i64 a0.Next,.fz (EA.map Ej),.nil]) (y' := .agg [.int .i64 a0.Next,.fz (EA.map Ej),.nil]) 0 hS rfl rfl rfl rfl rfl rfl rfl rfl fun H hS=> ?_
 try simp only [W]
 refine B_ E6 ?_;refine B3 fun Ii Fy=> ?_;refine Ck gC ?_;try simp only [W,Nat.reduceAdd]
 refine B_ Fy ?_;refine B3 fun Ij Fs=> ?_;refine B3 fun Hi Fz=> ?_;refine Ck gC ?_;try simp only [W,Nat.reduceAdd]
 refine B_ Fz ?_;obtain ⟨Qe,V4,Qp⟩:=Option.bind_eq_some_iff.1 h;refine CG gC (fun s H=> ∃Hv:List Int,Qe=(Hv)∧ ∃Fe:AV,bA Fe∧s=(u::u:: .ptr Eo Ep 0 0::u:: .ptr Eu Ev 0 0::u::u::u:: .ptr Fb Fc 0 0::Fe:: .nil::u::u::u::u::u::u::u::u::u::u::u::u::u::u::u::u::u::u::u::u::u::u::u::u::u::u::u::u::u::u::u::u::u::u::u::u::u::u::u::u::u::u::u::u::u::u::u::u::u::u::u::u::u::u::u::u::u::u::u::u::u::u::u::u::u::u::u::u::u::u::u::u::u::u::u::u::u::u::u::u::u::u::u::u::u::u::u::u::u::u::u::u::[])∧az H (⟨Fe,1,Hv.map (AV.int .i64)⟩::⟨.ptr Eo Ep 0 0,3,[.agg [.int .i64 a0.Next,.fz (a0.Em.map Ej),.fz (a0.Ek.map (AV.int .i64))]]⟩::⟨.ptr Eu Ev 0 0,3,[.agg [.int .i64 0,.nil,.nil]]⟩::⟨.ptr Fb Fc 0 0,3,[.agg [.int .i64 a0.Next,.fz (EA.map Ej),.nil]]⟩::F)) (fun JO F3=> ?_) (fun s H hq=> ?_)
 ·refine B4 fun IM FW=> ?_;refine CC gC V4 (fun x s H=>match x with|(E_,F9)=> ∃F0:AV,bA F0∧s=(u::u:: .ptr Eo Ep 0 0::u:: .ptr Eu Ev 0 0::u::u::u:: .ptr Fb Fc 0 0::F0:: .nil:: .int .i64 F9::u::u::u::u::u::u::u::u::u::u::u::u::u::u::u::u::u::u::u::u::u::u::u::u::u::u::u::u::u::u::u::u::u::u::u::u::u::u::u::u::u::u::u::u::u::u::u::u::u::u::u::u::u::u::u::u::u::u::u::u::u::u::u::u::u::u::u::u::u::u::u::u::u::u::u::u::u::u::u::u::u::u::u::u::u::u::u::u::u::u::u::[])∧az H (⟨F0,1,E_.map (AV.int .i64)⟩::⟨.ptr Eo Ep 0 0,3,[.agg [.int .i64 a0.Next,.fz (a0.Em.map Ej),.fz (a0.Ek.map (AV.int .i64))]]⟩::⟨.ptr Eu Ev 0 0,3,[.agg [.int .i64 0,.nil,.nil]]⟩::⟨.ptr Fb Fc 0 0,3,[.agg [.int .i64 a0.Next,.fz (EA.map Ej),.nil]]⟩::F)) ⟨_,nr,rfl,((hS.Ap 1).C0 4 [0,3,2,1] (by decide))⟩ (fun x SY s H h V5 hi Hj Fu=> ?_)
  obtain ⟨E_,F9⟩:=x;try dsimp only at hi
  obtain ⟨F0,KA,rfl,hS⟩:=hi;simp only [N0] at h;refine B3 fun Il FD=> ?_;refine B3 fun Kv Gz=> ?_;refine Ck gC ?_;try simp only [W,EE,Nat.reduceAdd,Nat.reduceBEq,hS.var 1 rfl]
  refine B_ Gz ?_;refine B8 ?_;simp only [W];refine Cj h (fun hc h=> ?_) (fun hc h=> ?_)
  ·refine B5 ?_;refine B_ FD ?_;refine B3 fun Lq Hk=> ?_;obtain ⟨Nd,h,PV⟩:=Option.bind_eq_some_iff.1 h;refine CG gC (fun s H=> ∃Fm:List Int,Nd=(Fm)∧ ∃v33:AV,bA v33∧s=(u::u:: .ptr Eo Ep 0 0::u:: .ptr Eu Ev 0 0::u::u::u:: .ptr Fb Fc 0 0::v33:: .nil:: .int .i64 F9::u::u::u::u::u::u::u::u::u::u::u::u::u::u::u::u::u::u::u::u::u::u::u::u::u::u::u::u::u::u::u::u::u::u::u::u::u::u::u::u::u::u::u::u::u::u::u::u::u::u::u::u::u::u::u::u::u::u::u::u::u::u::u::u::u::u::u::u::u::u::u::u::u::u::u::u::u::u::u::u::u::u::u::u::u::u::u::u::u::u::u::[])∧az H (⟨v33,1,Fm.map (AV.int .i64)⟩::⟨.ptr Eo Ep 0 0,3,[.agg [.int .i64 a0.Next,.fz (a0.Em.map Ej),.fz (a0.Ek.map (AV.int .i64))]]⟩::⟨.ptr Eu Ev 0 0,3,[.agg [.int .i64 0,.nil,.nil]]⟩::⟨.ptr Fb Fc 0 0,3,[.agg [.int .i64 a0.Next,.fz (EA.map Ej),.nil]]⟩::F)) (fun On HU=> ?_) (fun s H hq=> ?_)
   ·refine B4 fun Kx G5=> ?_;refine B3 fun PW Ks=> ?_;obtain ⟨V6,h,V7⟩:=Option.bind_eq_some_iff.1 h;refine CG gC (fun s H=> ∃FV:Bool,V6=(FV)∧s=(u::u:: .ptr Eo Ep 0 0::u:: .ptr Eu Ev 0 0::u::u::u:: .ptr Fb Fc 0 0::F0:: .nil:: .int .i64 F9::u::u::u::u::u::u::u::u::u::u::u::u::u::u::u::u::u::u::u::u::u::u::u::u::u::u::u:: .bool FV::u::u::u::u::u::u::u::u::u::u::u::u::u::u::u::u::u::u::u::u::u::u::u::u::u::u::u::u::u::u::u::u::u::u::u::u::u::u::u::u::u::u::u::u::u::u::u::u::u::u::u::u::u::u::u::u::u::u::u::u::u::u::u::[])∧az H (⟨F0,1,E_.map (AV.int .i64)⟩::⟨.ptr Eo Ep 0 0,3,[.agg [.int .i64 a0.Next,.fz (a0.Em.map Ej),.fz (a0.Ek.map (AV.int .i64))]]⟩::⟨.ptr Eu Ev 0 0,3,[.agg [.int .i64 0,.nil,.nil]]⟩::⟨.ptr Fb Fc 0 0,3,[.agg [.int .i64 a0.Next,.fz (EA.map Ej),.nil]]⟩::F)) (fun Qc Jf=> ?_) (fun s H hq=> ?_)
    ·refine B3 fun OE HW=> ?_;refine Ck gC ?_;try simp only [W,EE,Nat.reduceAdd,Nat.reduceBEq,hS.var 3 rfl]
     refine CB h fun PG OF h=> ?_;refine Ng OF hS fun H hS=> ?_;try simp only [W]
     refine C4 h (fun hc h=> ?_) (fun hc h=> ?_)
     ·try simp only [W,EE,Nat.reduceAdd,Nat.reduceBEq,hS.var 1 rfl,hc]
      refine CB h fun Md Qq h=> ?_;refine Ng Qq hS fun H hS=> ?_;try simp only [W,reduceIte]
      refine B_ HW ?_;refine DP (s' :=(u::u:: .ptr Eo Ep 0 0::u:: .ptr Eu Ev 0 0::u::u::u:: .ptr Fb Fc 0 0::F0:: .nil:: .int .i64 F9::u::u::u::u::u::u::u::u::u::u::u::u::u::u::u::u::u::u::u::u::u::u::u::u::u::u::u:: .bool (!Md)::u::u::u::u::u::u::u::u::u::u::u::u::u::u::u::u::u::u::u::u::u::u::u::u::u::u::u::u::u::u::u::u::u::u::u::u::u::u::u::u::u::u::u::u::u::u::u::u::u::u::u::u::u::u::u::u::u::u::u::u::u::u::u::[])) rfl ?_
      exact CH Jf ⟨_,(Option.some.inj h).symm,rfl,hS⟩
     ·try simp only [W,hc]
      refine B_ HW ?_;refine DP (s' :=(u::u:: .ptr Eo Ep 0 0::u:: .ptr Eu Ev 0 0::u::u::u:: .ptr Fb Fc 0 0::F0:: .nil:: .int .i64 F9::u::u::u::u::u::u::u::u::u::u::u::u::u::u::u::u::u::u::u::u::u::u::u::u::u::u::u:: .bool false::u::u::u::u::u::u::u::u::u::u::u::u::u::u::u::u::u::u::u::u::u::u::u::u::u::u::u::u::u::u::u::u::u::u::u::u::u::u::u::u::u::u::u::u::u::u::u::u::u::u::u::u::u::u::u::u::u::u::u::u::u::u::u::[])) rfl ?_
      exact CH Jf ⟨_,(Option.some.inj h).symm,rfl,hS⟩
    ·obtain ⟨FV,Es,rfl,hS⟩:=hq;obtain rfl:=Es.symm;replace h:=V7;try dsimp only at h
     refine B_ Ks ?_;obtain ⟨Qr,h,Qs⟩:=Option.bind_eq_some_iff.1 h;refine CG gC (fun s H=> ∃HP:List Int,Qr=(HP)∧ ∃v46:AV,bA v46∧s=(u::u:: .ptr Eo Ep 0 0::u:: .ptr Eu Ev 0 0::u::u::u:: .ptr Fb Fc 0 0::v46:: .nil:: .int .i64 F9::u::u::u::u::u::u::u::u::u::u::u::u::u::u::u::u::u::u::u::u::u::u::u::u::u::u::u::u::u::u::u::u::u::u::u::u::u::u::u::u::u::u::u::u::u::u::u::u::u::u::u::u::u::u::u::u::u::u::u::u::u::u::u::u::u::u::u::u::u::u::u::u::u::u::u::u::u::u::u::u::u::u::u::u::u::u::u::u::u::u::u::[])∧az H (⟨v46,1,HP.map (AV.int .i64)⟩::⟨.ptr Eo Ep 0 0,3,[.agg [.int .i64 a0.Next,.fz (a0.Em.map Ej),.fz (a0.Ek.map (AV.int .i64))]]⟩::⟨.ptr Eu Ev 0 0,3,[.agg [.int .i64 0,.nil,.nil]]⟩::⟨.ptr Fb Fc 0 0,3,[.agg [.int .i64 a0.Next,.fz (EA.map Ej),.nil]]⟩::F)) (fun Nl HE=> ?_) (fun s H hq=> ?_)
     ·refine B3 fun Lr G6=> ?_;refine B8 ?_;simp only [W];refine Cj h (fun hc h=> ?_) (fun hc h=> ?_)
      ·refine Ck gC ?_;try simp only [W,Nat.reduceAdd]
       refine CA (el:=([F9]:List Int).map (AV.int .i64)) hS rfl rfl rfl rfl rfl rfl rfl fun Jg H Qt hS=> ?_;try simp only [W,EE]
       refine CP (l:=E_) (c:=(AV.int .i64)) 1 hS rfl KA rfl rfl rfl (hS.il 0 rfl Qt) (fun _=>rfl) rfl h fun v55 H RJ V8 hm h hS=> ?_;try simp only [W]
       refine B_ G6 ?_;refine DP (s' :=(u::u:: .ptr Eo Ep 0 0::u:: .ptr Eu Ev 0 0::u::u::u:: .ptr Fb Fc 0 0::v55:: .nil:: .int .i64 F9::u::u::u::u::u::u::u::u::u::u::u::u::u::u::u::u::u::u::u::u::u::u::u::u::u::u::u::u::u::u::u::u::u::u::u::u::u::u::u::u::u::u::u::u::u::u::u::u::u::u::u::u::u::u::u::u::u::u::u::u::u::u::u::u::u::u::u::u::u::u::u::u::u::u::u::u::u::u::u::u::u::u::u::u::u::u::u::u::u::u::u::[])) rfl ?_
       exact CH HE ⟨_,(Option.some.inj h).symm,_,V8,rfl,(hS.C0 5 [1,2,3,4] (by decide))⟩
      ·refine B5 ?_;refine B_ G6 ?_;refine DP (s' :=(u::u:: .ptr Eo Ep 0 0::u:: .ptr Eu Ev 0 0::u::u::u:: .ptr Fb Fc 0 0::F0:: .nil:: .int .i64 F9::u::u::u::u::u::u::u::u::u::u::u::u::u::u::u::u::u::u::u::u::u::u::u::u::u::u::u::u::u::u::u::u::u::u::u::u::u::u::u::u::u::u::u::u::u::u::u::u::u::u::u::u::u::u::u::u::u::u::u::u::u::u::u::u::u::u::u::u::u::u::u::u::u::u::u::u::u::u::u::u::u::u::u::u::u::u::u::u::u::u::u::[])) rfl ?_
       exact CH HE ⟨_,(Option.some.inj h).symm,_,KA,rfl,hS⟩
     ·obtain ⟨HP,Es,v46,V9,rfl,hS⟩:=hq;obtain rfl:=Es.symm;replace h:=Qs;try dsimp only at h
      refine Cc G5 ?_;exact CH HU ⟨_,(Option.some.inj h).symm,_,V9,rfl,hS⟩
   ·obtain ⟨Fm,Es,v33,Im,rfl,hS⟩:=hq;obtain rfl:=Es.symm;replace h:=PV;try dsimp only at h
    refine B_ Hk ?_;refine Ck gC ?_;try simp only [W,EE,Nat.reduceAdd]
    exact CD Fu h ⟨_,Im,rfl,hS⟩
  ·refine B7 ?_;refine Cb FD ?_;try obtain rfl:=Option.some.inj h
   obtain rfl:=V5 _ rfl;have h:(some (E_):Option ((List Int)))=some (E_):=rfl;refine CE Fu ?_;refine Ce FW ?_;exact CH F3 ⟨_,(Option.some.inj h).symm,_,KA,rfl,hS⟩
 ·obtain ⟨Hv,Es,Fe,F4,rfl,hS⟩:=hq;obtain rfl:=Es.symm;replace h:=Qp;try dsimp only at h
  refine B_ Fs ?_;refine B3 fun V_ OG=> ?_;refine Ck gC ?_;try simp only [W,Nat.reduceAdd]
  refine B_ OG ?_;refine B3 fun Qj G7=> ?_;refine B3 fun OC GU=> ?_;refine Ck gC ?_;try simp only [W,EE,Nat.reduceAdd,Nat.reduceBEq,hS.var 3 rfl]
  refine B_ GU ?_;refine B3 fun K62 Wa=> ?_;refine Ck gC ?_;try simp only [W,EE,Nat.reduceAdd]
  refine B_ Wa ?_;obtain ⟨Wb,h,Wc⟩:=Option.bind_eq_some_iff.1 h;refine CG gC (fun s H=> ∃Ff:Int,Wb=(Ff)∧s=(u::u:: .ptr Eo Ep 0 0::u:: .ptr Eu Ev 0 0::u::u::u:: .ptr Fb Fc 0 0::Fe:: .nil::u:: .int .i64 Ff::u::u::u::u::u::u::u::u::u::u::u::u::u::u::u::u::u::u::u::u::u::u::u::u::u::u::u::u::u::u::u::u::u::u::u::u::u::u::u::u::u::u::u::u::u::u::u::u::u::u::u::u::u::u::u::u::u::u::u::u::u::u::u::u::u::u::u::u::u::u::u::u::u::u::u::u::u::u::u::u::u::u::u::u::u::u::u::u::u::u::[])∧az H (⟨Fe,1,Hv.map (AV.int .i64)⟩::⟨.ptr Eo Ep 0 0,3,[.agg [.int .i64 a0.Next,.fz (a0.Em.map Ej),.fz (a0.Ek.map (AV.int .i64))]]⟩::⟨.ptr Eu Ev 0 0,3,[.agg [.int .i64 0,.nil,.nil]]⟩::⟨.ptr Fb Fc 0 0,3,[.agg [.int .i64 a0.Next,.fz (EA.map Ej),.nil]]⟩::F)) (fun Wd Nn=> ?_) (fun s H hq=> ?_)
  ·refine B3 fun SZ Lv=> ?_;refine B8 ?_;simp only [W];refine Cj h (fun hc h=> ?_) (fun hc h=> ?_)
   ·refine Ck gC ?_;try simp only [W,EE,Nat.reduceAdd,Nat.reduceBEq,hS.var 3 rfl]
    refine Cu rfl rfl rfl (fun _=>rfl) h fun I1 SX h=> ?_;try simp only [W,EE,EN,Nat.reduceAdd,Nat.reduceBEq]
    refine B_ Lv ?_;refine DP (s' :=(u::u:: .ptr Eo Ep 0 0::u:: .ptr Eu Ev 0 0::u::u::u:: .ptr Fb Fc 0 0::Fe:: .nil::u:: .int .i64 (IntKind.i64.wrap (I1.To-1))::u::u::u::u::u::u::u::u::u::u::u::u::u::u::u::u::u::u::u::u::u::u::u::u::u::u::u::u::u::u::u::u::u::u::u::u::u::u::u::u::u::u::u::u::u::u::u::u::u::u::u::u::u::u::u::u::u::u::u::u::u::u::u::u::u::u::u::u::u::u::u::u::u::u::u::u::u::u::u::u::u::u::u::u::u::u::u::u::u::u::[])) rfl ?_
    exact CH Nn ⟨_,(Option.some.inj h).symm,rfl,hS⟩
   ·refine B5 ?_;refine B_ Lv ?_;refine DP (s' :=(u::u:: .ptr Eo Ep 0 0::u:: .ptr Eu Ev 0 0::u::u::u:: .ptr Fb Fc 0 0::Fe:: .nil::u:: .int .i64 (-1)::u::u::u::u::u::u::u::u::u::u::u::u::u::u::u::u::u::u::u::u::u::u::u::u::u::u::u::u::u::u::u::u::u::u::u::u::u::u::u::u::u::u::u::u::u::u::u::u::u::u::u::u::u::u::u::u::u::u::u::u::u::u::u::u::u::u::u::u::u::u::u::u::u::u::u::u::u::u::u::u::u::u::u::u::u::u::u::u::u::u::[])) rfl ?_
    exact CH Nn ⟨_,(Option.some.inj h).symm,rfl,hS⟩
  ·obtain ⟨Ff,Es,rfl,hS⟩:=hq;obtain rfl:=Es.symm;replace h:=Wc;try dsimp only at h
   refine B_ G7 ?_;refine B3 fun Qu KB=> ?_;refine B3 fun K70 We=> ?_;refine Ck gC ?_;try simp only [W,Nat.reduceAdd]
   refine B_ We ?_;obtain ⟨Qv,Wf,Wg⟩:=Option.bind_eq_some_iff.1 h;refine CG gC (fun s H=> ∃JE:List Int,∃Mi:List Int,Qv=(JE,Mi)∧ ∃v79:AV,bA v79∧ ∃Lw:AV,bA Lw∧s=(u::u::u::u:: .ptr Eu Ev 0 0::u::u::u:: .ptr Fb Fc 0 0::Fe::v79::u::u::u::u::u::u::u::u::u::u::u::u::u::u::u::u::u::u::u::u::u::u::u::u::u::u::u::u::u::u::u::u::u::u::u::u::u::u::u::u::u::u::u::u::u::u::u::u::u::u::u::u::u::u::u::u::u::u::u::u::u::u::u::u::u::u::u::u::u::u::u::u::u::u::u::u::u::u::u::u::u::u::u::u::u::u::u::u::u::u::u::u::[])∧az H (⟨Fe,1,Hv.map (AV.int .i64)⟩::⟨v79,1,JE.map (AV.int .i64)⟩::⟨Lw,1,Mi.map (AV.int .i64)⟩::⟨.ptr Eu Ev 0 0,3,[.agg [.int .i64 0,.nil,.nil]]⟩::⟨.ptr Fb Fc 0 0,3,[.agg [.int .i64 a0.Next,.fz (EA.map Ej),Lw]]⟩::F)) (fun Ou IK=> ?_) (fun s H hq=> ?_)
   ·refine B4 fun Ov IL=> ?_;refine CC gC Wf (fun x s H=>match x with|(Gi,Fk,Gl)=> ∃v72:AV,bA v72∧ ∃v76:AV,bA v76∧s=(u::u:: .ptr Eo Ep 0 0::u:: .ptr Eu Ev 0 0::u::u::u:: .ptr Fb Fc 0 0::Fe::v72::u:: .int .i64 Ff::u:: .int .i64 Fk::u::u::u::u::u::u::u::u::u::u::u::u::u::u::u::u::u::u::u::u::u::u::u::u::u::u::u::u::u::u::u::u::u::u::u::u::u::u::u::u::u::u::u::u::u::u::u::u::u::u::u::u::u::u::u::u::u::u::u::u::u::u::u::u::u::u::u::u::u::u::u::u::u::u::u::u::u::u::u::u::u::u::u::u::u::u::u::u::[])∧az H (⟨Fe,1,Hv.map (AV.int .i64)⟩::⟨v72,1,Gi.map (AV.int .i64)⟩::⟨v76,1,Gl.map (AV.int .i64)⟩::⟨.ptr Eo Ep 0 0,3,[.agg [.int .i64 a0.Next,.fz (a0.Em.map Ej),.fz (a0.Ek.map (AV.int .i64))]]⟩::⟨.ptr Eu Ev 0 0,3,[.agg [.int .i64 0,.nil,.nil]]⟩::⟨.ptr Fb Fc 0 0,3,[.agg [.int .i64 a0.Next,.fz (EA.map Ej),v76]]⟩::F)) ⟨_,nr,_,nr,rfl,(((hS.Ap 1).Ap 1).C0 6 [2,0,1,3,4,5] (by decide))⟩ (fun x y88 s H h Wh hi Vg Ox=> ?_)
    obtain ⟨Gi,Fk,Gl⟩:=x;try dsimp only at hi
    obtain ⟨v72,Ls,v76,Ly,rfl,hS⟩:=hi;simp only [N1] at h;refine B3 fun Sx Ln=> ?_;refine B3 fun Wi OH=> ?_;refine Ck gC ?_;try simp only [W,EE,Nat.reduceAdd,Nat.reduceBEq,hS.var 3 rfl]
    refine B_ OH ?_;refine B8 ?_;simp only [W];refine Cj h (fun hc h=> ?_) (fun hc h=> ?_)
    ·refine B5 ?_;refine B_ Ln ?_;refine B3 fun Wj OI=> ?_;obtain ⟨Wk,h,Wl⟩:=Option.bind_eq_some_iff.1 h;refine CG gC (fun s H=> ∃Mf:List Int,∃Mg:List Int,Wk=(Mf,Mg)∧ ∃Np:AV,bA Np∧ ∃Jh:AV,bA Jh∧s=(u::u:: .ptr Eo Ep 0 0::u:: .ptr Eu Ev 0 0::u::u::u:: .ptr Fb Fc 0 0::Fe::Np::u:: .int .i64 Ff::u:: .int .i64 Fk::u::u::u::u::u::u::u::u::u::u::u::u::u::u::u::u::u::u::u::u::u::u::u::u::u::u::u::u::u::u::u::u::u::u::u::u::u::u::u::u::u::u::u::u::u::u::u::u::u::u::u::u::u::u::u::u::u::u::u::u::u::u::u::u::u::u::u::u::u::u::u::u::u::u::u::u::u::u::u::u::u::u::u::u::u::u::u::u::[])∧az H (⟨Fe,1,Hv.map (AV.int .i64)⟩::⟨Np,1,Mf.map (AV.int .i64)⟩::⟨Jh,1,Mg.map (AV.int .i64)⟩::⟨.ptr Eo Ep 0 0,3,[.agg [.int .i64 a0.Next,.fz (a0.Em.map Ej),.fz (a0.Ek.map (AV.int .i64))]]⟩::⟨.ptr Eu Ev 0 0,3,[.agg [.int .i64 0,.nil,.nil]]⟩::⟨.ptr Fb Fc 0 0,3,[.agg [.int .i64 a0.Next,.fz (EA.map Ej),Jh]]⟩::F)) (fun acj S0=> ?_) (fun s H hq=> ?_)
     ·refine B4 fun S1 Io=> ?_;refine B3 fun ack S2=> ?_;refine B3 fun acm Wm=> ?_;refine Ck gC ?_;try simp only [W,EE,Nat.reduceAdd,Nat.reduceBEq,hS.var 5 rfl]
      refine CB h fun RK Wn h=> ?_;refine Ng Wn hS fun H hS=> ?_;try simp only [W]
      refine B_ Wm ?_;refine B8 ?_;simp only [W];refine Cj h (fun hc h=> ?_) (fun hc h=> ?_)
      ·refine B7 ?_;refine Cb S2 ?_;refine Ce Io ?_;exact CH S0 ⟨_,_,(Option.some.inj h).symm,_,Ls,_,Ly,rfl,hS⟩
      ·refine B5 ?_;refine B_ S2 ?_;refine B3 fun acn Wo=> ?_;refine Ck gC ?_;try simp only [W,EE,Nat.reduceAdd,Nat.reduceBEq,hS.var 3 rfl]
       refine CB h fun RL Wp h=> ?_;refine Ql Wp hS fun H hS=> ?_;try simp only [W]
       refine B_ Wo ?_;refine B3 fun SE Nf=> ?_;refine B3 fun Wq Qw=> ?_;obtain ⟨S3,h,Qx⟩:=Option.bind_eq_some_iff.1 h;refine CG gC (fun s H=> ∃GZ:Bool,∃HJ:Bool,S3=(GZ,HJ)∧s=(u::u:: .ptr Eo Ep 0 0::u:: .ptr Eu Ev 0 0::u::u::u:: .ptr Fb Fc 0 0::Fe::v72::u:: .int .i64 Ff::u:: .int .i64 Fk:: .bool GZ::u::u::u::u::u::u::u::u::u::u::u::u::u::u::u::u::u::u::u::u::u::u::u::u::u::u::u::u::u::u::u::u::u::u::u::u::u::u::u::u::u::u::u::u::u::u::u::u::u::u::u::u::u::u::u::u::u::u::u::u::u:: .bool HJ::u::u::u::u::u::u::u::u::u::u::u::u::u::u::u::u::u::u::u::u::u::u::u::u::u::[])∧az H (⟨Fe,1,Hv.map (AV.int .i64)⟩::⟨v72,1,Gi.map (AV.int .i64)⟩::⟨v76,1,Gl.map (AV.int .i64)⟩::⟨.ptr Eo Ep 0 0,3,[.agg [.int .i64 a0.Next,.fz (a0.Em.map Ej),.fz (a0.Ek.map (AV.int .i64))]]⟩::⟨.ptr Eu Ev 0 0,3,[.agg [.int .i64 0,.nil,.nil]]⟩::⟨.ptr Fb Fc 0 0,3,[.agg [.int .i64 a0.Next,.fz (EA.map Ej),v76]]⟩::F)) (fun Wr OJ=> ?_) (fun s H hq=> ?_)
       ·refine B3 fun SG JQ=> ?_;refine Ck gC ?_;try simp only [W,Nat.reduceAdd]
        refine C4 h (fun hc h=> ?_) (fun hc h=> ?_)
        ·try simp only [W,hc]
         refine B_ JQ ?_;refine DP (s' :=(u::u:: .ptr Eo Ep 0 0::u:: .ptr Eu Ev 0 0::u::u::u:: .ptr Fb Fc 0 0::Fe::v72::u:: .int .i64 Ff::u:: .int .i64 Fk:: .bool true::u::u::u::u::u::u::u::u::u::u::u::u::u::u::u::u::u::u::u::u::u::u::u::u::u::u::u::u::u::u::u::u::u::u::u::u::u::u::u::u::u::u::u::u::u::u::u::u::u::u::u::u::u::u::u::u::u::u::u::u::u:: .bool true::u::u::u::u::u::u::u::u::u::u::u::u::u::u::u::u::u::u::u::u::u::u::u::u::u::[])) rfl ?_
         exact CH OJ ⟨_,_,(Option.some.inj h).symm,rfl,hS⟩
        ·try simp only [W,EE,reduceIte,Bool.false_eq_true,hc]
         refine B_ JQ ?_;refine DP (s' :=(u::u:: .ptr Eo Ep 0 0::u:: .ptr Eu Ev 0 0::u::u::u:: .ptr Fb Fc 0 0::Fe::v72::u:: .int .i64 Ff::u:: .int .i64 Fk:: .bool false::u::u::u::u::u::u::u::u::u::u::u::u::u::u::u::u::u::u::u::u::u::u::u::u::u::u::u::u::u::u::u::u::u::u::u::u::u::u::u::u::u::u::u::u::u::u::u::u::u::u::u::u::u::u::u::u::u::u::u::u::u:: .bool (decide ((IntKind.i64.wrap (Fk+3))≤Ff))::u::u::u::u::u::u::u::u::u::u::u::u::u::u::u::u::u::u::u::u::u::u::u::u::u::[])) rfl ?_
         exact CH OJ ⟨_,_,(Option.some.inj h).symm,rfl,hS⟩
       ·obtain ⟨GZ,HJ,rfl,rfl,hS⟩:=hq;replace h:=Qx;try dsimp only at h
        refine B_ Qw ?_;obtain ⟨Ws,h,Wt⟩:=Option.bind_eq_some_iff.1 h;refine CG gC (fun s H=> ∃Ka:List Int,Ws=(Ka)∧ ∃v117:AV,bA v117∧s=(u::u:: .ptr Eo Ep 0 0::u:: .ptr Eu Ev 0 0::u::u::u:: .ptr Fb Fc 0 0::Fe::v72::u:: .int .i64 Ff::u:: .int .i64 Fk:: .bool GZ::u::u::u::u::u::u::u::u::u::u::u::u::u::u::u::u::u::u::u::u::u::u::u::u::u::u::u::u::u::u::u::u::u::u::u::u::u::u::u::u::u::u::u::u::u::u::u::u::u::u::u::u::u::u::u::u::u::u::u::u::u::u::u::u::u::u::u::u::u::u::u::u::u::u::u::u::u::u::u::u::u::u::u::u::u::u::u::[])∧az H (⟨Fe,1,Hv.map (AV.int .i64)⟩::⟨v72,1,Gi.map (AV.int .i64)⟩::⟨v117,1,Ka.map (AV.int .i64)⟩::⟨.ptr Eo Ep 0 0,3,[.agg [.int .i64 a0.Next,.fz (a0.Em.map Ej),.fz (a0.Ek.map (AV.int .i64))]]⟩::⟨.ptr Eu Ev 0 0,3,[.agg [.int .i64 0,.nil,.nil]]⟩::⟨.ptr Fb Fc 0 0,3,[.agg [.int .i64 a0.Next,.fz (EA.map Ej),v117]]⟩::F)) (fun S4 Lz=> ?_) (fun s H hq=> ?_)
        ·refine B3 fun S5 LA=> ?_;refine B8 ?_;simp only [W];refine Cj h (fun hc h=> ?_) (fun hc h=> ?_)
         ·refine Ck gC ?_;try simp only [W,EE,Nat.reduceAdd,Nat.reduceBEq,hS.var 5 rfl]
          refine CA (el:=([Fk]:List Int).map (AV.int .i64)) hS rfl rfl rfl rfl rfl rfl rfl fun aco H Wu hS=> ?_;try simp only [W,EE]
          refine CP (l:=Gl) (c:=(AV.int .i64)) 3 hS rfl Ly rfl rfl rfl (hS.il 0 rfl Wu) (fun _=>rfl) rfl h fun S6 H RM OK hm h hS=> ?_;try simp only [W,EE,Nat.reduceAdd,Nat.reduceBEq,hS.var 6 rfl]
          refine Cs (a:=S6) (y' := .agg [.int .i64 a0.Next,.fz (EA.map Ej),S6]) 6 hS rfl rfl rfl rfl (by rw [OK.cells];rfl) OK.Cx (OK.wr _ _ (by simp)) rfl fun H hS=> ?_
          try simp only [W]
          refine B_ LA ?_;refine DP (s' :=(u::u:: .ptr Eo Ep 0 0::u:: .ptr Eu Ev 0 0::u::u::u:: .ptr Fb Fc 0 0::Fe::v72::u:: .int .i64 Ff::u:: .int .i64 Fk:: .bool GZ::u::u::u::u::u::u::u::u::u::u::u::u::u::u::u::u::u::u::u::u::u::u::u::u::u::u::u::u::u::u::u::u::u::u::u::u::u::u::u::u::u::u::u::u::u::u::u::u::u::u::u::u::u::u::u::u::u::u::u::u::u::u::u::u::u::u::u::u::u::u::u::u::u::u::u::u::u::u::u::u::u::u::u::u::u::u::u::[])) rfl ?_
          exact CH Lz ⟨_,(Option.some.inj h).symm,_,OK,rfl,(hS.C0 7 [1,2,3,4,5,6] (by decide))⟩
         ·refine B5 ?_;refine B_ LA ?_;refine DP (s' :=(u::u:: .ptr Eo Ep 0 0::u:: .ptr Eu Ev 0 0::u::u::u:: .ptr Fb Fc 0 0::Fe::v72::u:: .int .i64 Ff::u:: .int .i64 Fk:: .bool GZ::u::u::u::u::u::u::u::u::u::u::u::u::u::u::u::u::u::u::u::u::u::u::u::u::u::u::u::u::u::u::u::u::u::u::u::u::u::u::u::u::u::u::u::u::u::u::u::u::u::u::u::u::u::u::u::u::u::u::u::u::u::u::u::u::u::u::u::u::u::u::u::u::u::u::u::u::u::u::u::u::u::u::u::u::u::u::u::[])) rfl ?_
          exact CH Lz ⟨_,(Option.some.inj h).symm,_,Ly,rfl,hS⟩
        ·obtain ⟨Ka,Es,v117,Wv,rfl,hS⟩:=hq;obtain rfl:=Es.symm;replace h:=Wt;try dsimp only at h
         refine B_ Nf ?_;refine B3 fun acp Ww=> ?_;obtain ⟨Qy,h,Qz⟩:=Option.bind_eq_some_iff.1 h;refine CG gC (fun s H=> ∃Ib:Bool,Qy=(Ib)∧s=(u::u:: .ptr Eo Ep 0 0::u:: .ptr Eu Ev 0 0::u::u::u:: .ptr Fb Fc 0 0::Fe::v72::u:: .int .i64 Ff::u:: .int .i64 Fk::u::u::u::u::u::u::u::u::u::u::u::u::u::u::u::u::u::u::u::u::u::u::u::u::u::u::u::u::u::u::u::u::u::u::u::u::u::u::u::u::u::u::u::u::u::u::u::u::u::u::u::u::u::u::u::u::u::u::u::u::u::u::u::u::u::u::u::u::u::u::u::u::u::u::u::u:: .bool Ib::u::u::u::u::u::u::u::u::u::u::u::[])∧az H (⟨Fe,1,Hv.map (AV.int .i64)⟩::⟨v72,1,Gi.map (AV.int .i64)⟩::⟨v117,1,Ka.map (AV.int .i64)⟩::⟨.ptr Eo Ep 0 0,3,[.agg [.int .i64 a0.Next,.fz (a0.Em.map Ej),.fz (a0.Ek.map (AV.int .i64))]]⟩::⟨.ptr Eu Ev 0 0,3,[.agg [.int .i64 0,.nil,.nil]]⟩::⟨.ptr Fb Fc 0 0,3,[.agg [.int .i64 a0.Next,.fz (EA.map Ej),v117]]⟩::F)) (fun Wx Nq=> ?_) (fun s H hq=> ?_)
         ·refine B3 fun Wy Nr=> ?_;refine Ck gC ?_;try simp only [W,Nat.reduceAdd]
          refine C4 h (fun hc h=> ?_) (fun hc h=> ?_)
          ·try simp only [W,EE,reduceIte,hc]
           refine B_ Nr ?_;refine DP (s' :=(u::u:: .ptr Eo Ep 0 0::u:: .ptr Eu Ev 0 0::u::u::u:: .ptr Fb Fc 0 0::Fe::v72::u:: .int .i64 Ff::u:: .int .i64 Fk::u::u::u::u::u::u::u::u::u::u::u::u::u::u::u::u::u::u::u::u::u::u::u::u::u::u::u::u::u::u::u::u::u::u::u::u::u::u::u::u::u::u::u::u::u::u::u::u::u::u::u::u::u::u::u::u::u::u::u::u::u::u::u::u::u::u::u::u::u::u::u::u::u::u::u::u:: .bool (decide ((IntKind.i64.wrap (Fk+3))≤Ff))::u::u::u::u::u::u::u::u::u::u::u::[])) rfl ?_
           exact CH Nq ⟨_,(Option.some.inj h).symm,rfl,hS⟩
          ·try simp only [W,hc]
           refine B_ Nr ?_;refine DP (s' :=(u::u:: .ptr Eo Ep 0 0::u:: .ptr Eu Ev 0 0::u::u::u:: .ptr Fb Fc 0 0::Fe::v72::u:: .int .i64 Ff::u:: .int .i64 Fk::u::u::u::u::u::u::u::u::u::u::u::u::u::u::u::u::u::u::u::u::u::u::u::u::u::u::u::u::u::u::u::u::u::u::u::u::u::u::u::u::u::u::u::u::u::u::u::u::u::u::u::u::u::u::u::u::u::u::u::u::u::u::u::u::u::u::u::u::u::u::u::u::u::u::u::u:: .bool false::u::u::u::u::u::u::u::u::u::u::u::[])) rfl ?_
           exact CH Nq ⟨_,(Option.some.inj h).symm,rfl,hS⟩
         ·obtain ⟨Ib,Es,rfl,hS⟩:=hq;obtain rfl:=Es.symm;replace h:=Qz;try dsimp only at h
          refine B_ Ww ?_;obtain ⟨Wz,h,WA⟩:=Option.bind_eq_some_iff.1 h;refine CG gC (fun s H=> ∃Me:List Int,Wz=(Me)∧ ∃OL:AV,bA OL∧s=(u::u:: .ptr Eo Ep 0 0::u:: .ptr Eu Ev 0 0::u::u::u:: .ptr Fb Fc 0 0::Fe::OL::u:: .int .i64 Ff::u:: .int .i64 Fk::u::u::u::u::u::u::u::u::u::u::u::u::u::u::u::u::u::u::u::u::u::u::u::u::u::u::u::u::u::u::u::u::u::u::u::u::u::u::u::u::u::u::u::u::u::u::u::u::u::u::u::u::u::u::u::u::u::u::u::u::u::u::u::u::u::u::u::u::u::u::u::u::u::u::u::u::u::u::u::u::u::u::u::u::u::u::u::u::[])∧az H (⟨Fe,1,Hv.map (AV.int .i64)⟩::⟨OL,1,Me.map (AV.int .i64)⟩::⟨v117,1,Ka.map (AV.int .i64)⟩::⟨.ptr Eo Ep 0 0,3,[.agg [.int .i64 a0.Next,.fz (a0.Em.map Ej),.fz (a0.Ek.map (AV.int .i64))]]⟩::⟨.ptr Eu Ev 0 0,3,[.agg [.int .i64 0,.nil,.nil]]⟩::⟨.ptr Fb Fc 0 0,3,[.agg [.int .i64 a0.Next,.fz (EA.map Ej),v117]]⟩::F)) (fun acq S7=> ?_) (fun s H hq=> ?_)
          ·refine B3 fun acr S8=> ?_;refine B8 ?_;simp only [W];refine Cj h (fun hc h=> ?_) (fun hc h=> ?_)
           ·refine Ck gC ?_;try simp only [W,Nat.reduceAdd]
            refine CA (el:=([Fk]:List Int).map (AV.int .i64)) hS rfl rfl rfl rfl rfl rfl rfl fun v141 H QA hS=> ?_;try simp only [W,EE]
            refine CP (l:=Gi) (c:=(AV.int .i64)) 2 hS rfl Ls rfl rfl rfl (hS.il 0 rfl QA) (fun _=>rfl) rfl h fun WB H RN WC hm h hS=> ?_;try simp only [W]
            refine B_ S8 ?_;refine DP (s' :=(u::u:: .ptr Eo Ep 0 0::u:: .ptr Eu Ev 0 0::u::u::u:: .ptr Fb Fc 0 0::Fe::WB::u:: .int .i64 Ff::u:: .int .i64 Fk::u::u::u::u::u::u::u::u::u::u::u::u::u::u::u::u::u::u::u::u::u::u::u::u::u::u::u::u::u::u::u::u::u::u::u::u::u::u::u::u::u::u::u::u::u::u::u::u::u::u::u::u::u::u::u::u::u::u::u::u::u::u::u::u::u::u::u::u::u::u::u::u::u::u::u::u::u::u::u::u::u::u::u::u::u::u::u::u::[])) rfl ?_
            exact CH S7 ⟨_,(Option.some.inj h).symm,_,WC,rfl,(hS.C0 7 [1,2,3,4,5,6] (by decide))⟩
           ·refine B5 ?_;refine B_ S8 ?_;refine DP (s' :=(u::u:: .ptr Eo Ep 0 0::u:: .ptr Eu Ev 0 0::u::u::u:: .ptr Fb Fc 0 0::Fe::v72::u:: .int .i64 Ff::u:: .int .i64 Fk::u::u::u::u::u::u::u::u::u::u::u::u::u::u::u::u::u::u::u::u::u::u::u::u::u::u::u::u::u::u::u::u::u::u::u::u::u::u::u::u::u::u::u::u::u::u::u::u::u::u::u::u::u::u::u::u::u::u::u::u::u::u::u::u::u::u::u::u::u::u::u::u::u::u::u::u::u::u::u::u::u::u::u::u::u::u::u::u::[])) rfl ?_
            exact CH S7 ⟨_,(Option.some.inj h).symm,_,Ls,rfl,hS⟩
          ·obtain ⟨Me,Es,OL,WD,rfl,hS⟩:=hq;obtain rfl:=Es.symm;replace h:=WA;try dsimp only at h
           refine Cc Io ?_;exact CH S0 ⟨_,_,(Option.some.inj h).symm,_,WD,_,Wv,rfl,hS⟩
     ·obtain ⟨Mf,Mg,rfl,Np,QB,Jh,Ns,rfl,hS⟩:=hq;replace h:=Wl;try dsimp only at h
      refine B_ OI ?_;refine Ck gC ?_;try simp only [W,EE,Nat.reduceAdd]
      exact CD Ox h ⟨_,QB,_,Ns,rfl,hS⟩
    ·refine B7 ?_;refine Cb Ln ?_;try obtain rfl:=Option.some.inj h
     obtain rfl:=Wh _ rfl;have h:(some (Gi,Gl):Option ((List Int)×(List Int)))=some (Gi,Gl):=rfl;refine CE Ox ?_;refine Ce IL ?_;exact CH IK ⟨_,_,(Option.some.inj h).symm,_,Ls,_,Ly,rfl,(hS.C0 6 [0,1,2,4,5] (by decide))⟩
   ·obtain ⟨JE,Mi,rfl,v79,KC,Lw,JV,rfl,hS⟩:=hq;replace h:=Wg;try dsimp only at h
    refine B_ KB ?_;refine B3 fun acs WE=> ?_;refine C6 gC [(7,[1,2,3,4,5,6])] (by kernel_rfl) rfl (by kernel_rfl) ?_
    try simp only [W,EE,reduceIte,Nat.reduceAdd,Nat.reduceLeDiff,Nat.reduceBEq,hS.var 4 rfl,iV,lG,Nat.reduceEqDiff]
    refine Cs (a:= .agg [.int .i64 a0.Next,.fz (EA.map Ej),Lw]) (y' := .agg [.int .i64 a0.Next,.fz (EA.map Ej),Lw]) 3 hS rfl rfl rfl rfl rfl (by simp only [dD,List.all_cons,List.all_nil,JV.qu];rfl) rfl rfl fun H hS=> ?_
    refine C7 ?_;refine C8 (by first|rfl|(simp [gR,aP,ct,lenOf,W,EE,EN,bT,jG,aD,AV.cells,hS.var 3 rfl,hS.var 4 rfl];done)|exact DE 0 hS rfl F4 rfl rfl rfl rfl rfl|exact DE 1 hS rfl KC rfl rfl rfl rfl rfl|exact DE 2 hS rfl JV rfl rfl rfl rfl rfl) ?_
    refine C8 (by first|rfl|(simp [gR,aP,ct,lenOf,W,EE,EN,bT,jG,aD,AV.cells,hS.var 3 rfl,hS.var 4 rfl];done)|exact DE 0 hS rfl F4 rfl rfl rfl rfl rfl|exact DE 1 hS rfl KC rfl rfl rfl rfl rfl|exact DE 2 hS rfl JV rfl rfl rfl rfl rfl) ?_
    refine C8 (by first|rfl|(simp [gR,aP,W,EE,hS.var 4 rfl];done)|exact DE 0 hS rfl F4 rfl rfl rfl rfl rfl|exact DE 1 hS rfl KC rfl rfl rfl rfl rfl|exact DE 2 hS rfl JV rfl rfl rfl rfl rfl) ?_
    refine C8 (by first|rfl|(simp [gR,aP,W,EE,bT,jG,aD,AV.cells,hS.var 4 rfl];done)|exact DE 0 hS rfl F4 rfl rfl rfl rfl rfl|exact DE 1 hS rfl KC rfl rfl rfl rfl rfl|exact DE 2 hS rfl JV rfl rfl rfl rfl rfl) ?_
    refine C8 (by first|rfl|(simp [gR,ct,lenOf,W,EE];done)|exact DE 0 hS rfl F4 rfl rfl rfl rfl rfl|exact DE 1 hS rfl KC rfl rfl rfl rfl rfl|exact DE 2 hS rfl JV rfl rfl rfl rfl rfl) ?_
    refine C8 (by first|rfl|(simp [gR,aP,ct,lenOf,W,EE,EN,bT,jG,aD,AV.cells,hS.var 3 rfl,hS.var 4 rfl];done)|exact DE 0 hS rfl F4 rfl rfl rfl rfl rfl|exact DE 1 hS rfl KC rfl rfl rfl rfl rfl|exact DE 2 hS rfl JV rfl rfl rfl rfl rfl) ?_
    refine C9 ?_;try simp only [W]
    refine B_ WE ?_;refine B6 ?_;refine Cg El (C2 rfl rfl (hS.var 3 rfl) rfl (C3 rfl (C3 rfl (C3 rfl rfl)))) ?_;try obtain rfl:=Option.some.inj h
    exact hP _ JV _ F4 _ KC _ (hS.C0 5 [2,0,1] (by decide))
theorem S9 {a0:Et} {r:(Et)} (h:KZ a0=some r) {F:List It} {H:J} (hS:az H (F)) {P:AV→J→Prop} (hP: ∀F0:AV,bA F0→ ∀v17:AV,bA v17→ ∀H',az H' (⟨F0,2,r.Em.map Ej⟩::⟨v17,1,r.Ek.map (AV.int .i64)⟩::F)→P (.agg [.int .i64 r.Next,F0,v17]) H'):aq C 82 [.agg [.int .i64 a0.Next,.fz (a0.Em.map Ej),.fz (a0.Ek.map (AV.int .i64))]] H P:=by
 refine Cn gC (res:=[.cell 2 26]) (n:=14) rfl rfl rfl rfl fun K0 El=> ?_;simp only [W,Nat.reduceSub,Nat.reduceAdd,List.replicate];unfold KZ at h;refine B3 fun K1 Er=> ?_;refine Ck gC ?_;try simp only [W,Nat.reduceAdd]
 refine Cq hS rfl rfl rfl rfl fun Eo Ep H hS=> ?_;try simp only [W]
 refine Cr hS rfl rfl fun Eu Ev H hS=> ?_;try simp only [W]
 refine B_ Er ?_;refine B3 fun K6 E6=> ?_;refine C6 gC [(11,[])] (by kernel_rfl) rfl (by kernel_rfl) ?_
 try simp only [W,EE,reduceIte,Nat.reduceAdd,Nat.reduceBEq,hS.var 1 rfl,iV,lG,Nat.reduceEqDiff]
 refine Cz rfl rfl ?_;try simp only [W,EE,Nat.reduceAdd,Nat.reduceBEq,hS.var 1 rfl]
 refine C_ rfl ?_;simp only [W,EE];have hS:=hS.Aq 2;refine CP (l:=([]:List Span)) (c:=Ej) 0 hS rfl nt rfl rfl rfl rfl (fun _=>rfl) rfl h fun v9 H EH LB hm h hS=> ?_;try simp only [W]
 refine Cz rfl rfl ?_;try simp only [W,EE,Nat.reduceAdd,Nat.reduceBEq,hS.var 2 rfl]
 refine C_ rfl ?_;simp only [W,EE];have hS:=hS.Aq 1;refine CP (l:=([]:List Int)) (c:=(AV.int .i64)) 0 hS rfl nt rfl rfl rfl rfl (fun _=>rfl) rfl h fun E7 H Fq FT hm h hS=> ?_;try simp only [W,EE]
 refine C5 rfl rfl rfl rfl (by simp only [fD,LB.Cx,LB.cells,FT.Cx,FT.cells];simp [E,splice,AV.cells,dD,cM]<;>rfl) ?_
 try simp only [W]
 refine Cs (a:= .agg [.int .i64 a0.Next,v9,E7]) (y' := .agg [.int .i64 a0.Next,v9,E7]) 2 hS rfl rfl rfl rfl rfl (by simp only [dD,List.all_cons,List.all_nil,LB.qu,FT.qu];rfl) rfl rfl fun H hS=> ?_
 try simp only [W]
 refine B_ E6 ?_;refine B6 ?_;refine Cg El (C2 rfl rfl (hS.var 2 rfl) rfl rfl) ?_;try obtain rfl:=Option.some.inj h
 exact hP _ LB _ FT _ (hS.C0 4 [1,0] (by decide))
theorem S_ {a0:Et} {a1:List Span} {r:(Et×List Int×List Int×Bool)} (h:K_ a0 a1=some r) {F:List It} {H:J} (hS:az H (F)) {P:AV→J→Prop} (hP: ∀v41:AV,bA v41→ ∀JW:AV,bA JW→ ∀v45:AV,bA v45→ ∀FB:AV,bA FB→ ∀H',az H' (⟨v41,2,r.1.Em.map Ej⟩::⟨JW,1,r.1.Ek.map (AV.int .i64)⟩::⟨v45,1,r.2.1.map (AV.int .i64)⟩::⟨FB,1,r.2.2.1.map (AV.int .i64)⟩::F)→P (.ay [.agg [.int .i64 r.1.Next,v41,JW],v45,FB,.bool r.2.2.2]) H'):aq C 10 [.agg [.int .i64 a0.Next,.fz (a0.Em.map Ej),.fz (a0.Ek.map (AV.int .i64))],.fz (a1.map Ej)] H P:=by
 refine Cn gC (res:=[.cell 4 26,.tmp 5,.tmp 6,.tmp 7]) (n:=38) rfl rfl rfl rfl fun K0 El=> ?_;simp only [W,Nat.reduceSub,Nat.reduceAdd,List.replicate];unfold K_ at h;refine B3 fun K1 Er=> ?_;refine Ck gC ?_;try simp only [W,Nat.reduceAdd]
 refine Cq hS rfl rfl rfl rfl fun Eo Ep H hS=> ?_;try simp only [W]
 refine Cr hS rfl rfl fun Eu Ev H hS=> ?_;try simp only [W]
 refine B_ Er ?_;refine B3 fun K6 E6=> ?_;refine B3 fun K7 EI=> ?_;obtain ⟨KD,h,g10⟩:=Option.bind_eq_some_iff.1 h;refine CG gC (fun s H=> ∃EH:Bool,KD=(EH)∧s=[u,.fz (a1.map Ej),.ptr Eo Ep 0 0,u,.ptr Eu Ev 0 0,u,u,u,u,u,u,u,u,u,u,u,u,u,u,u,u,.bool EH,u,u,u,u,u,u,u,u,u,u,u,u,u,u,u,u]∧az H (⟨.ptr Eo Ep 0 0,3,[.agg [.int .i64 a0.Next,.fz (a0.Em.map Ej),.fz (a0.Ek.map (AV.int .i64))]]⟩::⟨.ptr Eu Ev 0 0,3,[.agg [.int .i64 0,.nil,.nil]]⟩::F)) (fun Ii Fy=> ?_) (fun s H hq=> ?_)
 ·refine B3 fun Ij Fs=> ?_;refine Ck gC ?_;try simp only [W,EE,reduceIte,Nat.reduceAdd,Nat.reduceLeDiff,hS.var 1 rfl]
  refine CB h fun Hd Je h=> ?_;refine P8 Je hS fun H hS=> ?_;try simp only [W]
  refine C4 h (fun hc h=> ?_) (fun hc h=> ?_)
  ·try simp only [W,hc]
   refine B_ Fs ?_;refine B9 ?_;exact CH Fy ⟨_,(Option.some.inj h).symm,rfl,(hS.C0 2 [1,0] (by decide))⟩
  ·try simp only [W,EE,Nat.reduceAdd,Nat.reduceBEq,hS.var 1 rfl,hc]
   refine CB h fun La QC h=> ?_;refine SL QC hS fun H hS=> ?_;try simp only [W,reduceIte,Bool.false_eq_true]
   refine B_ Fs ?_;refine B9 ?_;exact CH Fy ⟨_,(Option.some.inj h).symm,rfl,(hS.C0 2 [1,0] (by decide))⟩
 ·obtain ⟨EH,Es,rfl,hS⟩:=hq;obtain rfl:=Es.symm;replace h:=g10;try dsimp only at h
  refine B_ EI ?_;refine B8 ?_;simp only [W];refine Cj h (fun hc h=> ?_) (fun hc h=> ?_)
  ·refine B3 fun Gm EP=> ?_;refine Ck gC ?_;try simp only [W,EE,Nat.reduceAdd]
   refine C5 rfl rfl rfl rfl rfl ?_;try simp only [W]
   refine Cs (a:= .agg [.int .i64 0,.nil,.nil]) (y' := .agg [.int .i64 0,.nil,.nil]) 1 hS rfl rfl rfl rfl rfl rfl rfl rfl fun H hS=> ?_
   try simp only [W]
   refine B_ EP ?_;refine B6 ?_;refine Ca E6 ?_;refine Cg El (C2 rfl rfl (hS.var 1 rfl) rfl (C3 rfl (C3 rfl (C3 rfl rfl)))) ?_;try obtain rfl:=Option.some.inj h
   exact hP _ nr _ nr _ nr _ nr _ (((((hS.Ap 1).Ap 1).Ap 1).Ap 2).C0 6 [0,1,2,3] (by decide))
  ·refine B5 ?_;refine B_ E6 ?_;refine B3 fun Gc EM=> ?_;refine Ck gC ?_;try simp only [W,EE,reduceIte,Nat.reduceAdd,Nat.reduceLeDiff,hS.var 0 rfl]
   refine CB h fun Fp QD h=> ?_;obtain ⟨Ez,FE,EW,ET⟩:=Fp;try dsimp only at h
   refine V3 QD hS fun v22 OM v24 Nt v26 QE H hS=> ?_;try simp only [W]
   refine Cr hS rfl rfl fun acu acv H hS=> ?_;try simp only [W]
   refine Cs (a:= .agg [.int .i64 Ez.Next,.fz (Ez.Em.map Ej),v22]) (y' := .agg [.int .i64 Ez.Next,.fz (Ez.Em.map Ej),v22]) 0 hS rfl rfl rfl rfl rfl (by simp only [dD,List.all_cons,List.all_nil,OM.qu];rfl) rfl rfl fun H hS=> ?_
   try simp only [W]
   refine B_ EM ?_;refine B3 fun Lq Hk=> ?_;refine B3 fun Kx G5=> ?_;refine Ck gC ?_;try simp only [W,Nat.reduceAdd]
   refine B_ G5 ?_;refine B8 ?_;simp only [W];refine Cj h (fun hc h=> ?_) (fun hc h=> ?_)
   ·refine B3 fun SO Nh=> ?_;refine Ck gC ?_;try simp only [W,EE,Nat.reduceAdd]
    refine C5 rfl rfl rfl rfl rfl ?_;try simp only [W]
    refine Cs (a:= .agg [.int .i64 0,.nil,.nil]) (y' := .agg [.int .i64 0,.nil,.nil]) 5 hS rfl rfl rfl rfl rfl rfl rfl rfl fun H hS=> ?_
    try simp only [W]
    refine B_ Nh ?_;refine B6 ?_;refine Ca Hk ?_;refine Cg El (C2 rfl rfl (hS.var 5 rfl) rfl (C3 rfl (C3 rfl (C3 rfl rfl)))) ?_;try obtain rfl:=Option.some.inj h
    exact hP _ nr _ nr _ nr _ nr _ (((((hS.Ap 1).Ap 1).Ap 1).Ap 2).C0 10 [0,1,2,3] (by decide))
   ·refine B5 ?_;refine B_ Hk ?_;refine B3 fun QF IT=> ?_;refine Ck gC ?_;try simp only [W,EE,reduceIte,Nat.reduceAdd,Nat.reduceLeDiff,Nat.reduceBEq,hS.var 0 rfl,List.contains_cons,Nat.reduceBEq,Bool.or_self]
    refine Du (bP:=[[.sc,.sl [.sc,.sc],.sl [.sc]]]) (ys:=[.agg [.int .i64 Ez.Next,.fz (Ez.Em.map Ej),.fz (Ez.Ek.map (AV.int .i64))]]) h rfl (Dg (Db (Ax rfl (Ax rfl (Ax (Dd hS 1 rfl OM (fun _=>rfl)) (Da _))))) Df) fun Kb WG h=>⟨.agg [.int .i64 Kb.Next,.own 2 (Kb.Em.map Ej),.own 1 (Kb.Ek.map (AV.int .i64))],S9 WG (az.nil _) fun v35 ON SS Nk H hS=>Dl rfl (Dk (CU rfl (CX 0 hS rfl ON (fun _ _=>by simp [aY,aN,ck,dp,Ej]) fun H hS=>CX 0 hS rfl Nk (fun _ _=>by simp [aY,aN,dp]) fun H hS=>CT (Dh rfl)))),(Dz (Dy rfl (Dy (Dw _ (fun _=>rfl) _) (Dy (Dw _ (fun _=>rfl) _) Dx)))),?_⟩
    refine Dr ?_;refine Dq ?_;refine Dn (fun _=>rfl) ?_;refine Dp hS (fun _ _=>rfl) (fun _=>rfl) fun GV H LC hS=> ?_;refine Dp hS (fun _ _=>rfl) (fun _=>rfl) fun v40 H Ta hS=> ?_;refine Dm ?_;refine Dm ?_;try simp only [List.headD_cons]
    try simp only [W]
    refine Cs (a:= .agg [.int .i64 Kb.Next,GV,v40]) (y' := .agg [.int .i64 Kb.Next,GV,v40]) 7 hS rfl rfl rfl rfl rfl (by simp only [dD,List.all_cons,List.all_nil,LC.qu,Ta.qu];rfl) rfl rfl fun H hS=> ?_
    try simp only [W]
    refine B_ IT ?_;refine B6 ?_;refine Cg El (C2 rfl rfl (hS.var 7 rfl) rfl (C3 rfl (C3 rfl (C3 rfl rfl)))) ?_;try obtain rfl:=Option.some.inj h
    exact hP _ LC _ Ta _ Nt _ QE _ (hS.C0 8 [1,0,4,5] (by decide))
theorem Tb {a0:ED} {i0:Nat} {w0:Nat} {r:(Et×ED)} (h:Lb a0=some r) {F:List It} {H:J} (hS:az H (⟨.ptr i0 w0 0 0,3,[.agg [.fz (a0.Code.map (AV.int .u8)),.int .i64 a0.At,.int .u64 a0.ES]]⟩::F)) {P:AV→J→Prop} (hP: ∀v145:AV,bA v145→ ∀QH:AV,bA QH→ ∀H',az H' (⟨v145,2,r.1.Em.map Ej⟩::⟨QH,1,r.1.Ek.map (AV.int .i64)⟩::⟨.ptr i0 w0 0 0,3,[.agg [.fz (r.2.Code.map (AV.int .u8)),.int .i64 r.2.At,.int .u64 r.2.ES]]⟩::F)→P (.agg [.int .i64 r.1.Next,v145,QH]) H'):aq C 65 [.ptr i0 w0 0 0] H P:=by
 refine Cn gC (res:=[.cell 2 26]) (n:=63) rfl rfl rfl rfl fun K0 El=> ?_;simp only [W,Nat.reduceSub,Nat.reduceAdd,List.replicate];unfold Lb at h;refine B3 fun K1 Er=> ?_;refine Ck gC ?_;try simp only [W,Nat.reduceAdd]
 refine Cr hS rfl rfl fun Eo Ep H hS=> ?_;try simp only [W]
 refine B_ Er ?_;refine B3 fun K4 EC=> ?_;refine Ck gC ?_;try simp only [W,Nat.reduceAdd]
 refine CB h fun Hs QI h=> ?_;obtain ⟨Fi,EA⟩:=Hs;try dsimp only at h
 refine HA QI (hS.C0 2 [1,0] (by decide)) fun H hS=> ?_
 try simp only [W]
 refine B_ EC ?_;refine B3 fun K8 EK=> ?_;refine Ck gC ?_;try simp only [W,Nat.reduceAdd]
 refine CB h fun E1 Ji h=> ?_;obtain ⟨FI,HM⟩:=E1;try dsimp only at h
 refine Sm Ji hS fun v12 JS JU Lu H hS=> ?_;try simp only [W]
 refine Cr hS rfl rfl fun Gq Gr H hS=> ?_;try simp only [W]
 refine Cs (a:= .agg [.int .i64 FI.Next,v12,JU]) (y' := .agg [.int .i64 FI.Next,v12,JU]) 0 hS rfl rfl rfl rfl rfl (by simp only [dD,List.all_cons,List.all_nil,JS.qu,Lu.qu];rfl) rfl rfl fun H hS=> ?_
 try simp only [W]
 refine B_ EK ?_;refine B3 fun GR Fa=> ?_;refine B3 fun GI E9=> ?_;refine Ck gC ?_;try simp only [W,Nat.reduceAdd]
 refine CB h fun EW Ip h=> ?_;obtain ⟨ET,GQ⟩:=EW;try dsimp only at h
 refine Sq Ip (hS.C0 5 [3,0,1,2,4] (by decide)) fun v23 Hl H hS=> ?_
 try simp only [W,EE]
 refine Cy 0 hS rfl Hl rfl ?_;try simp only [W]
 refine B_ E9 ?_;obtain ⟨PY,WH,WI⟩:=Option.bind_eq_some_iff.1 h;refine CG gC (fun s H=> ∃F1:List Int,∃Ga:Int,∃FV:Int,∃F2:Int,∃FG:List Span,∃FC:List Int,PY=(F1,Ga,FV,F2,FG,FC)∧ ∃v41:AV,bA v41∧ ∃JW:AV,bA JW∧s=(.ptr i0 w0 0 0::u:: .ptr Eo Ep 0 0::u:: .ptr Gq Gr 0 0::u::u::u::u::u::u::u::u::u::u::u::u::u::u::u::u::u::u::u::u::u::u::u::u::u::u::u::u::u::u::u::u::u::u::u::u::u::u::u::u::u::u::u::u::u::u::u::u::u::u::u::u::u::u::u::u::u::u::[])∧az H (⟨v41,2,FG.map Ej⟩::⟨JW,1,FC.map (AV.int .i64)⟩::⟨.ptr i0 w0 0 0,3,[.agg [.fz (F1.map (AV.int .u8)),.int .i64 Ga,.int .u64 FV]]⟩::⟨.ptr Eo Ep 0 0,3,[.agg [.int .i64 0,.nil,.nil]]⟩::⟨.ptr Gq Gr 0 0,3,[.agg [.int .i64 F2,v41,JW]]⟩::F)) (fun PZ IG=> ?_) (fun s H hq=> ?_)
 ·refine B4 fun P0 JP=> ?_;refine CC gC WH (fun x s H=>match x with|(FN,GN,Hw,Fg,FU,FF,FQ)=> ∃v31:AV,bA v31∧ ∃Ky:AV,bA Ky∧s=(.ptr i0 w0 0 0::u:: .ptr Eo Ep 0 0:: .int .i64 Fi:: .ptr Gq Gr 0 0::u::u::u::u::u::u::u::u::u::u::u::u::u::u::u::u::v23:: .int .i64 (ET.length:Int):: .int .i64 FN::u::u::u::u::u::u::u::u::u::u::u::u::u::u::u::u::u::u::u::u::u::u::u::u::u::u::u::u::u::u::u::u::u::u::u::u::u::u::u::[])∧az H (⟨v23,1,ET.map (AV.int .i64)⟩::⟨v31,2,FF.map Ej⟩::⟨Ky,1,FQ.map (AV.int .i64)⟩::⟨.ptr i0 w0 0 0,3,[.agg [.fz (GN.map (AV.int .u8)),.int .i64 Hw,.int .u64 Fg]]⟩::⟨.ptr Eo Ep 0 0,3,[.agg [.int .i64 0,.nil,.nil]]⟩::⟨.ptr Gq Gr 0 0,3,[.agg [.int .i64 FU,v31,Ky]]⟩::F)) ⟨_,JS,_,Lu,rfl,(hS.C0 6 [0,3,4,1,5,2] (by decide))⟩ (fun x y50 s H h WJ hi WK OO=> ?_)
  obtain ⟨FN,GN,Hw,Fg,FU,FF,FQ⟩:=x;try dsimp only at hi
  obtain ⟨v31,LD,Ky,Lt,rfl,hS⟩:=hi;simp only [PH] at h;refine B3 fun OP Jj=> ?_;refine Ck gC ?_;try simp only [W,EE,Nat.reduceAdd]
  refine B_ Jj ?_;refine B3 fun WL OQ=> ?_;refine B8 ?_;simp only [W];refine Cj h (fun hc h=> ?_) (fun hc h=> ?_)
  ·refine B5 ?_;refine B_ OQ ?_;refine B3 fun WM QJ=> ?_;obtain ⟨WN,h,WO⟩:=Option.bind_eq_some_iff.1 h;refine CG gC (fun s H=> ∃He:List Int,∃GF:Int,∃Mj:Int,∃Mk:Int,∃Ft:List Span,∃Ff:List Int,WN=(He,GF,Mj,Mk,Ft,Ff)∧ ∃Iq:AV,bA Iq∧ ∃v64:AV,bA v64∧s=(.ptr i0 w0 0 0::u:: .ptr Eo Ep 0 0:: .int .i64 Fi:: .ptr Gq Gr 0 0::u::u::u::u::u::u::u::u::u::u::u::u::u::u::u::u::v23:: .int .i64 (ET.length:Int):: .int .i64 FN::u::u::u::u::u::u::u::u::u::u::u::u::u::u::u::u::u::u::u::u::u::u::u::u::u::u::u::u::u::u::u::u::u::u::u::u::u::u::u::[])∧az H (⟨v23,1,ET.map (AV.int .i64)⟩::⟨Iq,2,Ft.map Ej⟩::⟨v64,1,Ff.map (AV.int .i64)⟩::⟨.ptr i0 w0 0 0,3,[.agg [.fz (He.map (AV.int .u8)),.int .i64 GF,.int .u64 Mj]]⟩::⟨.ptr Eo Ep 0 0,3,[.agg [.int .i64 0,.nil,.nil]]⟩::⟨.ptr Gq Gr 0 0,3,[.agg [.int .i64 Mk,Iq,v64]]⟩::F)) (fun Tc Jk=> ?_) (fun s H hq=> ?_)
   ·refine B4 fun Oq HD=> ?_;refine B3 fun Qu KB=> ?_;refine Ck gC ?_;try simp only [W,EE,Nat.reduceAdd]
    refine Cv 0 hS rfl rfl rfl rfl rfl h (fun GP acw acx acy WQ h WR=> ?_) Hl.ne;obtain ⟨acz,WS,WT⟩:=hS.elem 0 rfl WR WQ;try simp only [W,EE,WS,WT]
    refine B_ KB ?_;refine B3 fun Sr II=> ?_;refine B3 fun Ss IJ=> ?_;obtain ⟨WU,h,WV⟩:=Option.bind_eq_some_iff.1 h;refine CG gC (fun s H=> ∃Fk:Bool,∃Gl:List Int,∃Kd:Int,∃Ke:Int,WU=(Fk,Gl,Kd,Ke)∧s=(.ptr i0 w0 0 0::u:: .ptr Eo Ep 0 0:: .int .i64 Fi:: .ptr Gq Gr 0 0::u::u:: .int .i64 GP::u::u::u::u::u::u::u::u::u::u::u::u::u::v23:: .int .i64 (ET.length:Int):: .int .i64 FN::u::u::u::u::u::u::u::u::u::u::u::u::u:: .bool Fk::u::u::u::u::u::u::u::u::u::u::u::u::u::u::u::u::u::u::u::u::u::u::u::u::u::[])∧az H (⟨v23,1,ET.map (AV.int .i64)⟩::⟨v31,2,FF.map Ej⟩::⟨Ky,1,FQ.map (AV.int .i64)⟩::⟨.ptr i0 w0 0 0,3,[.agg [.fz (Gl.map (AV.int .u8)),.int .i64 Kd,.int .u64 Ke]]⟩::⟨.ptr Eo Ep 0 0,3,[.agg [.int .i64 0,.nil,.nil]]⟩::⟨.ptr Gq Gr 0 0,3,[.agg [.int .i64 FU,v31,Ky]]⟩::F)) (fun WW Nu=> ?_) (fun s H hq=> ?_)
    ·refine B3 fun K81 QK=> ?_;refine Ck gC ?_;try simp only [W,Nat.reduceAdd]
     refine CB h fun Ja WX h=> ?_;obtain ⟨Kc,ID⟩:=Ja;try dsimp only at h
     refine Jb WX (hS.C0 6 [3,0,1,2,4,5] (by decide)) fun H hS=> ?_
     try simp only [W]
     refine C4 h (fun hc h=> ?_) (fun hc h=> ?_)
     ·try simp only [W,hc]
      refine B_ QK ?_;refine DP (s' :=(.ptr i0 w0 0 0::u:: .ptr Eo Ep 0 0:: .int .i64 Fi:: .ptr Gq Gr 0 0::u::u:: .int .i64 GP::u::u::u::u::u::u::u::u::u::u::u::u::u::v23:: .int .i64 (ET.length:Int):: .int .i64 FN::u::u::u::u::u::u::u::u::u::u::u::u::u:: .bool true::u::u::u::u::u::u::u::u::u::u::u::u::u::u::u::u::u::u::u::u::u::u::u::u::u::[])) rfl ?_
      exact CH Nu ⟨_,_,_,_,(Option.some.inj h).symm,rfl,(hS.C0 6 [1,2,3,0,4,5] (by decide))⟩
     ·try simp only [W,EE,reduceIte,Bool.false_eq_true,hc]
      refine C4 h (fun hc h=> ?_) (fun hc h=> ?_)
      ·try simp only [W,hc]
       refine B_ QK ?_;refine DP (s' :=(.ptr i0 w0 0 0::u:: .ptr Eo Ep 0 0:: .int .i64 Fi:: .ptr Gq Gr 0 0::u::u:: .int .i64 GP::u::u::u::u::u::u::u::u::u::u::u::u::u::v23:: .int .i64 (ET.length:Int):: .int .i64 FN::u::u::u::u::u::u::u::u::u::u::u::u::u:: .bool true::u::u::u::u::u::u::u::u::u::u::u::u::u::u::u::u::u::u::u::u::u::u::u::u::u::[])) rfl ?_
       exact CH Nu ⟨_,_,_,_,(Option.some.inj h).symm,rfl,(hS.C0 6 [1,2,3,0,4,5] (by decide))⟩
      ·try simp only [W,EE,reduceIte,Bool.false_eq_true,hc]
       refine B_ QK ?_;refine DP (s' :=(.ptr i0 w0 0 0::u:: .ptr Eo Ep 0 0:: .int .i64 Fi:: .ptr Gq Gr 0 0::u::u:: .int .i64 GP::u::u::u::u::u::u::u::u::u::u::u::u::u::v23:: .int .i64 (ET.length:Int):: .int .i64 FN::u::u::u::u::u::u::u::u::u::u::u::u::u:: .bool (decide (Fi≤GP))::u::u::u::u::u::u::u::u::u::u::u::u::u::u::u::u::u::u::u::u::u::u::u::u::u::[])) rfl ?_
       exact CH Nu ⟨_,_,_,_,(Option.some.inj h).symm,rfl,(hS.C0 6 [1,2,3,0,4,5] (by decide))⟩
    ·obtain ⟨Fk,Gl,Kd,Ke,rfl,rfl,hS⟩:=hq;replace h:=WV;try dsimp only at h
     refine B_ IJ ?_;refine B8 ?_;simp only [W];refine Cj h (fun hc h=> ?_) (fun hc h=> ?_)
     ·refine B7 ?_;refine Cb II ?_;refine Ce HD ?_;exact CH Jk ⟨_,_,_,_,_,_,(Option.some.inj h).symm,_,LD,_,Lt,rfl,hS⟩
     ·refine B5 ?_;refine B_ II ?_;refine B3 fun Ov IL=> ?_;refine Ck gC ?_;try simp only [W,EE,reduceIte,Nat.reduceAdd,Nat.reduceLeDiff,Nat.reduceBEq,hS.var 5 rfl,List.contains_cons,Nat.reduceBEq,Bool.or_self]
      refine C5 rfl rfl rfl rfl rfl ?_;try simp only [W]
      refine CA (el:=([(⟨GP,(IntKind.i64.wrap (GP+1))⟩:Span)]:List Span).map Ej) hS rfl rfl rfl rfl rfl rfl rfl fun v86 H WY hS=> ?_;try simp only [W]
      refine Du (bP:=[[.sc,.sl [.sc,.sc],.sl [.sc]],[.sl [.sc]],[.sl [.sc]],[.sc]]) (ys:=[.agg [.int .i64 FU,.fz (FF.map Ej),.fz (FQ.map (AV.int .i64))],.fz (([(⟨GP,(IntKind.i64.wrap (GP+1))⟩:Span)]:List Span).map Ej)]) h rfl (Dg (Db (Ax rfl (Ax (Dd hS 2 rfl LD (fun _=>rfl)) (Ax (Dd hS 3 rfl Lt (fun _=>rfl)) (Da _))))) (Dg (Dd hS 0 rfl WY (fun _=>rfl)) Df)) fun Gw OR h=>⟨.ay [.agg [.int .i64 Gw.1.Next,.own 2 (Gw.1.Em.map Ej),.own 1 (Gw.1.Ek.map (AV.int .i64))],.own 1 (Gw.2.1.map (AV.int .i64)),.own 1 (Gw.2.2.1.map (AV.int .i64)),.bool Gw.2.2.2],S_ OR (az.nil _) fun v93 WZ v94 W0 Np QB v96 W1 H hS=>Dl rfl (Dk (CU rfl (CX 0 hS rfl WZ (fun _ _=>by simp [aY,aN,ck,dp,Ej]) fun H hS=>CX 0 hS rfl W0 (fun _ _=>by simp [aY,aN,dp]) fun H hS=>CT (Dj 0 hS rfl QB (fun _ _=>by simp [aY,aN,dp]) fun H hS=>Dj 0 hS rfl W1 (fun _ _=>by simp [aY,aN,dp]) fun H hS=>Di rfl (Dh rfl))))),(DA (Dy (Dz (Dy rfl (Dy (Dw _ (fun _=>rfl) _) (Dy (Dw _ (fun _=>rfl) _) Dx)))) (Dy (Dw _ (fun _=>rfl) _) (Dy (Dw _ (fun _=>rfl) _) (Dy rfl Dx))))),?_⟩
      refine Ds ?_;refine Dq ?_;refine Dn (fun _=>rfl) ?_;refine Dp hS (fun _ _=>rfl) (fun _=>rfl) fun Jh H Ns hS=> ?_;refine Dp hS (fun _ _=>rfl) (fun _=>rfl) fun OS H QL hS=> ?_;refine Dm ?_;refine Dp hS (fun _ _=>rfl) (fun _=>rfl) fun acA H acB hS=> ?_;refine Dp hS (fun _ _=>rfl) (fun _=>rfl) fun acC H acD hS=> ?_;refine Dn (fun _=>rfl) ?_;refine Dm ?_;try simp only [List.headD_cons]
      obtain ⟨H4,b90,Sy,LU⟩:=Gw;try dsimp only at h
      try simp only [W]
      refine Cr hS rfl rfl fun acE acF H hS=> ?_;try simp only [W]
      refine Cs (a:= .agg [.int .i64 H4.Next,Jh,OS]) (y' := .agg [.int .i64 H4.Next,Jh,OS]) 0 hS rfl rfl rfl rfl rfl (by simp only [dD,List.all_cons,List.all_nil,Ns.qu,QL.qu];rfl) rfl rfl fun H hS=> ?_
      try simp only [W]
      refine B_ IL ?_;refine B3 fun Vs P5=> ?_;refine Ck gC ?_;try simp only [W,Nat.reduceAdd]
      refine B_ P5 ?_;obtain ⟨Td,h,OT⟩:=Option.bind_eq_some_iff.1 h;refine CG gC (fun s H=> ∃IE:Int,∃H_:List Span,∃HK:List Int,Td=(IE,H_,HK)∧ ∃OU:AV,bA OU∧ ∃OV:AV,bA OV∧s=(.ptr i0 w0 0 0::u:: .ptr Eo Ep 0 0:: .int .i64 Fi:: .ptr Gq Gr 0 0::u::u::u::u::u::u::u::u::u::u::u::u::u::u::u::u::v23:: .int .i64 (ET.length:Int):: .int .i64 FN::u::u::u::u::u::u::u::u::u::u::u::u::u::u::u::u::u::u::u::u::u::u::u::u::u::u::u::u::u::u::u::u::u::u::u::u::u::u::u::[])∧az H (⟨v23,1,ET.map (AV.int .i64)⟩::⟨OU,2,H_.map Ej⟩::⟨OV,1,HK.map (AV.int .i64)⟩::⟨.ptr i0 w0 0 0,3,[.agg [.fz (Gl.map (AV.int .u8)),.int .i64 Kd,.int .u64 Ke]]⟩::⟨.ptr Eo Ep 0 0,3,[.agg [.int .i64 0,.nil,.nil]]⟩::⟨.ptr Gq Gr 0 0,3,[.agg [.int .i64 IE,OU,OV]]⟩::F)) (fun Te LF=> ?_) (fun s H hq=> ?_)
      ·refine B3 fun W2 Nv=> ?_;refine B8 ?_;simp only [W];refine Cj h (fun hc h=> ?_) (fun hc h=> ?_)
       ·refine Ck gC ?_;try simp only [W,EE,reduceIte,Nat.reduceAdd,Nat.reduceLeDiff,hS.var 0 rfl]
        refine Cs (a:= .agg [.int .i64 H4.Next,Jh,OS]) (y' := .agg [.int .i64 H4.Next,Jh,OS]) 11 hS rfl rfl rfl rfl rfl (by simp only [dD,List.all_cons,List.all_nil,Ns.qu,QL.qu];rfl) rfl rfl fun H hS=> ?_
        try simp only [W]
        refine B_ Nv ?_;refine DP (s' :=(.ptr i0 w0 0 0::u:: .ptr Eo Ep 0 0:: .int .i64 Fi:: .ptr Gq Gr 0 0::u::u::u::u::u::u::u::u::u::u::u::u::u::u::u::u::v23:: .int .i64 (ET.length:Int):: .int .i64 FN::u::u::u::u::u::u::u::u::u::u::u::u::u::u::u::u::u::u::u::u::u::u::u::u::u::u::u::u::u::u::u::u::u::u::u::u::u::u::u::[])) rfl ?_
        exact CH LF ⟨_,_,_,(Option.some.inj h).symm,_,Ns,_,QL,rfl,(hS.C0 12 [6,4,3,9,10,11] (by decide))⟩
       ·refine B5 ?_;refine B_ Nv ?_;refine DP (s' :=(.ptr i0 w0 0 0::u:: .ptr Eo Ep 0 0:: .int .i64 Fi:: .ptr Gq Gr 0 0::u::u::u::u::u::u::u::u::u::u::u::u::u::u::u::u::v23:: .int .i64 (ET.length:Int):: .int .i64 FN::u::u::u::u::u::u::u::u::u::u::u::u::u::u::u::u::u::u::u::u::u::u::u::u::u::u::u::u::u::u::u::u::u::u::u::u::u::u::u::[])) rfl ?_
        exact CH LF ⟨_,_,_,(Option.some.inj h).symm,_,LD,_,Lt,rfl,(hS.C0 12 [6,7,8,9,10,11] (by decide))⟩
      ·obtain ⟨IE,H_,HK,rfl,OU,W3,OV,W4,rfl,hS⟩:=hq;replace h:=OT;try dsimp only at h
       refine Cc HD ?_;exact CH Jk ⟨_,_,_,_,_,_,(Option.some.inj h).symm,_,W3,_,W4,rfl,hS⟩
   ·obtain ⟨He,GF,Mj,Mk,Ft,Ff,rfl,Iq,KE,v64,W5,rfl,hS⟩:=hq;replace h:=WO;try dsimp only at h
    refine B_ QJ ?_;refine Ck gC ?_;try simp only [W,EE,Nat.reduceAdd]
    exact CD OO h ⟨_,KE,_,W5,rfl,hS⟩
  ·refine B7 ?_;refine Cb OQ ?_;try obtain rfl:=Option.some.inj h
   obtain rfl:=WJ _ rfl;have h:(some (GN,Hw,Fg,FU,FF,FQ):Option ((List Int)×Int×Int×Int×(List Span)×(List Int)))=some (GN,Hw,Fg,FU,FF,FQ):=rfl;refine CE OO ?_;refine Ce JP ?_;exact CH IG ⟨_,_,_,_,_,_,(Option.some.inj h).symm,_,LD,_,Lt,rfl,(hS.C0 6 [1,2,3,4,5] (by decide))⟩
 ·obtain ⟨F1,Ga,FV,F2,FG,FC,rfl,v41,KF,JW,OW,rfl,hS⟩:=hq;replace h:=WI;try dsimp only at h
  refine B_ Fa ?_;refine B3 fun S4 Lz=> ?_;refine B3 fun S5 LA=> ?_;refine Ck gC ?_;try simp only [W,Nat.reduceAdd]
  refine CB h fun W6 W7 h=> ?_;obtain ⟨Kf,I2⟩:=W6;try dsimp only at h
  refine Jb W7 (hS.C0 5 [2,0,1,3,4] (by decide)) fun H hS=> ?_
  try simp only [W]
  refine B_ LA ?_;obtain ⟨W8,h,W9⟩:=Option.bind_eq_some_iff.1 h;refine CG gC (fun s H=> ∃Ml:List Int,∃Ic:Int,∃Mm:Int,∃Ib:List Int,W8=(Ml,Ic,Mm,Ib)∧ ∃v130:AV,bA v130∧s=(u::u:: .ptr Eo Ep 0 0::u:: .ptr Gq Gr 0 0::u::u::u::u::u::u::u::u::u::u::u::u::u::u::u::u::u::u::u::u::u::u::u::u::u::u::u::u::u::u::u::u::u::u::u::u::u::u::u::u::u::u::u::u::u::u::u::u::u::u::u::u::u::u::u::u::u::u::[])∧az H (⟨v41,2,FG.map Ej⟩::⟨v130,1,Ib.map (AV.int .i64)⟩::⟨.ptr i0 w0 0 0,3,[.agg [.fz (Ml.map (AV.int .u8)),.int .i64 Ic,.int .u64 Mm]]⟩::⟨.ptr Eo Ep 0 0,3,[.agg [.int .i64 0,.nil,.nil]]⟩::⟨.ptr Gq Gr 0 0,3,[.agg [.int .i64 F2,v41,v130]]⟩::F)) (fun acG Tf=> ?_) (fun s H hq=> ?_)
  ·refine B3 fun W_ OX=> ?_;refine B8 ?_;simp only [W];refine Cj h (fun hc h=> ?_) (fun hc h=> ?_)
   ·refine C6 gC [(3,[0,1]),(5,[]),(7,[])] (by kernel_rfl) rfl (by kernel_rfl) ?_
    try simp only [W,EE,reduceIte,Nat.reduceAdd,Nat.reduceBEq,hS.var 4 rfl,iV,lG,Nat.reduceEqDiff]
    refine CB h fun QM QN h=> ?_;obtain ⟨Hf,I3⟩:=QM;try dsimp only at h
    refine HA QN hS fun H hS=> ?_;refine C7 ?_;refine C8 (by first|rfl|(simp [gR,aP,W,EE,hS.var 4 rfl];done)|exact DE 1 hS rfl KF rfl rfl rfl rfl rfl|exact DE 2 hS rfl OW rfl rfl rfl rfl rfl) ?_
    refine C8 (by first|rfl|(simp [gR,aP,W,EE,bT,jG,aD,AV.cells,hS.var 4 rfl];done)|exact DE 1 hS rfl KF rfl rfl rfl rfl rfl|exact DE 2 hS rfl OW rfl rfl rfl rfl rfl) ?_
    refine C9 ?_;try simp only [W]
    refine CA (el:=([Hf]:List Int).map (AV.int .i64)) hS rfl rfl rfl rfl rfl rfl rfl fun v139 H Xa hS=> ?_;try simp only [W,EE]
    refine CP (l:=FC) (c:=(AV.int .i64)) 3 hS rfl OW rfl rfl rfl (hS.il 0 rfl Xa) (fun _=>rfl) rfl h fun Tg H RO OY hm h hS=> ?_;try simp only [W,EE,Nat.reduceAdd,Nat.reduceBEq,hS.var 5 rfl]
    refine Cs (a:=Tg) (y' := .agg [.int .i64 F2,v41,Tg]) 5 hS rfl rfl rfl rfl (by rw [OY.cells];rfl) OY.Cx (OY.wr _ _ (by simp)) rfl fun H hS=> ?_
    try simp only [W]
    refine B_ OX ?_;refine DP (s' :=(u::u:: .ptr Eo Ep 0 0::u:: .ptr Gq Gr 0 0::u::u::u::u::u::u::u::u::u::u::u::u::u::u::u::u::u::u::u::u::u::u::u::u::u::u::u::u::u::u::u::u::u::u::u::u::u::u::u::u::u::u::u::u::u::u::u::u::u::u::u::u::u::u::u::u::u::u::[])) rfl ?_
    exact CH Tf ⟨_,_,_,_,(Option.some.inj h).symm,_,OY,rfl,(hS.C0 6 [2,3,1,4,5] (by decide))⟩
   ·refine B5 ?_;refine B_ OX ?_;refine DP (s' :=(u::u:: .ptr Eo Ep 0 0::u:: .ptr Gq Gr 0 0::u::u::u::u::u::u::u::u::u::u::u::u::u::u::u::u::u::u::u::u::u::u::u::u::u::u::u::u::u::u::u::u::u::u::u::u::u::u::u::u::u::u::u::u::u::u::u::u::u::u::u::u::u::u::u::u::u::u::[])) rfl ?_
    exact CH Tf ⟨_,_,_,_,(Option.some.inj h).symm,_,OW,rfl,(hS.C0 5 [1,2,0,3,4] (by decide))⟩
  ·obtain ⟨Ml,Ic,Mm,Ib,rfl,v130,Oz,rfl,hS⟩:=hq;replace h:=W9;try dsimp only at h
   refine B_ Lz ?_;refine B3 fun acH Xb=> ?_;refine Ck gC ?_;try simp only [W,EE,reduceIte,Nat.reduceAdd,Nat.reduceLeDiff,hS.var 4 rfl]
   refine Cs (a:= .agg [.int .i64 F2,v41,v130]) (y' := .agg [.int .i64 F2,v41,v130]) 3 hS rfl rfl rfl rfl rfl (by simp only [dD,List.all_cons,List.all_nil,KF.qu,Oz.qu];rfl) rfl rfl fun H hS=> ?_
   try simp only [W]
   refine B_ Xb ?_;refine B6 ?_;refine Cg El (C2 rfl rfl (hS.var 3 rfl) rfl rfl) ?_;try obtain rfl:=Option.some.inj h
   exact hP _ KF _ Oz _ (hS.C0 5 [0,1,2] (by decide))
theorem Xc {a0:List Int} {a1:Int} {r:(Bool)} (h:Mo a0 a1=some r) {F:List It} {H:J} (hS:az H (F)) {P:AV→J→Prop} (hP: ∀H',az H' (F)→P (.bool r) H'):aq C 134 [.fz (a0.map (AV.int .i64)),.int .i64 a1] H P:=by
 refine Cn gC (res:=[.tmp 4]) (n:=27) rfl rfl rfl rfl fun K0 El=> ?_;simp only [W,Nat.reduceSub,Nat.reduceAdd,List.replicate];unfold Mo at h;refine B3 fun K1 Er=> ?_;refine Ck gC ?_;try simp only [W,Nat.reduceAdd]
 refine B_ Er ?_;refine B3 fun K2 zU=> ?_;refine B3 fun K3 EJ=> ?_;refine Ck gC ?_;try simp only [W,EE,Nat.reduceAdd]
 refine B_ EJ ?_;obtain ⟨Gp,GJ,g12⟩:=Option.bind_eq_some_iff.1 h;refine CG gC (fun s H=>Gp=LR.next ()∧s=[u,u,u,u,u,u,u,u,u,u,u,u,u,u,u,u,u,u,u,u,u,u,u,u,u,u,u]∧az H (F)) (fun K7 EI=> ?_) (fun s H hq=> ?_)
 ·refine B4 fun K8 EK=> ?_;refine CC gC GJ (fun x s H=>s=[.fz (a0.map (AV.int .i64)),.int .i64 a1,u,u,u,u,u,.fz (a0.map (AV.int .i64)),.int .i64 (a0.length:Int),.int .i64 x,u,u,u,u,u,u,u,u,u,u,u,u,u,u,u,u,u]∧az H (F)) ⟨rfl,hS⟩ (fun Ey HV s H h FP hi K9 EL=> ?_)
  skip
  try dsimp only at hi
  obtain ⟨rfl,hS⟩:=hi;simp only [Mn] at h;refine B3 fun Hi Fz=> ?_;refine Ck gC ?_;try simp only [W,EE,Nat.reduceAdd]
  refine B_ Fz ?_;refine B3 fun G4 E8=> ?_;refine B8 ?_;simp only [W];refine Cj h (fun hc h=> ?_) (fun hc h=> ?_)
  ·refine B5 ?_;refine B_ E8 ?_;refine B3 fun Gm EP=> ?_;refine B4 fun Gc EM=> ?_;refine B3 fun Gd EQ=> ?_;refine Ck gC ?_;try simp only [W,EE,Nat.reduceAdd]
   refine Cu rfl rfl rfl (fun _=>rfl) h fun Ez Ku h=> ?_;try simp only [W,EE]
   refine B_ EQ ?_;refine B3 fun GI E9=> ?_;obtain ⟨Lp,h,g22⟩:=Option.bind_eq_some_iff.1 h;refine CG gC (fun s H=> ∃Gh:Bool,Lp=(Gh)∧s=[.fz (a0.map (AV.int .i64)),.int .i64 a1,u,u,u,u,u,.fz (a0.map (AV.int .i64)),.int .i64 (a0.length:Int),.int .i64 Ey,u,u,u,u,u,u,u,u,u,u,u,u,u,u,u,.bool Gh,u]∧az H (F)) (fun IM FW=> ?_) (fun s H hq=> ?_)
   ·refine B3 fun Hj Fu=> ?_;refine Ck gC ?_;try simp only [W,EE,Nat.reduceAdd]
    refine CB h fun GD OA h=> ?_;refine Ol OA hS fun H hS=> ?_;try simp only [W]
    refine C4 h (fun hc h=> ?_) (fun hc h=> ?_)
    ·try simp only [W,hc]
     refine B_ Fu ?_;refine B9 ?_;exact CH FW ⟨_,(Option.some.inj h).symm,rfl,hS⟩
    ·try simp only [W,EE,hc]
     refine CN rfl rfl rfl (fun _=>rfl) h fun GN acI h=> ?_;try simp only [W]
     refine CB h fun KW P6 h=> ?_;refine Ql P6 hS fun H hS=> ?_;try simp only [W,reduceIte,Bool.false_eq_true]
     refine B_ Fu ?_;refine B9 ?_;exact CH FW ⟨_,(Option.some.inj h).symm,rfl,hS⟩
   ·obtain ⟨Gh,Es,rfl,hS⟩:=hq;obtain rfl:=Es.symm;replace h:=g22;try dsimp only at h
    refine B_ E9 ?_;refine B8 ?_;simp only [W];refine Cj h (fun hc h=> ?_) (fun hc h=> ?_)
    ·refine B3 fun Il FD=> ?_;refine Ck gC ?_;try simp only [W,Nat.reduceAdd]
     refine B_ FD ?_;refine B6 ?_;refine Cf EM ?_;refine Ca EP ?_;try obtain rfl:=Option.some.inj h
     obtain rfl:=FP _ rfl;have h:(some (LR.done false):Option (LR Unit (Bool)))=some (LR.done false):=rfl;refine CF EL ?_;refine Cf EK ?_;try obtain rfl:=Option.some.inj h
     obtain rfl:=Option.some.inj g12;have h:(some false:Option (Bool))=some false:=rfl;refine CI EI ?_;refine Ca zU ?_;refine Ch El rfl ?_;try obtain rfl:=Option.some.inj h
     exact hP _ hS
    ·refine B5 ?_;refine Cd EM ?_;refine B_ EP ?_;refine Ck gC ?_;try simp only [W,EE,Nat.reduceAdd]
     exact CD EL h ⟨rfl,hS⟩
  ·refine B7 ?_;refine Cb E8 ?_;try obtain rfl:=Option.some.inj h
   obtain rfl:=FP _ rfl;have h:(some (LR.next ()):Option (LR Unit (Bool)))=some (LR.next ()):=rfl
   refine CE EL ?_;refine Ce EK ?_;exact CH EI ⟨(Option.some.inj h).symm,rfl,hS⟩
 ·obtain ⟨rfl,rfl,hS⟩:=hq;replace h:=g12;try dsimp only at h
  refine B_ zU ?_;refine B3 fun OZ Hm=> ?_;refine Ck gC ?_;try simp only [W,Nat.reduceAdd]
  refine B_ Hm ?_;refine B6 ?_;refine Ch El rfl ?_;try obtain rfl:=Option.some.inj h
  exact hP _ hS
theorem Xd {a0:List Span} {r:(List Span×Bool)} (h:Mp a0=some r) {F:List It} {H:J} (hS:az H (F)) {P:AV→J→Prop} (hP: ∀H',az H' (F)→P (.ay [.fz (r.1.map Ej),.bool r.2]) H'):aq C 136 [.fz (a0.map Ej)] H P:=by
 refine Cn gC (res:=[.tmp 2,.tmp 3]) (n:=8) rfl rfl rfl rfl fun K0 El=> ?_;simp only [W,Nat.reduceSub,Nat.reduceAdd,List.replicate];unfold Mp at h;refine B3 fun K1 Er=> ?_;refine Ck gC ?_;try simp only [W,Nat.reduceAdd]
 refine B_ Er ?_;refine B3 fun K2 zU=> ?_;refine B3 fun K3 EJ=> ?_;refine Ck gC ?_;try simp only [W,EE,Nat.reduceAdd]
 refine B_ EJ ?_;refine B8 ?_;simp only [W];refine Cj h (fun hc h=> ?_) (fun hc h=> ?_)
 ·refine B3 fun K4 EC=> ?_;refine B3 fun K5 EZ=> ?_;refine Ck gC ?_;try simp only [W,Nat.reduceAdd]
  refine B_ EZ ?_;refine CZ ?_;refine CS rfl ?_;simp only [W];refine B_ EC ?_;refine B6 ?_;refine Ca zU ?_;refine Ci El rfl rfl ?_;try obtain rfl:=Option.some.inj h
  exact hP _ hS
 ·refine B5 ?_;refine B_ zU ?_;refine B3 fun K6 E6=> ?_;refine Ck gC ?_;try simp only [W,Nat.reduceAdd]
  refine B_ E6 ?_;refine B6 ?_;refine Ci El rfl rfl ?_;try obtain rfl:=Option.some.inj h
  exact hP _ hS
theorem Xe {a0:List Int} {r:(List Span×Bool)} (h:Mq a0=some r) {F:List It} {H:J} (hS:az H (F)) {P:AV→J→Prop} (hP: ∀H',az H' (F)→P (.ay [.fz (r.1.map Ej),.bool r.2]) H'):aq C 66 [.fz (a0.map (AV.int .i64))] H P:=by
 refine Cn gC (res:=[.tmp 2,.tmp 3]) (n:=27) rfl rfl rfl rfl fun K0 El=> ?_;simp only [W,Nat.reduceSub,Nat.reduceAdd,List.replicate];unfold Mq at h;refine B3 fun K1 Er=> ?_;refine Ck gC ?_;try simp only [W,Nat.reduceAdd]
 refine B_ Er ?_;refine B3 fun K2 zU=> ?_;refine B3 fun K3 EJ=> ?_;refine Ck gC ?_;try simp only [W,Nat.reduceAdd]
 refine CB h fun F7 Kw h=> ?_;refine Xc Kw hS fun H hS=> ?_;try simp only [W]
 refine B_ EJ ?_;refine B8 ?_;simp only [W];refine Cj h (fun hc h=> ?_) (fun hc h=> ?_)
 ·refine B3 fun K5 EZ=> ?_;refine B3 fun K6 E6=> ?_;refine Ck gC ?_;try simp only [W,Nat.reduceAdd]
  refine B_ E6 ?_;refine CZ ?_;refine CS rfl ?_;simp only [W];refine B_ EZ ?_;refine B6 ?_;refine Ca zU ?_;refine Ci El rfl rfl ?_;try obtain rfl:=Option.some.inj h
  exact hP _ hS
 ·refine B5 ?_;refine B_ zU ?_;refine B3 fun K7 EI=> ?_;refine Ck gC ?_;try simp only [W,Nat.reduceAdd]
  refine B_ EI ?_;refine B3 fun K8 EK=> ?_;refine B3 fun K9 EL=> ?_;refine Ck gC ?_;try simp only [W,EE,Nat.reduceAdd]
  refine B_ EL ?_;obtain ⟨Nw,QO,g23⟩:=Option.bind_eq_some_iff.1 h;refine CG gC (fun s H=> ∃E_:List Span,Nw=(E_)∧ ∃F0:AV,bA F0∧s=[u,u,u,u,F0,u,u,u,u,u,u,u,u,u,u,u,u,u,u,u,u,u,u,u,u,u,u]∧az H (⟨F0,2,E_.map Ej⟩::F)) (fun GR Fa=> ?_) (fun s H hq=> ?_)
  ·refine B4 fun GI E9=> ?_;refine CC gC QO (fun x s H=>match x with|(EB,EU)=> ∃v11:AV,bA v11∧s=[u,u,u,u,v11,u,u,u,u,u,.fz (a0.map (AV.int .i64)),.int .i64 (a0.length:Int),.int .i64 EU,u,u,u,u,u,u,u,u,u,u,u,u,u,u]∧az H (⟨v11,2,EB.map Ej⟩::F)) ⟨_,nr,rfl,(hS.Ap 2)⟩ (fun x Xf s H h QP hi HB Fv=> ?_)
   obtain ⟨EB,EU⟩:=x;try dsimp only at hi
   obtain ⟨v11,Gj,rfl,hS⟩:=hi;simp only [N2] at h;refine B3 fun Hj Fu=> ?_;refine Ck gC ?_;try simp only [W,EE,Nat.reduceAdd]
   refine B_ Fu ?_;refine B3 fun Jc FO=> ?_;refine B8 ?_;simp only [W];refine Cj h (fun hc h=> ?_) (fun hc h=> ?_)
   ·refine B5 ?_;refine B_ FO ?_;refine B3 fun HT FA=> ?_;refine B4 fun Gn E2=> ?_;refine B3 fun Il FD=> ?_;refine Ck gC ?_;try simp only [W,EE,Nat.reduceAdd]
    refine Cu rfl rfl rfl (fun _=>rfl) h fun G3 VQ h=> ?_;try simp only [W,EE]
    refine B_ FD ?_;refine Cl (fz:=[(5,[([16,4],[.sl [.sc,.sc]])])]) gC ?_;try simp only [W,EE,Nat.reduceAdd,Nat.reduceBEq]
    refine C5 rfl rfl rfl rfl rfl ?_;try simp only [W,Nat.reduceAdd]
    refine CR 0 hS rfl Gj rfl (fun _ _=>by simp [aY,aN,ck,dp,Ej]) (fun _=>rfl) fun H r6 hS=> ?_
    simp only [W,r6,if_true];try simp only [W,EE,EN,reduceIte,Nat.reduceAdd,Nat.reduceLeDiff,Nat.reduceBEq,Nat.reduceMul,Bool.false_eq_true]
    refine CB h fun GG O0 h=> ?_;refine SQ O0 hS fun v31 LD H hS=> ?_;try simp only [W,Nat.reduceAdd,Nat.reduceBEq]
    refine Cd E2 ?_;refine B_ FA ?_;refine Ck gC ?_;try simp only [W,EE,Nat.reduceAdd]
    exact CD Fv h ⟨_,LD,rfl,hS⟩
   ·refine B7 ?_;refine Cb FO ?_;try obtain rfl:=Option.some.inj h
    obtain rfl:=QP _ rfl;have h:(some (EB):Option ((List Span)))=some (EB):=rfl;refine CE Fv ?_;refine Ce E9 ?_;exact CH Fa ⟨_,(Option.some.inj h).symm,_,Gj,rfl,hS⟩
  ·obtain ⟨E_,Es,F0,KA,rfl,hS⟩:=hq;obtain rfl:=Es.symm;replace h:=g23;try dsimp only at h
   refine B_ EK ?_;refine B3 fun OZ Hm=> ?_;refine Cl (fz:=[(1,[([23,4],[.sl [.sc,.sc]])])]) gC ?_;try simp only [W,Nat.reduceAdd,Nat.reduceBEq]
   refine CR 0 hS rfl KA rfl (fun _ _=>by simp [aY,aN,ck,dp,Ej]) (fun _=>rfl) fun H r6 hS=> ?_
   simp only [W,r6,if_true];try simp only [W,EE,EN,reduceIte,Nat.reduceAdd,Nat.reduceLeDiff,Nat.reduceBEq,Nat.reduceMul,Bool.false_eq_true]
   refine CB h fun Hg Jl h=> ?_;obtain ⟨Ie,HQ⟩:=Hg;try dsimp only at h
   refine Xd Jl hS fun H hS=> ?_;try simp only [W,Nat.reduceAdd,Nat.reduceBEq]
   refine B_ Hm ?_;refine B6 ?_;refine Ci El rfl rfl ?_;try obtain rfl:=Option.some.inj h
   exact hP _ hS
theorem Xg {a0:ED} {i0:Nat} {w0:Nat} {r:(List Span×ED)} (h:Mr a0=some r) {F:List It} {H:J} (hS:az H (⟨.ptr i0 w0 0 0,3,[.agg [.fz (a0.Code.map (AV.int .u8)),.int .i64 a0.At,.int .u64 a0.ES]]⟩::F)) {P:AV→J→Prop} (hP: ∀v91:AV,bA v91→ ∀H',az H' (⟨v91,2,r.1.map Ej⟩::⟨.ptr i0 w0 0 0,3,[.agg [.fz (r.2.Code.map (AV.int .u8)),.int .i64 r.2.At,.int .u64 r.2.ES]]⟩::F)→P (v91) H'):aq C 70 [.ptr i0 w0 0 0] H P:=by
 refine Cn gC (res:=[.tmp 2]) (n:=51) rfl rfl rfl rfl fun K0 El=> ?_;simp only [W,Nat.reduceSub,Nat.reduceAdd,List.replicate];unfold Mr at h;refine B3 fun K1 Er=> ?_;refine Ck gC ?_;try simp only [W,Nat.reduceAdd]
 refine B_ Er ?_;refine B3 fun K2 zU=> ?_;refine Ck gC ?_;try simp only [W,Nat.reduceAdd]
 refine B_ zU ?_;refine B3 fun K3 EJ=> ?_;refine Ck gC ?_;try simp only [W,Nat.reduceAdd]
 refine CB h fun F7 Kw h=> ?_;obtain ⟨Hs,Fi⟩:=F7;try dsimp only at h
 refine HA Kw hS fun H hS=> ?_;try simp only [W]
 refine B_ EJ ?_;refine B3 fun K7 EI=> ?_;refine B3 fun K8 EK=> ?_;refine Ck gC ?_;try simp only [W,Nat.reduceAdd]
 refine CB h fun E1 Ji h=> ?_;obtain ⟨FI,HM⟩:=E1;try dsimp only at h
 refine Jb Ji hS fun H hS=> ?_;try simp only [W]
 refine B_ EK ?_;obtain ⟨Nw,h,g17⟩:=Option.bind_eq_some_iff.1 h;refine CG gC (fun s H=> ∃Fq:Int,∃EU:List Int,∃E_:Int,∃H7:Int,Nw=(Fq,EU,E_,H7)∧s=[.ptr i0 w0 0 0,u,u,.nil,.int .i64 Fq,u,u,u,u,u,u,u,u,u,u,u,u,u,u,u,u,u,u,u,u,u,u,u,u,u,u,u,u,u,u,u,u,u,u,u,u,u,u,u,u,u,u,u,u,u,u]∧az H (⟨.ptr i0 w0 0 0,3,[.agg [.fz (EU.map (AV.int .u8)),.int .i64 E_,.int .u64 H7]]⟩::F)) (fun GR Fa=> ?_) (fun s H hq=> ?_)
 ·refine B3 fun GI E9=> ?_;refine B8 ?_;simp only [W];refine Cj h (fun hc h=> ?_) (fun hc h=> ?_)
  ·refine Ck gC ?_;try simp only [W,Nat.reduceAdd]
   refine CB h fun EW Ip h=> ?_;obtain ⟨ET,GQ⟩:=EW;try dsimp only at h
   refine HA Ip hS fun H hS=> ?_;try simp only [W,EE]
   refine B_ E9 ?_;refine B9 ?_;exact CH Fa ⟨_,_,_,_,(Option.some.inj h).symm,rfl,hS⟩
  ·refine B5 ?_;refine B_ E9 ?_;refine B9 ?_;exact CH Fa ⟨_,_,_,_,(Option.some.inj h).symm,rfl,hS⟩
 ·obtain ⟨Fq,EU,E_,H7,rfl,rfl,hS⟩:=hq;replace h:=g17;try dsimp only at h
  refine B_ EI ?_;refine B3 fun IM FW=> ?_;refine Ck gC ?_;try simp only [W,Nat.reduceAdd]
  refine CB h fun I5 QQ h=> ?_;obtain ⟨GD,IB⟩:=I5;try dsimp only at h
  refine HA QQ hS fun H hS=> ?_;try simp only [W]
  refine B_ FW ?_;refine B3 fun Gn E2=> ?_;obtain ⟨QR,Xh,Xi⟩:=Option.bind_eq_some_iff.1 h;refine CG gC (fun s H=> ∃F1:List Span,∃FV:List Int,∃F2:Int,∃FG:Int,QR=(F1,FV,F2,FG)∧ ∃v37:AV,bA v37∧s=[.ptr i0 w0 0 0,u,u,v37,u,u,u,u,u,u,u,u,u,u,u,u,u,u,u,u,u,u,u,u,u,u,u,u,u,u,u,u,u,u,u,u,u,u,u,u,u,u,u,u,u,u,u,u,u,u,u]∧az H (⟨v37,2,F1.map Ej⟩::⟨.ptr i0 w0 0 0,3,[.agg [.fz (FV.map (AV.int .u8)),.int .i64 F2,.int .u64 FG]]⟩::F)) (fun Nx G8=> ?_) (fun s H hq=> ?_)
  ·refine B4 fun Th LG=> ?_;refine CC gC Xh (fun x s H=>match x with|(Fg,EY,Fm,FQ,Kg,IC)=> ∃Gs:AV,bA Gs∧s=[.ptr i0 w0 0 0,u,u,Gs,.int .i64 EY,.int .i64 Fm,u,u,u,u,u,u,u,u,u,u,u,u,u,u,u,u,u,u,u,u,u,u,u,u,u,u,u,u,u,u,u,u,u,u,u,u,u,u,u,u,u,u,u,u,u]∧az H (⟨Gs,2,Fg.map Ej⟩::⟨.ptr i0 w0 0 0,3,[.agg [.fz (FQ.map (AV.int .u8)),.int .i64 Kg,.int .u64 IC]]⟩::F)) ⟨_,nr,rfl,(hS.Ap 2)⟩ (fun x SU s H h Xj hi QS IU=> ?_)
   obtain ⟨Fg,EY,Fm,FQ,Kg,IC⟩:=x;try dsimp only at hi
   obtain ⟨Gs,JX,rfl,hS⟩:=hi;simp only [PI] at h;refine B3 fun OB IP=> ?_;refine B3 fun Nl HE=> ?_;refine Ck gC ?_;try simp only [W,EE,Nat.reduceAdd]
   refine B_ HE ?_;refine B8 ?_;simp only [W];refine Cj h (fun hc h=> ?_) (fun hc h=> ?_)
   ·refine B5 ?_;refine B_ IP ?_;refine B3 fun Lr G6=> ?_;refine B4 fun OP Jj=> ?_;refine B3 fun WL OQ=> ?_;refine Ck gC ?_;try simp only [W,EE,Nat.reduceAdd]
    refine CB h fun N5 Xk h=> ?_;obtain ⟨Kh,RP⟩:=N5;try dsimp only at h
    refine HA Xk (hS.C0 2 [1,0] (by decide)) fun H hS=> ?_
    try simp only [W,EE]
    refine B_ OQ ?_;refine B3 fun Ti LH=> ?_;refine Ck gC ?_;try simp only [W,EE,Nat.reduceAdd]
    refine C5 rfl rfl rfl rfl rfl ?_;try simp only [W]
    refine CA (el:=([(⟨Fm,(IntKind.i64.wrap ((IntKind.i64.wrap (Fm+1))+Kh))⟩:Span)]:List Span).map Ej) hS rfl rfl rfl rfl rfl rfl rfl fun v58 H Xl hS=> ?_;try simp only [W,EE]
    refine CP (l:=Fg) (c:=Ej) 2 hS rfl JX rfl rfl rfl (hS.il 0 rfl Xl) (fun _=>rfl) rfl h fun Iq H Ft KE hm h hS=> ?_;try simp only [W]
    refine B_ LH ?_;refine Ck gC ?_;try simp only [W,EE,Nat.reduceAdd]
    refine CB h fun JF QT h=> ?_;obtain ⟨Ki,HO⟩:=JF;try dsimp only at h
    refine HA QT (hS.C0 3 [1,0,2] (by decide)) fun H hS=> ?_
    try simp only [W,EE]
    refine Cd Jj ?_;refine B_ G6 ?_;refine Ck gC ?_;try simp only [W,EE,Nat.reduceAdd]
    exact CD IU h ⟨_,KE,rfl,(hS.C0 3 [2,0] (by decide))⟩
   ·refine B7 ?_;refine Cb IP ?_;try obtain rfl:=Option.some.inj h
    obtain rfl:=Xj _ rfl;have h:(some (Fg,FQ,Kg,IC):Option ((List Span)×(List Int)×Int×Int))=some (Fg,FQ,Kg,IC):=rfl;refine CE IU ?_;refine Ce LG ?_;exact CH G8 ⟨_,_,_,_,(Option.some.inj h).symm,_,JX,rfl,hS⟩
  ·obtain ⟨F1,FV,F2,FG,rfl,v37,LI,rfl,hS⟩:=hq;replace h:=Xi;try dsimp only at h
   refine B_ E2 ?_;refine B3 fun Tc Jk=> ?_;refine B3 fun Qu KB=> ?_;obtain ⟨Xm,h,Xn⟩:=Option.bind_eq_some_iff.1 h;refine CG gC (fun s H=> ∃Ms:Bool,∃Gi:List Int,∃Lc:Int,∃Ld:Int,Xm=(Ms,Gi,Lc,Ld)∧s=[u,u,u,v37,u,u,u,u,u,u,u,u,u,u,u,u,u,u,u,u,u,u,u,u,u,u,u,u,u,u,u,u,u,u,u,u,u,u,u,u,u,u,.bool Ms,u,u,u,u,u,u,u,u]∧az H (⟨v37,2,F1.map Ej⟩::⟨.ptr i0 w0 0 0,3,[.agg [.fz (Gi.map (AV.int .u8)),.int .i64 Lc,.int .u64 Ld]]⟩::F)) (fun K76 Tj=> ?_) (fun s H hq=> ?_)
   ·refine B3 fun Su Kt=> ?_;refine Ck gC ?_;try simp only [W,EE,Nat.reduceAdd]
    refine Cy 0 hS rfl LI rfl ?_;try simp only [W,EE]
    refine C4 h (fun hc h=> ?_) (fun hc h=> ?_)
    ·try simp only [W,hc]
     refine CB h fun Xo Xp h=> ?_;obtain ⟨Hy,N3⟩:=Xo;try dsimp only at h
     refine Jb Xp (hS.C0 2 [1,0] (by decide)) fun H hS=> ?_
     try simp only [W,reduceIte]
     refine B_ Kt ?_;refine B9 ?_;exact CH Tj ⟨_,_,_,_,(Option.some.inj h).symm,rfl,(hS.C0 2 [1,0] (by decide))⟩
    ·try simp only [W,hc]
     refine B_ Kt ?_;refine B9 ?_;exact CH Tj ⟨_,_,_,_,(Option.some.inj h).symm,rfl,hS⟩
   ·obtain ⟨Ms,Gi,Lc,Ld,rfl,rfl,hS⟩:=hq;replace h:=Xn;try dsimp only at h
    refine B_ KB ?_;obtain ⟨Qv,h,Xq⟩:=Option.bind_eq_some_iff.1 h;refine CG gC (fun s H=> ∃Mt:List Span,Qv=(Mt)∧s=[u,u,u,v37,u,u,u,u,u,u,u,u,u,u,u,u,u,u,u,u,u,u,u,u,u,u,u,u,u,u,u,u,u,u,u,u,u,u,u,u,u,u,u,u,u,u,u,u,u,u,u]∧az H (⟨v37,2,Mt.map Ej⟩::⟨.ptr i0 w0 0 0,3,[.agg [.fz (Gi.map (AV.int .u8)),.int .i64 Lc,.int .u64 Ld]]⟩::F)) (fun Ou IK=> ?_) (fun s H hq=> ?_)
    ·refine B3 fun Ov IL=> ?_;refine B8 ?_;simp only [W];refine Cj h (fun hc h=> ?_) (fun hc h=> ?_)
     ·refine Ck gC ?_;try simp only [W,EE,Nat.reduceAdd]
      refine Cv 0 hS rfl rfl rfl rfl rfl h (fun I4 acJ acK acL Xr h Xs=> ?_) LI.ne;obtain ⟨acM,Xt,Xu⟩:=hS.elem 0 rfl Xs Xr;try simp only [W,EE,EN,Nat.reduceAdd,Nat.reduceBEq,Xt,Xu]
      refine Cv 0 hS rfl rfl rfl rfl rfl h (fun Gw acN acO acP OR h Tk=> ?_) LI.ne;obtain ⟨acQ,Xv,acR⟩:=hS.elem 0 rfl Tk OR;try simp only [W,EE,Nat.reduceAdd,Nat.reduceBEq,Xv]
      refine Cw (a:= .int .i64 (IntKind.i64.wrap (I4.To+3))) (y' :=(⟨Gw.En,(IntKind.i64.wrap (I4.To+3))⟩:Span)) 0 hS rfl Tk OR rfl rfl rfl rfl rfl rfl rfl fun H hS=> ?_
      try simp only [W]
      refine B_ IL ?_;refine B9 ?_;exact CH IK ⟨_,(Option.some.inj h).symm,rfl,hS⟩
     ·refine B5 ?_;refine B_ IL ?_;refine B9 ?_;exact CH IK ⟨_,(Option.some.inj h).symm,rfl,hS⟩
    ·obtain ⟨Mt,Es,rfl,hS⟩:=hq;obtain rfl:=Es.symm;replace h:=Xq;try dsimp only at h
     refine B_ Jk ?_;refine B3 fun Sx Ln=> ?_;refine Ck gC ?_;try simp only [W,Nat.reduceAdd]
     refine B_ Ln ?_;refine B6 ?_;refine Ch El rfl ?_;try obtain rfl:=Option.some.inj h
     exact hP _ LI _ hS
theorem Xw {a0:List Int} {r:(Et×List Span)} (h:Mu a0=some r) {F:List It} {H:J} (hS:az H (F)) {P:AV→J→Prop} (hP: ∀QU:AV,bA QU→ ∀v70:AV,bA v70→ ∀H',az H' (⟨QU,2,r.1.Em.map Ej⟩::⟨v70,1,r.1.Ek.map (AV.int .i64)⟩::F)→P (.ay [.agg [.int .i64 r.1.Next,QU,v70],.fz (r.2.map Ej)]) H'):aq C 8 [.fz (a0.map (AV.int .u8))] H P:=by
 refine Cn gC (res:=[.cell 2 26,.tmp 3]) (n:=39) rfl rfl rfl rfl fun K0 El=> ?_;simp only [W,Nat.reduceSub,Nat.reduceAdd,List.replicate];unfold Mu at h;refine B3 fun K1 Er=> ?_;refine Ck gC ?_;try simp only [W,Nat.reduceAdd]
 refine Cr hS rfl rfl fun Eo Ep H hS=> ?_;try simp only [W]
 refine B_ Er ?_;refine B3 fun K4 EC=> ?_;refine Ck gC ?_;try simp only [W,EE,Nat.reduceAdd]
 refine C5 rfl rfl rfl rfl rfl ?_;try simp only [W]
 refine Cq hS rfl rfl rfl rfl fun Ny Nz H hS=> ?_;try simp only [W]
 refine B_ EC ?_;refine B3 fun K7 EI=> ?_;refine Ck gC ?_;try simp only [W,Nat.reduceAdd]
 refine CB h fun Fo KG h=> ?_;obtain ⟨E1,FI⟩:=Fo;try dsimp only at h
 refine Tb KG hS fun v11 Gj E7 FT H hS=> ?_;try simp only [W]
 refine Cr hS rfl rfl fun Jm Jn H hS=> ?_;try simp only [W]
 refine Cs (a:= .agg [.int .i64 E1.Next,v11,E7]) (y' := .agg [.int .i64 E1.Next,v11,E7]) 0 hS rfl rfl rfl rfl rfl (by simp only [dD,List.all_cons,List.all_nil,Gj.qu,FT.qu];rfl) rfl rfl fun H hS=> ?_
 try simp only [W]
 refine B_ EI ?_;refine B3 fun Gd EQ=> ?_;refine Cl (fz:=[(4,[([17],[.sl [.sc]])])]) gC ?_;try simp only [W,EE,Nat.reduceAdd,Nat.reduceBEq,hS.var 0 rfl]
 refine CB h fun Ez Ku h=> ?_;obtain ⟨FE,EW⟩:=Ez;try dsimp only at h
 refine Sq Ku (hS.C0 5 [3,0,1,2,4] (by decide)) fun v21 JY H hS=> ?_
 try simp only [W,Nat.reduceAdd]
 refine CR 0 hS rfl JY rfl (fun _ _=>by simp [aY,aN,dp]) (fun _=>rfl) fun H r6 hS=> ?_
 try simp only [W]
 refine CB h fun JJ QV h=> ?_;obtain ⟨I5,GD⟩:=JJ;try dsimp only at h
 refine Xe QV hS fun H hS=> ?_;try simp only [W,Nat.reduceAdd,Nat.reduceBEq]
 refine B_ EQ ?_;refine B3 fun HT FA=> ?_;refine B3 fun Gn E2=> ?_;obtain ⟨QW,h,QX⟩:=Option.bind_eq_some_iff.1 h;refine CG gC (fun s H=> ∃Fg:Bool,∃FU:List Int,∃FF:Int,∃EY:Int,QW=(Fg,FU,FF,EY)∧s=[u,u,.ptr Eo Ep 0 0,u,.ptr Ny Nz 0 0,.ptr Jm Jn 0 0,.fz (I5.map Ej),u,u,u,u,u,u,u,u,u,u,u,u,u,u,u,u,u,u,u,u,.bool Fg,u,u,u,u,u,u,u,u,u,u,u]∧az H (⟨v11,2,E1.Em.map Ej⟩::⟨E7,1,E1.Ek.map (AV.int .i64)⟩::⟨.ptr Eo Ep 0 0,3,[.agg [.int .i64 0,.nil,.nil]]⟩::⟨.ptr Ny Nz 0 0,3,[.agg [.fz (FU.map (AV.int .u8)),.int .i64 FF,.int .u64 EY]]⟩::⟨.ptr Jm Jn 0 0,3,[.agg [.int .i64 E1.Next,v11,E7]]⟩::F)) (fun Jd FY=> ?_) (fun s H hq=> ?_)
 ·refine B3 fun OZ Hm=> ?_;refine Ck gC ?_;try simp only [W,EE,Nat.reduceAdd]
  refine C4 h (fun hc h=> ?_) (fun hc h=> ?_)
  ·try simp only [W,hc]
   refine CB h fun Hg Jl h=> ?_;obtain ⟨Ie,HQ⟩:=Hg;try dsimp only at h
   refine Jb Jl hS fun H hS=> ?_;try simp only [W,reduceIte]
   refine B_ Hm ?_;refine B9 ?_;exact CH FY ⟨_,_,_,_,(Option.some.inj h).symm,rfl,(hS.C0 5 [2,3,4,0,1] (by decide))⟩
  ·try simp only [W,hc]
   refine B_ Hm ?_;refine B9 ?_;exact CH FY ⟨_,_,_,_,(Option.some.inj h).symm,rfl,(hS.C0 5 [2,3,4,0,1] (by decide))⟩
 ·obtain ⟨Fg,FU,FF,EY,rfl,rfl,hS⟩:=hq;replace h:=QX;try dsimp only at h
  refine B_ E2 ?_;obtain ⟨QY,h,QZ⟩:=Option.bind_eq_some_iff.1 h;refine CG gC (fun s H=> ∃F2:List Span,∃FG:List Int,∃FM:Int,∃FC:Int,QY=(F2,FG,FM,FC)∧s=[u,u,.ptr Eo Ep 0 0,u,.ptr Ny Nz 0 0,.ptr Jm Jn 0 0,.fz (F2.map Ej),u,u,u,u,u,u,u,u,u,u,u,u,u,u,u,u,u,u,u,u,u,u,u,u,u,u,u,u,u,u,u,u]∧az H (⟨v11,2,E1.Em.map Ej⟩::⟨E7,1,E1.Ek.map (AV.int .i64)⟩::⟨.ptr Eo Ep 0 0,3,[.agg [.int .i64 0,.nil,.nil]]⟩::⟨.ptr Ny Nz 0 0,3,[.agg [.fz (FG.map (AV.int .u8)),.int .i64 FM,.int .u64 FC]]⟩::⟨.ptr Jm Jn 0 0,3,[.agg [.int .i64 E1.Next,v11,E7]]⟩::F)) (fun QS IU=> ?_) (fun s H hq=> ?_)
  ·refine B3 fun PZ IG=> ?_;refine B8 ?_;simp only [W];refine Cj h (fun hc h=> ?_) (fun hc h=> ?_)
   ·refine Ck gC ?_;try simp only [W,Nat.reduceAdd]
    refine CB h fun N8 Q0 h=> ?_;obtain ⟨RQ,N4⟩:=N8;try dsimp only at h
    refine HA Q0 (hS.C0 5 [3,0,1,2,4] (by decide)) fun H hS=> ?_
    try simp only [W,EE]
    refine CN rfl rfl rfl (fun _=>rfl) h fun LS acS h=> ?_;try simp only [W]
    refine B_ IG ?_;refine B9 ?_;exact CH IU ⟨_,_,_,_,(Option.some.inj h).symm,rfl,(hS.C0 5 [1,2,3,0,4] (by decide))⟩
   ·refine B5 ?_;refine B_ IG ?_;refine B9 ?_;exact CH IU ⟨_,_,_,_,(Option.some.inj h).symm,rfl,hS⟩
  ·obtain ⟨F2,FG,FM,FC,rfl,rfl,hS⟩:=hq;replace h:=QZ;try dsimp only at h
   refine B_ FA ?_;refine B3 fun Lr G6=> ?_;refine B3 fun OP Jj=> ?_;refine Ck gC ?_;try simp only [W,Nat.reduceAdd]
   refine CB h fun Xx Xy h=> ?_;obtain ⟨N5,Kh⟩:=Xx;try dsimp only at h
   refine Jb Xy (hS.C0 5 [3,0,1,2,4] (by decide)) fun H hS=> ?_
   try simp only [W]
   refine B_ Jj ?_;obtain ⟨Xz,h,XA⟩:=Option.bind_eq_some_iff.1 h;refine CG gC (fun s H=> ∃He:List Span,Xz=(He)∧s=[u,u,.ptr Eo Ep 0 0,u,u,.ptr Jm Jn 0 0,.fz (He.map Ej),u,u,u,u,u,u,u,u,u,u,u,u,u,u,u,u,u,u,u,u,u,u,u,u,u,u,u,u,u,u,u,u]∧az H (⟨v11,2,E1.Em.map Ej⟩::⟨E7,1,E1.Ek.map (AV.int .i64)⟩::⟨.ptr Eo Ep 0 0,3,[.agg [.int .i64 0,.nil,.nil]]⟩::⟨.ptr Jm Jn 0 0,3,[.agg [.int .i64 E1.Next,v11,E7]]⟩::F)) (fun V_ OG=> ?_) (fun s H hq=> ?_)
   ·refine B3 fun Qj G7=> ?_;refine B8 ?_;simp only [W];refine Cj h (fun hc h=> ?_) (fun hc h=> ?_)
    ·refine B3 fun OC GU=> ?_;refine Ck gC ?_;try simp only [W,Nat.reduceAdd]
     refine CB h fun IZ OD h=> ?_;obtain ⟨JF,Ki⟩:=IZ;try dsimp only at h
     refine Xg OD hS fun v65 XB H hS=> ?_;try simp only [W]
     refine B_ GU ?_;refine CZ ?_;refine CR 0 hS rfl XB rfl (fun _ _=>by simp [aY,aN,ck,dp,Ej]) (fun _=>rfl) fun H r6 hS=> ?_
     simp only [W];refine B_ G7 ?_;refine B9 ?_;exact CH OG ⟨_,(Option.some.inj h).symm,rfl,(hS.C0 5 [1,2,3,4] (by decide))⟩
    ·refine B5 ?_;refine B_ G7 ?_;refine B9 ?_;exact CH OG ⟨_,(Option.some.inj h).symm,rfl,(hS.C0 5 [1,2,3,4] (by decide))⟩
   ·obtain ⟨He,Es,rfl,hS⟩:=hq;obtain rfl:=Es.symm;replace h:=XA;try dsimp only at h
    refine B_ G6 ?_;refine B3 fun SZ Lv=> ?_;refine Ck gC ?_;try simp only [W,EE,reduceIte,Nat.reduceAdd,Nat.reduceLeDiff,hS.var 3 rfl]
    refine Cs (a:= .agg [.int .i64 E1.Next,v11,E7]) (y' := .agg [.int .i64 E1.Next,v11,E7]) 2 hS rfl rfl rfl rfl rfl (by simp only [dD,List.all_cons,List.all_nil,Gj.qu,FT.qu];rfl) rfl rfl fun H hS=> ?_
    try simp only [W]
    refine B_ Lv ?_;refine B6 ?_;refine Cg El (C2 rfl rfl (hS.var 2 rfl) rfl (C3 rfl rfl)) ?_;try obtain rfl:=Option.some.inj h
    exact hP _ Gj _ FT _ (hS.C0 4 [0,1] (by decide))
theorem Q1 {a0:Int} {a1:Int} {a2:Int} {r:(Bool)} (h:Kj a0 a1 a2=some r) {F:List It} {H:J} (hS:az H (F)) {P:AV→J→Prop} (hP: ∀H',az H' (F)→P (.bool r) H'):aq C 85 [.int .i64 a0,.int .i64 a1,.int .i64 a2] H P:=by
 refine Cn gC (res:=[.tmp 6]) (n:=15) rfl rfl rfl rfl fun K0 El=> ?_;simp only [W,Nat.reduceSub,Nat.reduceAdd,List.replicate];unfold Kj at h;refine B3 fun K1 Er=> ?_;refine Ck gC ?_;try simp only [W,Nat.reduceAdd]
 refine B_ Er ?_;refine B3 fun K2 zU=> ?_;refine Ck gC ?_;try simp only [W,EE,Nat.reduceAdd]
 refine C4 h (fun hc h=> ?_) (fun hc h=> ?_)
 ·try simp only [W,EE,reduceIte,hc]
  refine B_ zU ?_;refine B6 ?_;refine Ch El rfl ?_;try obtain rfl:=Option.some.inj h
  exact hP _ hS
 ·try simp only [W,hc]
  refine B_ zU ?_;refine B6 ?_;refine Ch El rfl ?_;try obtain rfl:=Option.some.inj h
  exact hP _ hS
theorem XC {a0:Span} {r:(Bool)} (h:Mw a0=some r) {F:List It} {H:J} (hS:az H (F)) {P:AV→J→Prop} (hP: ∀H',az H' (F)→P (.bool r) H'):aq C 150 [.agg [.int .i64 a0.En,.int .i64 a0.To]] H P:=by
 refine Cn gC (res:=[.tmp 2]) (n:=18) rfl rfl rfl rfl fun K0 El=> ?_;simp only [W,Nat.reduceSub,Nat.reduceAdd,List.replicate];unfold Mw at h;refine B3 fun K1 Er=> ?_;refine Ck gC ?_;try simp only [W,Nat.reduceAdd]
 refine Cq hS rfl rfl rfl rfl fun Eo Ep H hS=> ?_;try simp only [W]
 refine B_ Er ?_;refine B3 fun K4 EC=> ?_;refine Ck gC ?_;try simp only [W,EE,Nat.reduceAdd,Nat.reduceBEq,hS.var 0 rfl]
 refine C4 h (fun hc h=> ?_) (fun hc h=> ?_)
 ·try simp only [W,EE,reduceIte,Nat.reduceAdd,Nat.reduceBEq,hS.var 0 rfl,hc]
  refine C4 h (fun hc h=> ?_) (fun hc h=> ?_)
  ·try simp only [W,EE,reduceIte,Nat.reduceAdd,Nat.reduceBEq,hS.var 0 rfl,hc]
   refine B_ EC ?_;refine B6 ?_;refine Ch El rfl ?_;try obtain rfl:=Option.some.inj h
   exact hP _ (hS.C0 1 [] (by decide))
  ·try simp only [W,hc]
   refine B_ EC ?_;refine B6 ?_;refine Ch El rfl ?_;try obtain rfl:=Option.some.inj h
   exact hP _ (hS.C0 1 [] (by decide))
 ·try simp only [W,hc]
  refine B_ EC ?_;refine B6 ?_;refine Ch El rfl ?_;try obtain rfl:=Option.some.inj h
  exact hP _ (hS.C0 1 [] (by decide))
theorem O1 {a0:List Span} {r:(Bool)} (h:JG a0=some r) {F:List It} {H:J} (hS:az H (F)) {P:AV→J→Prop} (hP: ∀H',az H' (F)→P (.bool r) H'):aq C 86 [.fz (a0.map Ej)] H P:=by
 refine Cn gC (res:=[.tmp 2]) (n:=34) rfl rfl rfl rfl fun K0 El=> ?_;simp only [W,Nat.reduceSub,Nat.reduceAdd,List.replicate];unfold JG at h;refine B3 fun K1 Er=> ?_;refine Ck gC ?_;try simp only [W,Nat.reduceAdd]
 refine B_ Er ?_;refine B3 fun K2 zU=> ?_;refine B3 fun K3 EJ=> ?_;refine Ck gC ?_;try simp only [W,EE,Nat.reduceAdd]
 refine B_ EJ ?_;refine B8 ?_;simp only [W];refine Cj h (fun hc h=> ?_) (fun hc h=> ?_)
 ·refine B3 fun K4 EC=> ?_;refine Ck gC ?_;try simp only [W,Nat.reduceAdd]
  refine B_ EC ?_;refine B6 ?_;refine Ca zU ?_;refine Ch El rfl ?_;try obtain rfl:=Option.some.inj h
  exact hP _ hS
 ·refine B5 ?_;refine B_ zU ?_;refine B3 fun K5 EZ=> ?_;refine B3 fun K6 E6=> ?_;refine Ck gC ?_;try simp only [W,EE,Nat.reduceAdd]
  refine B_ E6 ?_;obtain ⟨Jo,Jp,g15⟩:=Option.bind_eq_some_iff.1 h;refine CG gC (fun s H=>Jo=LR.next ()∧s=[u,u,u,u,u,u,u,u,u,u,u,u,u,u,u,u,u,u,u,u,u,u,u,u,u,u,u,u,u,u,u,u,u,u]∧az H (F)) (fun JN FX=> ?_) (fun s H hq=> ?_)
  ·refine B4 fun Ii Fy=> ?_;refine CC gC Jp (fun x s H=>s=[.fz (a0.map Ej),u,u,u,u,u,u,u,.fz (a0.map Ej),.int .i64 (a0.length:Int),.int .i64 x,u,u,u,u,u,u,u,u,u,u,u,u,u,u,u,u,u,u,u,u,u,u,u]∧az H (F)) ⟨rfl,hS⟩ (fun EO IN s H h HX hi Ij Fs=> ?_)
   skip
   try dsimp only at hi
   obtain ⟨rfl,hS⟩:=hi;simp only [Mx] at h;refine B3 fun Gc EM=> ?_;refine Ck gC ?_;try simp only [W,EE,Nat.reduceAdd]
   refine B_ EM ?_;refine B3 fun Gd EQ=> ?_;refine B8 ?_;simp only [W];refine Cj h (fun hc h=> ?_) (fun hc h=> ?_)
   ·refine B5 ?_;refine B_ EQ ?_;refine B3 fun GR Fa=> ?_;refine B4 fun GI E9=> ?_;refine B3 fun HB Fv=> ?_;refine Ck gC ?_;try simp only [W,EE,Nat.reduceAdd]
    refine Cu rfl rfl rfl (fun _=>rfl) h fun ET XD h=> ?_;try simp only [W,EE,EN,reduceIte,Nat.reduceAdd,Nat.reduceLeDiff]
    refine Cr hS rfl rfl fun XE XF H hS=> ?_;try simp only [W]
    refine Cs (a:= .agg [.int .i64 ET.En,.int .i64 ET.To]) (y' := .agg [.int .i64 ET.En,.int .i64 ET.To]) 0 hS rfl rfl rfl rfl rfl rfl rfl rfl fun H hS=> ?_
    try simp only [W]
    refine B_ Fv ?_;refine B3 fun Hj Fu=> ?_;obtain ⟨SY,h,Qp⟩:=Option.bind_eq_some_iff.1 h;refine CG gC (fun s H=> ∃FN:Bool,SY=(FN)∧s=[.fz (a0.map Ej),u,u,u,u,u,u,u,.fz (a0.map Ej),.int .i64 (a0.length:Int),.int .i64 EO,u,u,u,u,u,u,u,u,u,u,u,u,u,u,u,u,u,u,u,u,u,.bool FN,u]∧az H (F)) (fun Il FD=> ?_) (fun s H hq=> ?_)
    ·refine B3 fun Kv Gz=> ?_;refine Cm gC (by kernel_rfl) ?_
     try simp only [W,EE,reduceIte,Nat.reduceAdd,Nat.reduceLeDiff,hS.var 0 rfl]
     refine Dt (bP:=[[.sc]]) (ys:=[.agg [.int .i64 ET.En,.int .i64 ET.To]]) h rfl (by rfl) fun GG O0 h=>⟨.bool GG,XC O0 (az.nil _) fun H hS=>Dl rfl (Di rfl (Dh rfl)),⟨rfl,rfl,fun _=>rfl⟩,?_⟩
     try simp only [W]
     refine C4 h (fun hc h=> ?_) (fun hc h=> ?_)
     ·try simp only [W,hc]
      refine B_ Gz ?_;refine B9 ?_;exact CH FD ⟨_,(Option.some.inj h).symm,rfl,(hS.C0 1 [] (by decide))⟩
     ·try simp only [W,EE,hc]
      refine C4 h (fun hc h=> ?_) (fun hc h=> ?_)
      ·try simp only [W,EE,Nat.reduceAdd,Nat.reduceBEq,hS.var 0 rfl,hc]
       refine Cu rfl rfl rfl (fun _=>rfl) h fun G0 Qb h=> ?_;try simp only [W,EE,EN,reduceIte,Nat.reduceAdd,Nat.reduceBEq,Bool.false_eq_true]
       refine B_ Gz ?_;refine B9 ?_;exact CH FD ⟨_,(Option.some.inj h).symm,rfl,(hS.C0 1 [] (by decide))⟩
      ·try simp only [W,reduceIte,Bool.false_eq_true,hc]
       refine B_ Gz ?_;refine B9 ?_;exact CH FD ⟨_,(Option.some.inj h).symm,rfl,(hS.C0 1 [] (by decide))⟩
    ·obtain ⟨FN,Es,rfl,hS⟩:=hq;obtain rfl:=Es.symm;replace h:=Qp;try dsimp only at h
     refine B_ Fu ?_;refine B8 ?_;simp only [W];refine Cj h (fun hc h=> ?_) (fun hc h=> ?_)
     ·refine B3 fun SO Nh=> ?_;refine Ck gC ?_;try simp only [W,Nat.reduceAdd]
      refine B_ Nh ?_;refine B6 ?_;refine Cf E9 ?_;refine Ca Fa ?_;try obtain rfl:=Option.some.inj h
      obtain rfl:=HX _ rfl;have h:(some (LR.done false):Option (LR Unit (Bool)))=some (LR.done false):=rfl;refine CF Fs ?_;refine Cf Fy ?_;try obtain rfl:=Option.some.inj h
      obtain rfl:=Option.some.inj g15;have h:(some false:Option (Bool))=some false:=rfl;refine CI FX ?_;refine Ca EZ ?_;refine Ch El rfl ?_;try obtain rfl:=Option.some.inj h
      exact hP _ hS
     ·refine B5 ?_;refine Cd E9 ?_;refine B_ Fa ?_;refine Ck gC ?_;try simp only [W,EE,Nat.reduceAdd]
      exact CD Fs h ⟨rfl,hS⟩
   ·refine B7 ?_;refine Cb EQ ?_;try obtain rfl:=Option.some.inj h
    obtain rfl:=HX _ rfl;have h:(some (LR.next ()):Option (LR Unit (Bool)))=some (LR.next ()):=rfl
    refine CE Fs ?_;refine Ce Fy ?_;exact CH FX ⟨(Option.some.inj h).symm,rfl,hS⟩
  ·obtain ⟨rfl,rfl,hS⟩:=hq;replace h:=g15;try dsimp only at h
   refine B_ EZ ?_;refine B3 fun Tl LJ=> ?_;refine Ck gC ?_;try simp only [W,Nat.reduceAdd]
   refine B_ LJ ?_;refine B6 ?_;refine Ch El rfl ?_;try obtain rfl:=Option.some.inj h
   exact hP _ hS
end Go.GC
