import Derived.Test.YtmmomohapflagaaVjF
import Derived.Test.YtmmomohapflagaaProg
import Derived.Test.YtmmomohapflagaaVaE
import Derived.KernelRfl
open Go Go.VS
set_option maxRecDepth 8000
set_option maxHeartbeats 4000000
namespace Go.Gq
def CV (x:Hello):AV:= .agg [.int .i64 x.Kind,.int .i64 x.X,.int .i64 x.Y]
def UY (x:C5):AV:= .agg [.int .i64 x.C0,.int .i64 x.CY,.int .i64 x.X,.int .i64 x.Y,.int .i64 x.C1,.int .i64 x.CZ,.int .i64 x.CW,.int .i64 x.CX,.fz (x.C2.map CV),.fz (x.C3.map CV),.fz (x.C4.map CV)]
def Ge (x:Dc):AV:= .agg [.int .i64 x.Kind,.int .i64 x.K]
def UZ (x:Du):AV:= .agg [.fz (x.Code.map (AV.int .u8)),.int .i64 x.Ds,.int .u64 x.Dw]
def E:aJ:=fun t=>match t with
 |3=>some {sz:=1,agg:=false,zero:=[AV.int IntKind.i64 0],bytes:=8,aq:=UD.it IntKind.i64,j0:=true}
 |4=>some {sz:=1,agg:=false,zero:=[AV.bool false],bytes:=1,aq:=UD.bl,j0:=true}
 |5=>some {sz:=1,agg:=false,zero:=[AV.int IntKind.u8 0],bytes:=1,aq:=UD.it IntKind.u8,j0:=true}
 |22=>some {sz:=1,agg:=false,zero:=[AV.nil],bytes:=24,aq:=UD.sl 5,j0:=true}
 |23=>some {sz:=1,agg:=false,zero:=[AV.nil],bytes:=24,aq:=UD.sl 3,j0:=true}
 |71=>some {sz:=1,agg:=false,zero:=[AV.nil],bytes:=24,aq:=UD.sl 87,j0:=true}
 |73=>some {sz:=11,agg:=true,zero:=[AV.int IntKind.i64 0,AV.int IntKind.i64 0,AV.int IntKind.i64 0,AV.int IntKind.i64 0,AV.int IntKind.i64 0,AV.int IntKind.i64 0,AV.int IntKind.i64 0,AV.int IntKind.i64 0,AV.nil,AV.nil,AV.nil],bytes:=136,aq:=UD.st [(0,3),(1,3),(2,3),(3,3),(4,3),(5,3),(6,3),(7,3),(8,71),(9,71),(10,71)],j0:=true}
 |75=>some {sz:=2,agg:=true,zero:=[AV.int IntKind.i64 0,AV.int IntKind.i64 0],bytes:=16,aq:=UD.st [(0,3),(1,3)],j0:=true}
 |87=>some {sz:=3,agg:=true,zero:=[AV.int IntKind.i64 0,AV.int IntKind.i64 0,AV.int IntKind.i64 0],bytes:=24,aq:=UD.st [(0,3),(1,3),(2,3)],j0:=true}
 |163=>some {sz:=1,agg:=false,zero:=[AV.dt],bytes:=8,aq:=UD.pt,j0:=true}
 |164=>some {sz:=1,agg:=false,zero:=[AV.int IntKind.u64 0],bytes:=8,aq:=UD.it IntKind.u64,j0:=true}
 |166=>some {sz:=3,agg:=true,zero:=[AV.nil,AV.int IntKind.i64 0,AV.int IntKind.u64 0],bytes:=40,aq:=UD.st [(0,22),(1,3),(2,164)],j0:=true}
 |194=>some {sz:=1,agg:=false,zero:=[AV.nil],bytes:=24,aq:=UD.sl 75,j0:=true}
 |201=>some {sz:=1,agg:=false,zero:=[AV.undef],bytes:=8,aq:=UD.ot,j0:=true}
 |234=>some {sz:=1,agg:=false,zero:=[AV.nil],bytes:=24,aq:=UD.sl 4,j0:=true}
 |251=>some {sz:=1,agg:=false,zero:=[AV.dt],bytes:=8,aq:=UD.pt,j0:=true}
 |255=>some {sz:=1,agg:=false,zero:=[AV.nil],bytes:=24,aq:=UD.sl 71,j0:=true}
 |_=>none
def fy:FuncId→j7:=fun f=>match f with
 |8=>{bO:=[[.sc]],m6:=[(4,[],[2]),(5,[],[2]),(14,[],[1]),(15,[],[1])],gH:=[(6,[],some [1,5,7,8,67]),(11,[],some [1,125])],vW:=[(68,[1])]}
 |67=>{bO:=[[.sc,.sc,.sc,.sc,.sc,.sc,.sc,.sc,.sl [.sc,.sc,.sc],.sl [.sc,.sc,.sc],.sl [.sc,.sc,.sc]],[.sc,.sc]],m6:=[(6,[4,5],[])]}
 |68=>{bO:=[[.sc,.sc,.sc,.sc,.sc,.sc,.sc,.sc,.sl [.sc,.sc,.sc],.sl [.sc,.sc,.sc],.sl [.sc,.sc,.sc]],[.sc]],gH:=[(2,[],some [4,6,16])]}
 |69=>{bO:=[[.sc,.sc,.sc,.sc,.sc,.sc,.sc,.sc,.sl [.sc,.sc,.sc],.sl [.sc,.sc,.sc],.sl [.sc,.sc,.sc]],[.sc]],m6:=[(3,[3,8],[1]),(6,[],[1])]}
 |70=>{bO:=[[.sc]]}
 |71=>{bO:=[[.sc]],blocks:=[(0,[1,3,4]),(1,[1,3,4])],m6:=[(17,[],[5])],gH:=[(1,[],some [1,33]),(6,[],some [1,3,4]),(8,[],some [1,3,4]),(13,[],some [1,3,4])],vW:=[(36,[1,3,4]),(46,[1,3,4]),(58,[1,3,4]),(67,[1,3,4]),(77,[1,3,4,77])]}
 |72=>{bO:=[[.sc]],loops:=[(0,{bK:=[1,90,91,92]}),(2,{bK:=[1,107,108,109]})],blocks:=[(0,[1]),(2,[])],m6:=[(11,[7],[])],fZ:=[(11,[0,1,2,3,4,5,8,6,7])],gH:=[(1,[],some [1,46]),(3,[],some [1,88]),(14,[],some [1,107,108,109,121])]}
 |73=>{bO:=[[.sc]],loops:=[(0,{bK:=[0,1,12,13]})],blocks:=[(0,[])]}
 |74=>{bO:=[[.sc,.sc,.sc,.sc,.sc,.sc,.sc,.sc,.sl [.sc,.sc,.sc],.sl [.sc,.sc,.sc],.sl [.sc,.sc,.sc]]]}
 |75=>{bO:=[[.sc,.sc,.sc,.sc,.sc,.sc,.sc,.sc,.sl [.sc,.sc,.sc],.sl [.sc,.sc,.sc],.sl [.sc,.sc,.sc]],[.sc]],loops:=[(0,{bK:=[2,4,28,29,30]})],blocks:=[(0,[2,4])],gH:=[(2,[],some [2,4,21])]}
 |76=>{bO:=[[.sc,.sc,.sc,.sc,.sc,.sc,.sc,.sc,.sl [.sc,.sc,.sc],.sl [.sc,.sc,.sc],.sl [.sc,.sc,.sc]],[.sc]],loops:=[(0,{bK:=[2,4,28,29,30]})],blocks:=[(0,[2,4])],m6:=[(15,[],[1])]}
 |77=>{bO:=[[.sc],[.sc]]}
 |78=>{bO:=[[.sc],[.sc]]}
 |79=>{bO:=[[.sl [.sc,.sc,.sc]],[.sc,.sc,.sc]],m6:=[(5,[6,9],[]),(6,[4],[])],gH:=[(4,[],some [3,4,5,6,20])],vW:=[(20,[3,5,6])]}
 |80=>{bO:=[[.sc],[.sc]]}
 |81=>{bO:=[[.sc],[.sc]],loops:=[(0,{bK:=[3,11,12,13]})],blocks:=[(0,[])]}
 |82=>{bO:=[[.sc,.sc,.sc,.sc,.sc,.sc,.sc,.sc,.sl [.sc,.sc,.sc],.sl [.sc,.sc,.sc],.sl [.sc,.sc,.sc]]]}
 |83=>{bO:=[[.sc,.sc,.sc,.sc,.sc,.sc,.sc,.sc,.sl [.sc,.sc,.sc],.sl [.sc,.sc,.sc],.sl [.sc,.sc,.sc]]]}
 |157=>{bO:=[[.sc]]}
 |162=>{bO:=[[.sc]],vW:=[(11,[1,5])]}
 |163=>{bO:=[[.sc]]}
 |164=>{bO:=[[.sc]]}
 |188=>{bO:=[[.sc]]}
 |207=>{bO:=[[.sc,.sc,.sc,.sc,.sc,.sc,.sc,.sc,.sl [.sc,.sc,.sc],.sl [.sc,.sc,.sc],.sl [.sc,.sc,.sc]]],blocks:=[(0,[2,3])],m6:=[(1,[],[2]),(10,[5,7,8,11,13],[])],fZ:=[(10,[0,1,2,5,7,3,4,6,8,9,10,11,12,13])],fz:=[(6,[(2,[([21],[.sl [.sc]])])])],vW:=[(14,[0,2,3]),(18,[2,3]),(24,[2,3]),(29,[2,3])]}
 |208=>{bO:=[[.sl [.sc,.sc]]],loops:=[(0,{bK:=[0,3,4]})],blocks:=[(0,[0,3])],gH:=[(13,[],some [0,3,43])],fz:=[(7,[(2,[([18],[.sl [.sc]])])])],vW:=[(9,[0,3,4]),(23,[0,3,4,5]),(29,[0,3,4,5]),(43,[3])]}
 |209=>{bO:=[[.sc,.sc,.sc,.sc,.sc,.sc,.sc,.sc,.sl [.sc,.sc,.sc],.sl [.sc,.sc,.sc],.sl [.sc,.sc,.sc]]],m6:=[(1,[10,12,14],[2,5,8])]}
 |210=>{bO:=[[.sc]],blocks:=[(0,[0,3]),(1,[0]),(2,[0,3,29,64])],m6:=[(21,[9],[]),(22,[10,13],[]),(28,[14,17],[])],vW:=[(8,[0,3,7,8]),(14,[0,3,7,8,14]),(30,[0]),(64,[0,3,29,64]),(90,[0,3,29,64]),(94,[0,3,29,64]),(119,[0,3,29,64]),(135,[0,3,29,64]),(139,[0,3,29,64])]}
 |211=>{bO:=[[.sc,.sc,.sc,.sc,.sc,.sc,.sc,.sc,.sl [.sc,.sc,.sc],.sl [.sc,.sc,.sc],.sl [.sc,.sc,.sc]],[.sc]],gH:=[(3,[],some [2,4,19]),(11,[],some [2,4,44]),(24,[],some [2,3,4,79])]}
 |212=>{bO:=[[.sc,.sc,.sc,.sc,.sc,.sc,.sc,.sc,.sl [.sc,.sc,.sc],.sl [.sc,.sc,.sc],.sl [.sc,.sc,.sc]]]}
 |213=>{bO:=[[.sc]]}
 |214=>{bO:=[[.sl [.sc,.sc,.sc]]],loops:=[(0,{bK:=[0,3,9,10,11]}),(2,{bK:=[6,25,26,27]})],blocks:=[(1,[0,3,9,10,11]),(0,[0,3]),(2,[6])],vW:=[(20,[0,3,9,10,11])]}
 |215=>{bO:=[[.sc]]}
 |216=>{bO:=[[.sc]]}
 |217=>{bO:=[[.sc]]}
 |218=>{bO:=[[.sc]]}
 |219=>{bO:=[[.sc]]}
 |220=>{bO:=[[.sc]]}
 |221=>{bO:=[[.sc,.sc,.sc,.sc,.sc,.sc,.sc,.sc,.sl [.sc,.sc,.sc],.sl [.sc,.sc,.sc],.sl [.sc,.sc,.sc]]]}
 |222=>{bO:=[[.sc]]}
 |282=>{bO:=[[.sc]],vW:=[(13,[0,3])]}
 |296=>{bO:=[[.sc,.sc,.sc,.sc,.sc,.sc,.sc,.sc,.sl [.sc,.sc,.sc],.sl [.sc,.sc,.sc],.sl [.sc,.sc,.sc]],[.sl [.sc]],[.sc]],loops:=[(0,{bK:=[2,5,6,16,17,18]})],blocks:=[(0,[2,5,6])],m6:=[(8,[3,8],[1]),(13,[],[1])],vW:=[(29,[2,5,6,10,16,17,18])]}
 |297=>{bO:=[[.sl [.sc,.sc,.sc]]]}
 |298=>{bO:=[],m6:=[(2,[7,10],[])]}
 |299=>{bO:=[[.sl [.sc,.sc,.sc]]],m6:=[(5,[6],[])]}
 |300=>{bO:=[],m6:=[(6,[11,14,17],[]),(7,[10],[]),(10,[6,9],[]),(11,[7,10],[]),(18,[7,10],[])],gH:=[(4,[],some [0,3,25]),(9,[],some [0,3,4,61]),(13,[],some [0,4,97]),(16,[],some [0,4,148])]}
 |301=>{bO:=[[.sc,.sc,.sc,.sc,.sc,.sc,.sc,.sc,.sl [.sc,.sc,.sc],.sl [.sc,.sc,.sc],.sl [.sc,.sc,.sc]]],vW:=[(8,[2,4])]}
 |302=>{bO:=[[.sc,.sc,.sc,.sc,.sc,.sc,.sc,.sc,.sl [.sc,.sc,.sc],.sl [.sc,.sc,.sc],.sl [.sc,.sc,.sc]]]}
 |303=>{bO:=[[.sc,.sc,.sc,.sc,.sc,.sc,.sc,.sc,.sl [.sc,.sc,.sc],.sl [.sc,.sc,.sc],.sl [.sc,.sc,.sc]]],gH:=[(3,[],some [2,3,4,16]),(11,[],some [2,3,4,47]),(15,[],some [2,3,4,76]),(18,[],some [2,3,4,101])],vW:=[(47,[2,3,4]),(101,[2,4])]}
 |304=>{bO:=[[.sl [.sc,.sc,.sc]]],vW:=[(6,[0,1]),(16,[0])]}
 |305=>{bO:=[[.sc]],loops:=[(0,{bK:=[0,1,7,8]})],blocks:=[(0,[])]}
 |306=>{bO:=[[.sc]],loops:=[(0,{bK:=[0,3,7,8]})],blocks:=[(0,[])]}
 |323=>{bO:=[[.sl [.sc,.sc,.sc]]]}
 |_=>{}
noncomputable def code:FuncId→Option Func:=fun f=>match f with
 |8=>some Go.Proofs.Try.f8
 |67=>some Go.Proofs.Try.f67
 |68=>some Go.Proofs.Try.f68
 |69=>some Go.Proofs.Try.f69
 |70=>some Go.Proofs.Try.f70
 |71=>some Go.Proofs.Try.f71
 |72=>some Go.Proofs.Try.f72
 |73=>some Go.Proofs.Try.f73
 |74=>some Go.Proofs.Try.f74
 |75=>some Go.Proofs.Try.f75
 |76=>some Go.Proofs.Try.f76
 |77=>some Go.Proofs.Try.f77
 |78=>some Go.Proofs.Try.f78
 |79=>some Go.Proofs.Try.f79
 |80=>some Go.Proofs.Try.f80
 |81=>some Go.Proofs.Try.f81
 |82=>some Go.Proofs.Try.f82
 |83=>some Go.Proofs.Try.f83
 |157=>some Go.Proofs.Try.f157
 |162=>some Go.Proofs.Try.f162
 |163=>some Go.Proofs.Try.f163
 |164=>some Go.Proofs.Try.f164
 |188=>some Go.Proofs.Try.f188
 |207=>some Go.Proofs.Try.f207
 |208=>some Go.Proofs.Try.f208
 |209=>some Go.Proofs.Try.f209
 |210=>some Go.Proofs.Try.f210
 |211=>some Go.Proofs.Try.f211
 |212=>some Go.Proofs.Try.f212
 |213=>some Go.Proofs.Try.f213
 |214=>some Go.Proofs.Try.f214
 |215=>some Go.Proofs.Try.f215
 |216=>some Go.Proofs.Try.f216
 |217=>some Go.Proofs.Try.f217
 |218=>some Go.Proofs.Try.f218
 |219=>some Go.Proofs.Try.f219
 |220=>some Go.Proofs.Try.f220
 |221=>some Go.Proofs.Try.f221
 |222=>some Go.Proofs.Try.f222
 |282=>some Go.Proofs.Try.f282
 |296=>some Go.Proofs.Try.f296
 |298=>some Go.Proofs.Try.f298
 |299=>some Go.Proofs.Try.f299
 |300=>some Go.Proofs.Try.f300
 |301=>some Go.Proofs.Try.f301
 |302=>some Go.Proofs.Try.f302
 |303=>some Go.Proofs.Try.f303
 |304=>some Go.Proofs.Try.f304
 |305=>some Go.Proofs.Try.f305
 |306=>some Go.Proofs.Try.f306
 |323=>some Go.Proofs.Try.f323
 |_=>none
def La:List (FuncId×Nat×Nat):=[(297,3,24)]
noncomputable def C:aF:=⟨E,fy,code,px La⟩
theorem gC:Good C:=Ci (ids:=La) rfl
theorem Sp:C.E=E:=rfl
theorem E3:E 3=some {sz:=1,agg:=false,zero:=[AV.int IntKind.i64 0],bytes:=8,aq:=UD.it IntKind.i64,j0:=true}:=rfl
theorem E4:E 4=some {sz:=1,agg:=false,zero:=[AV.bool false],bytes:=1,aq:=UD.bl,j0:=true}:=rfl
theorem E5:E 5=some {sz:=1,agg:=false,zero:=[AV.int IntKind.u8 0],bytes:=1,aq:=UD.it IntKind.u8,j0:=true}:=rfl
theorem Sq:E 22=some {sz:=1,agg:=false,zero:=[AV.nil],bytes:=24,aq:=UD.sl 5,j0:=true}:=rfl
theorem Sr:E 23=some {sz:=1,agg:=false,zero:=[AV.nil],bytes:=24,aq:=UD.sl 3,j0:=true}:=rfl
theorem Ss:E 71=some {sz:=1,agg:=false,zero:=[AV.nil],bytes:=24,aq:=UD.sl 87,j0:=true}:=rfl
theorem Su:E 73=some {sz:=11,agg:=true,zero:=[AV.int IntKind.i64 0,AV.int IntKind.i64 0,AV.int IntKind.i64 0,AV.int IntKind.i64 0,AV.int IntKind.i64 0,AV.int IntKind.i64 0,AV.int IntKind.i64 0,AV.int IntKind.i64 0,AV.nil,AV.nil,AV.nil],bytes:=136,aq:=UD.st [(0,3),(1,3),(2,3),(3,3),(4,3),(5,3),(6,3),(7,3),(8,71),(9,71),(10,71)],j0:=true}:=rfl
theorem Sv:E 75=some {sz:=2,agg:=true,zero:=[AV.int IntKind.i64 0,AV.int IntKind.i64 0],bytes:=16,aq:=UD.st [(0,3),(1,3)],j0:=true}:=rfl
theorem Sw:E 87=some {sz:=3,agg:=true,zero:=[AV.int IntKind.i64 0,AV.int IntKind.i64 0,AV.int IntKind.i64 0],bytes:=24,aq:=UD.st [(0,3),(1,3),(2,3)],j0:=true}:=rfl
theorem Sx:E 163=some {sz:=1,agg:=false,zero:=[AV.dt],bytes:=8,aq:=UD.pt,j0:=true}:=rfl
theorem Sy:E 164=some {sz:=1,agg:=false,zero:=[AV.int IntKind.u64 0],bytes:=8,aq:=UD.it IntKind.u64,j0:=true}:=rfl
theorem Sz:E 166=some {sz:=3,agg:=true,zero:=[AV.nil,AV.int IntKind.i64 0,AV.int IntKind.u64 0],bytes:=40,aq:=UD.st [(0,22),(1,3),(2,164)],j0:=true}:=rfl
theorem SA:E 194=some {sz:=1,agg:=false,zero:=[AV.nil],bytes:=24,aq:=UD.sl 75,j0:=true}:=rfl
theorem SB:E 201=some {sz:=1,agg:=false,zero:=[AV.undef],bytes:=8,aq:=UD.ot,j0:=true}:=rfl
theorem SC:E 234=some {sz:=1,agg:=false,zero:=[AV.nil],bytes:=24,aq:=UD.sl 4,j0:=true}:=rfl
theorem SD:E 251=some {sz:=1,agg:=false,zero:=[AV.dt],bytes:=8,aq:=UD.pt,j0:=true}:=rfl
theorem SE:E 255=some {sz:=1,agg:=false,zero:=[AV.nil],bytes:=24,aq:=UD.sl 71,j0:=true}:=rfl
theorem EE:type_of% (And.intro @Sp<|And.intro @E3<|And.intro @E4<|And.intro @E5<|And.intro @Sq<|And.intro @Sr<|And.intro @Ss<|And.intro @Su<|And.intro @Sv<|And.intro @Sw<|And.intro @Sx<|And.intro @Sy<|And.intro @Sz<|And.intro @SA<|And.intro @SB<|And.intro @SC<|And.intro @SD @SE):=And.intro @Sp<|And.intro @E3<|And.intro @E4<|And.intro @E5<|And.intro @Sq<|And.intro @Sr<|And.intro @Ss<|And.intro @Su<|And.intro @Sv<|And.intro @Sw<|And.intro @Sx<|And.intro @Sy<|And.intro @Sz<|And.intro @SA<|And.intro @SB<|And.intro @SC<|And.intro @SD @SE
theorem SG (x:C5):UY x= .agg [.int .i64 x.C0,.int .i64 x.CY,.int .i64 x.X,.int .i64 x.Y,.int .i64 x.C1,.int .i64 x.CZ,.int .i64 x.CW,.int .i64 x.CX,.fz (x.C2.map CV),.fz (x.C3.map CV),.fz (x.C4.map CV)]:=rfl
theorem SH (x:Dc):Ge x= .agg [.int .i64 x.Kind,.int .i64 x.K]:=rfl
theorem SI (x:Hello):CV x= .agg [.int .i64 x.Kind,.int .i64 x.X,.int .i64 x.Y]:=rfl
theorem SJ (x:Du):UZ x= .agg [.fz (x.Code.map (AV.int .u8)),.int .i64 x.Ds,.int .u64 x.Dw]:=rfl
theorem EN:type_of% (And.intro @SG<|And.intro @SH<|And.intro @SI<|And.intro @SJ<|And.intro @Co @tX):=And.intro @SG<|And.intro @SH<|And.intro @SI<|And.intro @SJ<|And.intro @Co @tX
theorem SK {a0:Du} {i0:Nat} {w0:Nat} {r:(Int×Du)} (h:KE a0=some r) {F:List It} {H:J} (hS:ay H (⟨.ptr i0 w0 0 0,3,[.agg [.fz (a0.Code.map (AV.int .u8)),.int .i64 a0.Ds,.int .u64 a0.Dw]]⟩::F)) {P:AV→J→Prop} (hP: ∀H',ay H' (⟨.ptr i0 w0 0 0,3,[.agg [.fz (r.2.Code.map (AV.int .u8)),.int .i64 r.2.Ds,.int .u64 r.2.Dw]]⟩::F)→P (.int .i64 r.1) H'):au C 282 [.ptr i0 w0 0 0] H P:=by
 refine AW gC (res:=[.tmp 2]) (n:=62) rfl rfl rfl rfl fun K0 C8=> ?_;simp only [W,Nat.reduceSub,Nat.reduceAdd,List.replicate];unfold KE at h;refine Aw fun K1 Da=> ?_;refine AS gC ?_;try simp only [W,Nat.reduceAdd]
 refine AE Da ?_;refine Aw fun K2 yP=> ?_;refine AS gC ?_;try simp only [W,Nat.reduceAdd]
 refine AE yP ?_;refine Aw fun K3 FG=> ?_;refine Aw fun K4 Df=> ?_;refine AU gC (by kernel_rfl) ?_
 try simp only [W,EE,Nat.reduceAdd,Nat.reduceBEq,hS.var 0 rfl]
 refine AE Df ?_;obtain ⟨U0,h,g7⟩:=Option.bind_eq_some_iff.1 h;refine Bm gC (fun s H=> ∃EL:Int,U0=(EL)∧s=(.ptr i0 w0 0 0::u::u:: .int .i64 EL::u::u::u::u::u::u::u::u::u::u::u::u::u::u::u::u::u::u::u::u::u::u::u::u::u::u::u::u::u::u::u::u::u::u::u::u::u::u::u::u::u::u::u::u::u::u::u::u::u::u::u::u::u::u::u::u::u::u::[])∧ay H (⟨.ptr i0 w0 0 0,3,[.agg [.fz (a0.Code.map (AV.int .u8)),.int .i64 a0.Ds,.int .u64 a0.Dw]]⟩::F)) (fun K8 Dp=> ?_) (fun s H hq=> ?_)
 ·refine Aw fun K9 Dy=> ?_;refine AB ?_;simp only [W];refine AR h (fun hc h=> ?_) (fun hc h=> ?_)
  ·refine AU gC (by kernel_rfl) ?_
   try simp only [W,EE,Nat.reduceAdd,Nat.reduceBEq,hS.var 0 rfl]
   refine Ba rfl rfl rfl (fun _=>rfl) h fun DP Ih h=> ?_;try simp only [W,EE]
   refine AE Dy ?_;refine CC (s' :=(.ptr i0 w0 0 0::u::u:: .int .i64 (IntKind.i64.wrap DP)::u::u::u::u::u::u::u::u::u::u::u::u::u::u::u::u::u::u::u::u::u::u::u::u::u::u::u::u::u::u::u::u::u::u::u::u::u::u::u::u::u::u::u::u::u::u::u::u::u::u::u::u::u::u::u::u::u::u::[])) rfl ?_
   exact Bn Dp ⟨_,(Option.some.inj h).symm,rfl,hS⟩
  ·refine Ay ?_;refine AE Dy ?_;refine CC (s' :=(.ptr i0 w0 0 0::u::u:: .int .i64 0::u::u::u::u::u::u::u::u::u::u::u::u::u::u::u::u::u::u::u::u::u::u::u::u::u::u::u::u::u::u::u::u::u::u::u::u::u::u::u::u::u::u::u::u::u::u::u::u::u::u::u::u::u::u::u::u::u::u::[])) rfl ?_
   exact Bn Dp ⟨_,(Option.some.inj h).symm,rfl,hS⟩
 ·obtain ⟨EL,Dg,rfl,hS⟩:=hq;obtain rfl:=Dg.symm;replace h:=g7;try dsimp only at h
  refine AE FG ?_;refine Aw fun Js Fv=> ?_;refine AS gC ?_;try simp only [W,EE,Nat.reduceAdd,Nat.reduceBEq,hS.var 0 rfl]
  refine A9 (a:= .int .i64 (IntKind.i64.wrap (a0.Ds+1))) (y' := .agg [.fz (a0.Code.map (AV.int .u8)),.int .i64 (IntKind.i64.wrap (a0.Ds+1)),.int .u64 a0.Dw]) 0 hS rfl rfl rfl rfl rfl rfl rfl rfl fun H hS=> ?_
  try simp only [W]
  refine AE Fv ?_;refine Aw fun Lb FH=> ?_;refine AS gC ?_;try simp only [W,EE,Nat.reduceAdd,Nat.reduceBEq,hS.var 0 rfl]
  refine A9 (a:= .int .u64 (IntKind.u64.wrap ((IntKind.u64.wrap ((IntKind.u64.wrap (a0.Dw*6364136223846793005))+(IntKind.u64.wrap EL)))+1442695040888963407))) (y' := .agg [.fz (a0.Code.map (AV.int .u8)),.int .i64 (IntKind.i64.wrap (a0.Ds+1)),.int .u64 (IntKind.u64.wrap ((IntKind.u64.wrap ((IntKind.u64.wrap (a0.Dw*6364136223846793005))+(IntKind.u64.wrap EL)))+1442695040888963407))]) 0 hS rfl rfl rfl rfl rfl rfl rfl rfl fun H hS=> ?_
  try simp only [W]
  refine AE FH ?_;refine Aw fun Nq GU=> ?_;refine Aw fun OM GV=> ?_;refine AU gC (by kernel_rfl) ?_
  try simp only [W,EE,Nat.reduceAdd,Nat.reduceBEq,hS.var 0 rfl]
  refine AE GV ?_;refine AB ?_;simp only [W];refine AR h (fun hc h=> ?_) (fun hc h=> ?_)
  ·refine Aw fun J2 FI=> ?_;refine AS gC ?_;try simp only [W,Nat.reduceAdd]
   refine AE FI ?_;refine Az ?_;refine AF GU ?_;refine AO C8 rfl ?_;try obtain rfl:=Option.some.inj h
   exact hP _ hS
  ·refine Ay ?_;refine AE GU ?_;refine Aw fun Hk Ek=> ?_;refine AS gC ?_;try simp only [W,EE,Nat.reduceAdd,Nat.reduceBEq,hS.var 0 rfl]
   rw [Bq _ _ _ rfl,Option.map_some,so];try simp only [W,EE]
   refine AE Ek ?_;refine Az ?_;refine AO C8 rfl ?_;try obtain rfl:=Option.some.inj h
   exact hP _ hS
theorem GB {a0:Du} {a1:Int} {i0:Nat} {w0:Nat} {r:(Int×Du)} (h:Fa a0 a1=some r) {F:List It} {H:J} (hS:ay H (⟨.ptr i0 w0 0 0,3,[.agg [.fz (a0.Code.map (AV.int .u8)),.int .i64 a0.Ds,.int .u64 a0.Dw]]⟩::F)) {P:AV→J→Prop} (hP: ∀H',ay H' (⟨.ptr i0 w0 0 0,3,[.agg [.fz (r.2.Code.map (AV.int .u8)),.int .i64 r.2.Ds,.int .u64 r.2.Dw]]⟩::F)→P (.int .i64 r.1) H'):au C 162 [.ptr i0 w0 0 0,.int .i64 a1] H P:=by
 refine AW gC (res:=[.tmp 4]) (n:=20) rfl rfl rfl rfl fun K0 C8=> ?_;simp only [W,Nat.reduceSub,Nat.reduceAdd,List.replicate];unfold Fa at h;refine Aw fun K1 Da=> ?_;refine AS gC ?_;try simp only [W,Nat.reduceAdd]
 refine AE Da ?_;refine Aw fun K2 yP=> ?_;refine Aw fun K3 FG=> ?_;refine AS gC ?_;try simp only [W,EE,Nat.reduceAdd]
 refine AE FG ?_;refine AB ?_;simp only [W];refine AR h (fun hc h=> ?_) (fun hc h=> ?_)
 ·refine Aw fun K4 Df=> ?_;refine AS gC ?_;try simp only [W,Nat.reduceAdd]
  refine AE Df ?_;refine Az ?_;refine AF yP ?_;refine AO C8 rfl ?_;try obtain rfl:=Option.some.inj h
  exact hP _ hS
 ·refine Ay ?_;refine AE yP ?_;refine Aw fun K5 D7=> ?_;refine AS gC ?_;try simp only [W,Nat.reduceAdd]
  refine Bh h fun Fb Ii h=> ?_;obtain ⟨C9,Dr⟩:=Fb;try dsimp only at h
  refine SK Ii hS fun H hS=> ?_;try simp only [W]
  refine AE D7 ?_;refine Aw fun K9 Dy=> ?_;refine Aw fun HS DG=> ?_;refine AS gC ?_;try simp only [W,EE,Nat.reduceAdd]
  refine AE DG ?_;obtain ⟨Nr,h,Ns⟩:=Option.bind_eq_some_iff.1 h;refine Bm gC (fun s H=> ∃FY:Int,∃Ei:List Int,∃Gr:Int,∃EF:Int,Nr=(FY,Ei,Gr,EF)∧s=[u,.int .i64 a1,u,u,u,.int .i64 FY,u,u,u,u,u,u,u,u,u,u,u,u,u,u]∧ay H (⟨.ptr i0 w0 0 0,3,[.agg [.fz (Ei.map (AV.int .u8)),.int .i64 Gr,.int .u64 EF]]⟩::F)) (fun GX Ea=> ?_) (fun s H hq=> ?_)
  ·refine Aw fun Ij EB=> ?_;refine AB ?_;simp only [W];refine AR h (fun hc h=> ?_) (fun hc h=> ?_)
   ·refine AS gC ?_;try simp only [W,EE,Nat.reduceAdd]
    refine Bh h fun Ot SL h=> ?_;obtain ⟨Fj,De⟩:=Ot;try dsimp only at h
    refine SK SL hS fun H hS=> ?_;try simp only [W,EE]
    refine AE EB ?_;refine AD ?_;exact Bn Ea ⟨_,_,_,_,(Option.some.inj h).symm,rfl,hS⟩
   ·refine Ay ?_;refine AE EB ?_;refine AD ?_;exact Bn Ea ⟨_,_,_,_,(Option.some.inj h).symm,rfl,hS⟩
  ·obtain ⟨FY,Ei,Gr,EF,rfl,rfl,hS⟩:=hq;replace h:=Ns;try dsimp only at h
   refine AE Dy ?_;refine Aw fun Ik E0=> ?_;refine AS gC ?_;try simp only [W,EE,Nat.reduceAdd]
   refine AZ _ h fun Ed aao h=> ?_;try simp only [W]
   refine AE E0 ?_;refine Az ?_;refine AO C8 rfl ?_;try obtain rfl:=Option.some.inj h
   exact hP _ hS
theorem Qq {a0:Du} {a1:Int} {i0:Nat} {w0:Nat} {r:(Bool×Du)} (h:Jd a0 a1=some r) {F:List It} {H:J} (hS:ay H (⟨.ptr i0 w0 0 0,3,[.agg [.fz (a0.Code.map (AV.int .u8)),.int .i64 a0.Ds,.int .u64 a0.Dw]]⟩::F)) {P:AV→J→Prop} (hP: ∀H',ay H' (⟨.ptr i0 w0 0 0,3,[.agg [.fz (r.2.Code.map (AV.int .u8)),.int .i64 r.2.Ds,.int .u64 r.2.Dw]]⟩::F)→P (.bool r.1) H'):au C 188 [.ptr i0 w0 0 0,.int .i64 a1] H P:=by
 refine AW gC (res:=[.tmp 4]) (n:=9) rfl rfl rfl rfl fun K0 C8=> ?_;simp only [W,Nat.reduceSub,Nat.reduceAdd,List.replicate];unfold Jd at h;refine Aw fun K1 Da=> ?_;refine AS gC ?_;try simp only [W,Nat.reduceAdd]
 refine AE Da ?_;refine Aw fun K2 yP=> ?_;refine AS gC ?_;try simp only [W,Nat.reduceAdd]
 refine Bh h fun b3 kq h=> ?_;obtain ⟨HH,DQ⟩:=b3;try dsimp only at h
 refine GB kq hS fun H hS=> ?_;try simp only [W,EE]
 refine AE yP ?_;refine Az ?_;refine AO C8 rfl ?_;try obtain rfl:=Option.some.inj h
 exact hP _ hS
theorem SM {a0:Du} {a1:List Int} {i0:Nat} {w0:Nat} {r:(Int×Du)} (h:JU a0 a1=some r) {F:List It} {H:J} (hS:ay H (⟨.ptr i0 w0 0 0,3,[.agg [.fz (a0.Code.map (AV.int .u8)),.int .i64 a0.Ds,.int .u64 a0.Dw]]⟩::F)) {P:AV→J→Prop} (hP: ∀H',ay H' (⟨.ptr i0 w0 0 0,3,[.agg [.fz (r.2.Code.map (AV.int .u8)),.int .i64 r.2.Ds,.int .u64 r.2.Dw]]⟩::F)→P (.int .i64 r.1) H'):au C 163 [.ptr i0 w0 0 0,.fz (a1.map (AV.int .i64))] H P:=by
 refine AW gC (res:=[.tmp 4]) (n:=12) rfl rfl rfl rfl fun K0 C8=> ?_;simp only [W,Nat.reduceSub,Nat.reduceAdd,List.replicate];unfold JU at h;refine Aw fun K1 Da=> ?_;refine AS gC ?_;try simp only [W,Nat.reduceAdd]
 refine AE Da ?_;refine Aw fun K2 yP=> ?_;refine AS gC ?_;try simp only [W,EE,Nat.reduceAdd]
 refine Bh h fun b3 kq h=> ?_;obtain ⟨HH,DQ⟩:=b3;try dsimp only at h
 refine GB kq hS fun H hS=> ?_;try simp only [W,EE]
 refine Ba rfl rfl rfl (fun _=>rfl) h fun Fb Ii h=> ?_;try simp only [W,EE]
 refine AE yP ?_;refine Az ?_;refine AO C8 rfl ?_;try obtain rfl:=Option.some.inj h
 exact hP _ hS
theorem Jt {a0:Int} {a1:Int} {a2:Int} {r:(Bool)} (h:Ha a0 a1 a2=some r) {F:List It} {H:J} (hS:ay H (F)) {P:AV→J→Prop} (hP: ∀H',ay H' (F)→P (.bool r) H'):au C 164 [.int .i64 a0,.int .i64 a1,.int .i64 a2] H P:=by
 refine AW gC (res:=[.tmp 6]) (n:=15) rfl rfl rfl rfl fun K0 C8=> ?_;simp only [W,Nat.reduceSub,Nat.reduceAdd,List.replicate];unfold Ha at h;refine Aw fun K1 Da=> ?_;refine AS gC ?_;try simp only [W,Nat.reduceAdd]
 refine AE Da ?_;refine Aw fun K2 yP=> ?_;refine AS gC ?_;try simp only [W,EE,Nat.reduceAdd]
 refine BE h (fun hc h=> ?_) (fun hc h=> ?_)
 ·try simp only [W,EE,reduceIte,hc]
  refine AE yP ?_;refine Az ?_;refine AO C8 rfl ?_;try obtain rfl:=Option.some.inj h
  exact hP _ hS
 ·try simp only [W,hc]
  refine AE yP ?_;refine Az ?_;refine AO C8 rfl ?_;try obtain rfl:=Option.some.inj h
  exact hP _ hS
theorem SN {a0:Du} {i0:Nat} {w0:Nat} {r:(List Dc×Du)} (h:KH a0=some r) {F:List It} {H:J} (hS:ay H (⟨.ptr i0 w0 0 0,3,[.agg [.fz (a0.Code.map (AV.int .u8)),.int .i64 a0.Ds,.int .u64 a0.Dw]]⟩::F)) {P:AV→J→Prop} (hP: ∀HT:AV,bm HT→ ∀H',ay H' (⟨HT,2,r.1.map Ge⟩::⟨.ptr i0 w0 0 0,3,[.agg [.fz (r.2.Code.map (AV.int .u8)),.int .i64 r.2.Ds,.int .u64 r.2.Dw]]⟩::F)→P (HT) H'):au C 208 [.ptr i0 w0 0 0] H P:=by
 refine AW gC (res:=[.tmp 2]) (n:=53) rfl rfl rfl rfl fun K0 C8=> ?_;simp only [W,Nat.reduceSub,Nat.reduceAdd,List.replicate];unfold KH at h;refine Aw fun K1 Da=> ?_;refine AS gC ?_;try simp only [W,Nat.reduceAdd]
 refine AE Da ?_;refine Aw fun K2 yP=> ?_;refine AS gC ?_;try simp only [W,Nat.reduceAdd]
 refine AE yP ?_;refine Aw fun K3 FG=> ?_;refine AS gC ?_;try simp only [W,Nat.reduceAdd]
 refine Bh h fun HH Nt h=> ?_;obtain ⟨DQ,Fb⟩:=HH;try dsimp only at h
 refine GB Nt hS fun H hS=> ?_;try simp only [W]
 refine AE FG ?_;refine Aw fun K7 Ez=> ?_;refine Aw fun K8 Dp=> ?_;refine AS gC ?_;try simp only [W,Nat.reduceAdd]
 refine Bh h fun Db HU h=> ?_;obtain ⟨DP,C_⟩:=Db;try dsimp only at h
 refine Qq HU hS fun H hS=> ?_;try simp only [W]
 refine AE Dp ?_;obtain ⟨SO,h,ON⟩:=Option.bind_eq_some_iff.1 h;refine Bm gC (fun s H=> ∃Ei:Int,∃Gr:List Int,∃EF:Int,∃L6:Int,SO=(Ei,Gr,EF,L6)∧s=[.ptr i0 w0 0 0,u,u,.nil,.int .i64 Ei,u,u,u,u,u,u,u,u,u,u,u,u,u,u,u,u,u,u,u,u,u,u,u,u,u,u,u,u,u,u,u,u,u,u,u,u,u,u,u,u,u,u,u,u,u,u,u,u]∧ay H (⟨.ptr i0 w0 0 0,3,[.agg [.fz (Gr.map (AV.int .u8)),.int .i64 EF,.int .u64 L6]]⟩::F)) (fun Ij EB=> ?_) (fun s H hq=> ?_)
 ·refine Aw fun Hl Es=> ?_;refine AB ?_;simp only [W];refine AR h (fun hc h=> ?_) (fun hc h=> ?_)
  ·refine AS gC ?_;try simp only [W,Nat.reduceAdd]
   refine Bh h fun Fj Nu h=> ?_;obtain ⟨De,DK⟩:=Fj;try dsimp only at h
   refine GB Nu hS fun H hS=> ?_;try simp only [W,EE]
   refine AE Es ?_;refine AD ?_;exact Bn EB ⟨_,_,_,_,(Option.some.inj h).symm,rfl,hS⟩
  ·refine Ay ?_;refine AE Es ?_;refine AD ?_;exact Bn EB ⟨_,_,_,_,(Option.some.inj h).symm,rfl,hS⟩
 ·obtain ⟨Ei,Gr,EF,L6,rfl,rfl,hS⟩:=hq;replace h:=ON;try dsimp only at h
  refine AE Ez ?_;refine Aw fun Nv GY=> ?_;obtain ⟨J3,U1,U2⟩:=Option.bind_eq_some_iff.1 h;refine Bm gC (fun s H=> ∃DM:List Dc,∃EG:List Int,∃Ee:Int,∃Dt:Int,J3=(DM,EG,Ee,Dt)∧ ∃Fg:AV,bm Fg∧s=[.ptr i0 w0 0 0,u,u,Fg,u,u,u,u,u,u,u,u,u,u,u,u,u,u,u,u,u,u,u,u,u,u,u,u,u,u,u,u,u,u,u,u,u,u,u,u,u,u,u,u,u,u,u,u,u,u,u,u,u]∧ay H (⟨Fg,2,DM.map Ge⟩::⟨.ptr i0 w0 0 0,3,[.agg [.fz (EG.map (AV.int .u8)),.int .i64 Ee,.int .u64 Dt]]⟩::F)) (fun Lc FQ=> ?_) (fun s H hq=> ?_)
  ·refine Ax fun Nw GC=> ?_;refine Bi gC U1 (fun x s H=>match x with|(DL,D5,D8,DS,DU)=> ∃FJ:AV,bm FJ∧s=[.ptr i0 w0 0 0,u,u,FJ,.int .i64 D5,u,u,u,u,u,u,u,u,u,u,u,u,u,u,u,u,u,u,u,u,u,u,u,u,u,u,u,u,u,u,u,u,u,u,u,u,u,u,u,u,u,u,u,u,u,u,u,u]∧ay H (⟨FJ,2,DL.map Ge⟩::⟨.ptr i0 w0 0 0,3,[.agg [.fz (D8.map (AV.int .u8)),.int .i64 DS,.int .u64 DU]]⟩::F)) ⟨_,mQ,rfl,(hS.za 2)⟩ (fun x y42 s H h U3 hi OO Hm=> ?_)
   obtain ⟨DL,D5,D8,DS,DU⟩:=x;try dsimp only at hi
   obtain ⟨FJ,Ju,rfl,hS⟩:=hi;simp only [Ok] at h;refine Aw fun U4 OP=> ?_;refine Aw fun SP J4=> ?_;refine AS gC ?_;try simp only [W,EE,Nat.reduceAdd]
   refine AE J4 ?_;refine AB ?_;simp only [W];refine AR h (fun hc h=> ?_) (fun hc h=> ?_)
   ·refine Ay ?_;refine AE OP ?_;refine Aw fun Qr IP=> ?_;refine Ax fun OQ Il=> ?_;refine Aw fun SQ Ld=> ?_;refine AT (fz:=[(2,[([18],[.sl [.sc]])])]) gC ?_;try simp only [W,Nat.reduceAdd,Nat.reduceBEq]
    refine Bg (el:=([1,2,2,2,2,2,2,3,4,4,5,6]:List Int).map (AV.int .i64)) hS rfl rfl rfl rfl rfl rfl rfl fun SR H Nx hS=> ?_;try simp only [W,Nat.reduceAdd]
    refine Bw 0 hS rfl Nx rfl (fun _ _=>by simp [aX,aO,dl]) (fun _=>rfl) fun H rb hS=> ?_
    try simp only [W]
    refine Bh h fun Dv J5 h=> ?_;obtain ⟨HI,L5⟩:=Dv;try dsimp only at h
    refine SM J5 (hS.BA 2 [1,0] (by decide)) fun H hS=> ?_
    try simp only [W,EE,Nat.reduceAdd,Nat.reduceBEq]
    refine BF rfl rfl rfl rfl rfl ?_;try simp only [W,Nat.reduceAdd,Nat.reduceBEq]
    refine A8 hS rfl rfl fun OR OS H hS=> ?_;try simp only [W,Nat.reduceAdd,Nat.reduceBEq]
    refine A9 (a:= .agg [.int .i64 HI,.int .i64 0]) (y' := .agg [.int .i64 HI,.int .i64 0]) 0 hS rfl rfl rfl rfl rfl rfl rfl rfl fun H hS=> ?_
    try simp only [W,Nat.reduceAdd]
    refine AE Ld ?_;refine Aw fun OT Hn=> ?_;refine Aw fun OU HV=> ?_;refine AS gC ?_;try simp only [W,EE,Nat.reduceAdd,Nat.reduceBEq,hS.var 0 rfl]
    refine Bh h fun JV Qs h=> ?_;refine Jt Qs hS fun H hS=> ?_;try simp only [W]
    refine AE HV ?_;obtain ⟨SS,h,Qt⟩:=Option.bind_eq_some_iff.1 h;refine Bm gC (fun s H=> ∃EU:List Int,∃DR:Int,∃EY:Int,∃Ej:Int,SS=(EU,DR,EY,Ej)∧s=[.ptr i0 w0 0 0,u,u,FJ,.int .i64 D5,.ptr OR OS 0 0,u,u,u,u,u,u,u,u,u,u,u,u,u,u,u,u,u,u,u,u,u,u,u,u,u,u,u,u,u,u,u,u,u,u,u,u,u,u,u,u,u,u,u,u,u,u,u]∧ay H (⟨FJ,2,DL.map Ge⟩::⟨.ptr i0 w0 0 0,3,[.agg [.fz (EU.map (AV.int .u8)),.int .i64 DR,.int .u64 EY]]⟩::⟨.ptr OR OS 0 0,2,[.agg [.int .i64 HI,.int .i64 Ej]]⟩::F)) (fun Qu Im=> ?_) (fun s H hq=> ?_)
    ·refine Aw fun SU J6=> ?_;refine AB ?_;simp only [W];refine AR h (fun hc h=> ?_) (fun hc h=> ?_)
     ·refine AS gC ?_;try simp only [W,Nat.reduceAdd]
      refine Bh h fun U5 U6 h=> ?_;obtain ⟨KF,Je⟩:=U5;try dsimp only at h
      refine GB U6 (hS.BA 3 [1,0,2] (by decide)) fun H hS=> ?_
      try simp only [W,EE,Nat.reduceAdd,Nat.reduceBEq,hS.var 1 rfl]
      refine A9 (a:= .int .i64 KF) (y' := .agg [.int .i64 HI,.int .i64 KF]) 1 hS rfl rfl rfl rfl rfl rfl rfl rfl fun H hS=> ?_
      try simp only [W]
      refine AE J6 ?_;refine AD ?_;exact Bn Im ⟨_,_,_,_,(Option.some.inj h).symm,rfl,(hS.BA 3 [2,0,1] (by decide))⟩
     ·refine Ay ?_;refine AE J6 ?_;refine AD ?_;exact Bn Im ⟨_,_,_,_,(Option.some.inj h).symm,rfl,(hS.BA 3 [2,1,0] (by decide))⟩
    ·obtain ⟨EU,DR,EY,Ej,rfl,rfl,hS⟩:=hq;replace h:=Qt;try dsimp only at h
     refine AE Hn ?_;refine Aw fun Qv IQ=> ?_;refine Aw fun SV Ny=> ?_;refine AS gC ?_;try simp only [W,EE,Nat.reduceAdd,Nat.reduceBEq,hS.var 2 rfl]
     refine AE Ny ?_;obtain ⟨U7,h,U8⟩:=Option.bind_eq_some_iff.1 h;refine Bm gC (fun s H=> ∃Et:List Int,∃Fo:Int,∃FA:Int,∃DV:Int,U7=(Et,Fo,FA,DV)∧s=[.ptr i0 w0 0 0,u,u,FJ,.int .i64 D5,.ptr OR OS 0 0,u,u,u,u,u,u,u,u,u,u,u,u,u,u,u,u,u,u,u,u,u,u,u,u,u,u,u,u,u,u,u,u,u,u,u,u,u,u,u,u,u,u,u,u,u,u,u]∧ay H (⟨FJ,2,DL.map Ge⟩::⟨.ptr i0 w0 0 0,3,[.agg [.fz (Et.map (AV.int .u8)),.int .i64 Fo,.int .u64 FA]]⟩::⟨.ptr OR OS 0 0,2,[.agg [.int .i64 HI,.int .i64 DV]]⟩::F)) (fun U9 OV=> ?_) (fun s H hq=> ?_)
     ·refine Aw fun U_ Nz=> ?_;refine AB ?_;simp only [W];refine AR h (fun hc h=> ?_) (fun hc h=> ?_)
      ·refine AS gC ?_;try simp only [W,Nat.reduceAdd]
       refine Bh h fun Va Vb h=> ?_;obtain ⟨KG,Fz⟩:=Va;try dsimp only at h
       refine GB Vb (hS.BA 3 [1,0,2] (by decide)) fun H hS=> ?_
       try simp only [W,EE,Nat.reduceAdd,Nat.reduceBEq,hS.var 2 rfl]
       refine A9 (a:= .int .i64 KG) (y' := .agg [.int .i64 HI,.int .i64 KG]) 2 hS rfl rfl rfl rfl rfl rfl rfl rfl fun H hS=> ?_
       try simp only [W]
       refine AE Nz ?_;refine AD ?_;exact Bn OV ⟨_,_,_,_,(Option.some.inj h).symm,rfl,(hS.BA 3 [1,0,2] (by decide))⟩
      ·refine Ay ?_;refine AE Nz ?_;refine AD ?_;exact Bn OV ⟨_,_,_,_,(Option.some.inj h).symm,rfl,hS⟩
     ·obtain ⟨Et,Fo,FA,DV,rfl,rfl,hS⟩:=hq;replace h:=U8;try dsimp only at h
      refine AE IQ ?_;refine AS gC ?_;try simp only [W,EE,reduceIte,Nat.reduceAdd,Nat.reduceLeDiff,hS.var 2 rfl]
      refine Bg (el:=([(⟨HI,DV⟩:Dc)]:List Dc).map Ge) hS rfl rfl rfl rfl rfl rfl rfl fun GZ H Jv hS=> ?_;try simp only [W,EE]
      refine Bu (l:=DL) (c:=Ge) 1 hS rfl Ju rfl rfl rfl (hS.hI 0 rfl Jv) (fun _=>rfl) rfl h fun NA H Jf Qw hm h hS=> ?_;try simp only [W]
      refine AJ Il ?_;refine AE IP ?_;refine AS gC ?_;try simp only [W,EE,Nat.reduceAdd]
      exact Bj Hm h ⟨_,Qw,rfl,(hS.BA 4 [1,2] (by decide))⟩
   ·refine AA ?_;refine AG OP ?_;try obtain rfl:=Option.some.inj h
    obtain rfl:=U3 _ rfl;have h:(some (DL,D8,DS,DU):Option ((List Dc)×(List Int)×Int×Int))=some (DL,D8,DS,DU):=rfl;refine Bk Hm ?_;refine AK GC ?_;exact Bn FQ ⟨_,_,_,_,(Option.some.inj h).symm,_,Ju,rfl,hS⟩
  ·obtain ⟨DM,EG,Ee,Dt,rfl,Fg,Io,rfl,hS⟩:=hq;replace h:=U2;try dsimp only at h
   refine AE GY ?_;refine Aw fun Qx Ho=> ?_;refine Aw fun Vc IS=> ?_;obtain ⟨Vd,h,Ve⟩:=Option.bind_eq_some_iff.1 h;refine Bm gC (fun s H=> ∃L7:Bool,∃Hb:List Int,∃Hc:Int,∃Hd:Int,Vd=(L7,Hb,Hc,Hd)∧s=[.ptr i0 w0 0 0,u,u,Fg,u,u,u,u,u,u,u,u,u,u,u,u,u,u,u,u,u,u,u,u,u,u,u,u,u,u,u,u,u,u,u,u,u,u,u,u,u,u,u,.bool L7,u,u,u,u,u,u,u,u,u]∧ay H (⟨Fg,2,DM.map Ge⟩::⟨.ptr i0 w0 0 0,3,[.agg [.fz (Hb.map (AV.int .u8)),.int .i64 Hc,.int .u64 Hd]]⟩::F)) (fun Vf OW=> ?_) (fun s H hq=> ?_)
   ·refine Aw fun K99 SW=> ?_;refine AS gC ?_;try simp only [W,EE,Nat.reduceAdd]
    refine Be 0 hS rfl Io rfl ?_;try simp only [W,EE]
    refine BE h (fun hc h=> ?_) (fun hc h=> ?_)
    ·try simp only [W,hc]
     refine Bh h fun Vg Vh h=> ?_;obtain ⟨Sb,F0⟩:=Vg;try dsimp only at h
     refine Qq Vh (hS.BA 2 [1,0] (by decide)) fun H hS=> ?_
     try simp only [W,reduceIte]
     refine AE SW ?_;refine AD ?_;exact Bn OW ⟨_,_,_,_,(Option.some.inj h).symm,rfl,(hS.BA 2 [1,0] (by decide))⟩
    ·try simp only [W,hc]
     refine AE SW ?_;refine AD ?_;exact Bn OW ⟨_,_,_,_,(Option.some.inj h).symm,rfl,hS⟩
   ·obtain ⟨L7,Hb,Hc,Hd,rfl,rfl,hS⟩:=hq;replace h:=Ve;try dsimp only at h
    refine AE IS ?_;obtain ⟨Vi,h,Vj⟩:=Option.bind_eq_some_iff.1 h;refine Bm gC (fun s H=> ∃Gs:List Dc,∃HJ:List Int,∃HK:Int,∃ID:Int,Vi=(Gs,HJ,HK,ID)∧s=[u,u,u,Fg,u,u,u,u,u,u,u,u,u,u,u,u,u,u,u,u,u,u,u,u,u,u,u,u,u,u,u,u,u,u,u,u,u,u,u,u,u,u,u,u,u,u,u,u,u,u,u,u,u]∧ay H (⟨Fg,2,Gs.map Ge⟩::⟨.ptr i0 w0 0 0,3,[.agg [.fz (HJ.map (AV.int .u8)),.int .i64 HK,.int .u64 ID]]⟩::F)) (fun Vk NB=> ?_) (fun s H hq=> ?_)
    ·refine Aw fun SX Le=> ?_;refine AB ?_;simp only [W];refine AR h (fun hc h=> ?_) (fun hc h=> ?_)
     ·refine AS gC ?_;try simp only [W,Nat.reduceAdd]
      refine Bh h fun Vl Vm h=> ?_;obtain ⟨DW,D9⟩:=Vl;try dsimp only at h
      refine GB Vm (hS.BA 2 [1,0] (by decide)) fun H hS=> ?_
      try simp only [W]
      refine Bh h fun D2 Qy h=> ?_;obtain ⟨Ol,Om⟩:=D2;try dsimp only at h
      refine GB Qy hS fun H hS=> ?_;try simp only [W,EE]
      refine BF rfl rfl rfl rfl rfl ?_;try simp only [W,EE]
      refine Bb 1 hS rfl rfl rfl rfl rfl h (fun aap aaq aar aas SY h SZ=> ?_) Io.ne;obtain ⟨aat,aau,aav⟩:=hS.elem 1 rfl SZ SY;try simp only [W]
      refine Bc (a:= .agg [.int .i64 DW,.int .i64 (IntKind.i64.wrap (Ol-1))]) (y' :=(⟨DW,(IntKind.i64.wrap (Ol-1))⟩:Dc)) 1 hS rfl SZ SY rfl rfl rfl rfl rfl rfl rfl fun H hS=> ?_
      try simp only [W]
      refine AE Le ?_;refine AD ?_;exact Bn NB ⟨_,_,_,_,(Option.some.inj h).symm,rfl,(hS.BA 2 [1,0] (by decide))⟩
     ·refine Ay ?_;refine AE Le ?_;refine AD ?_;exact Bn NB ⟨_,_,_,_,(Option.some.inj h).symm,rfl,hS⟩
    ·obtain ⟨Gs,HJ,HK,ID,rfl,rfl,hS⟩:=hq;replace h:=Vj;try dsimp only at h
     refine AE Ho ?_;refine Aw fun Vn Qz=> ?_;refine AS gC ?_;try simp only [W,Nat.reduceAdd]
     refine AE Qz ?_;refine Az ?_;refine AO C8 rfl ?_;try obtain rfl:=Option.some.inj h
     exact hP _ Io _ hS
theorem QA {r:(C5)} (h:IE=some r) {F:List It} {H:J} (hS:ay H (F)) {P:AV→J→Prop} (hP: ∀Jw:AV,bm Jw→ ∀J7:AV,bm J7→ ∀E7:AV,bm E7→ ∀H',ay H' (⟨Jw,3,r.C2.map CV⟩::⟨J7,3,r.C3.map CV⟩::⟨E7,3,r.C4.map CV⟩::F)→P (.agg [.int .i64 r.C0,.int .i64 r.CY,.int .i64 r.X,.int .i64 r.Y,.int .i64 r.C1,.int .i64 r.CZ,.int .i64 r.CW,.int .i64 r.CX,Jw,J7,E7]) H'):au C 83 [] H P:=by
 refine AW gC (res:=[.cell 0 73]) (n:=2) rfl rfl rfl rfl fun K0 C8=> ?_;simp only [W,Nat.reduceSub,List.replicate];unfold IE at h;refine Aw fun K1 Da=> ?_;refine AS gC ?_;try simp only [W,Nat.reduceAdd]
 refine A8 hS rfl rfl fun C6 C7 H hS=> ?_;try simp only [W]
 refine AE Da ?_;refine Aw fun K4 Df=> ?_;refine AS gC ?_;try simp only [W,EE,Nat.reduceAdd]
 refine BF rfl rfl rfl rfl rfl ?_;try simp only [W]
 refine A9 (a:= .agg [.int .i64 0,.int .i64 0,.int .i64 0,.int .i64 0,.int .i64 0,.int .i64 0,.int .i64 100,.int .i64 0,.nil,.nil,.nil]) (y' := .agg [.int .i64 0,.int .i64 0,.int .i64 0,.int .i64 0,.int .i64 0,.int .i64 0,.int .i64 100,.int .i64 0,.nil,.nil,.nil]) 0 hS rfl rfl rfl rfl rfl rfl rfl rfl fun H hS=> ?_
 try simp only [W]
 refine AE Df ?_;refine Az ?_;refine AN C8 (BC rfl rfl (hS.var 0 rfl) rfl rfl) ?_;try obtain rfl:=Option.some.inj h
 exact hP _ mQ _ mQ _ mQ _ ((((hS.za 3).za 3).za 3).BA 4 [0,1,2] (by decide))
theorem Lf {a0:C5} {r:(C5)} (h:He a0=some r) {F:List It} {H:J} (hS:ay H (F)) {P:AV→J→Prop} (hP: ∀IT:AV,bm IT→ ∀HW:AV,bm HW→ ∀Gm:AV,bm Gm→ ∀H',ay H' (⟨IT,3,r.C2.map CV⟩::⟨HW,3,r.C3.map CV⟩::⟨Gm,3,r.C4.map CV⟩::F)→P (.agg [.int .i64 r.C0,.int .i64 r.CY,.int .i64 r.X,.int .i64 r.Y,.int .i64 r.C1,.int .i64 r.CZ,.int .i64 r.CW,.int .i64 r.CX,IT,HW,Gm]) H'):au C 212 [.agg [.int .i64 a0.C0,.int .i64 a0.CY,.int .i64 a0.X,.int .i64 a0.Y,.int .i64 a0.C1,.int .i64 a0.CZ,.int .i64 a0.CW,.int .i64 a0.CX,.fz (a0.C2.map CV),.fz (a0.C3.map CV),.fz (a0.C4.map CV)]] H P:=by
 refine AW gC (res:=[.cell 2 73]) (n:=19) rfl rfl rfl rfl fun K0 C8=> ?_;simp only [W,Nat.reduceSub,Nat.reduceAdd,List.replicate];unfold He at h;refine Aw fun K1 Da=> ?_;refine AS gC ?_;try simp only [W,Nat.reduceAdd]
 refine A7 hS rfl rfl rfl rfl fun C6 C7 H hS=> ?_;try simp only [W]
 refine A8 hS rfl rfl fun Dz DA H hS=> ?_;try simp only [W]
 refine AE Da ?_;refine Aw fun K6 Dx=> ?_;refine AS gC ?_;try simp only [W,Nat.reduceAdd]
 refine Bf rfl rfl ?_;try simp only [W,EE,Nat.reduceAdd,Nat.reduceBEq,hS.var 1 rfl]
 have hS:=hS.zb 3;refine Bu (l:=([]:List Hello)) (c:=CV) 0 hS rfl mR rfl rfl rfl rfl (fun _=>rfl) rfl h fun E7 H L8 Gf hm h hS=> ?_;try simp only [W,EE,Nat.reduceAdd,Nat.reduceBEq,hS.var 2 rfl]
 refine A9 (a:=E7) (y' := .agg [.int .i64 a0.C0,.int .i64 a0.CY,.int .i64 a0.X,.int .i64 a0.Y,.int .i64 a0.C1,.int .i64 a0.CZ,.int .i64 a0.CW,.int .i64 a0.CX,E7,.fz (a0.C3.map CV),.fz (a0.C4.map CV)]) 2 hS rfl rfl rfl rfl (by rw [Gf.cells];rfl) Gf.Bd (Gf.wr _ _ (by simp)) rfl fun H hS=> ?_
 try simp only [W]
 refine AE Dx ?_;refine Aw fun Js Fv=> ?_;refine AS gC ?_;try simp only [W,Nat.reduceAdd]
 refine Bf rfl rfl ?_;try simp only [W,EE,Nat.reduceAdd,Nat.reduceBEq,hS.var 2 rfl]
 have hS:=hS.zb 3;refine Bu (l:=([]:List Hello)) (c:=CV) 0 hS rfl mR rfl rfl rfl rfl (fun _=>rfl) rfl h fun EJ H Gr Fh hm h hS=> ?_;try simp only [W,EE,Nat.reduceAdd,Nat.reduceBEq,hS.var 3 rfl]
 refine A9 (a:=EJ) (y' := .agg [.int .i64 a0.C0,.int .i64 a0.CY,.int .i64 a0.X,.int .i64 a0.Y,.int .i64 a0.C1,.int .i64 a0.CZ,.int .i64 a0.CW,.int .i64 a0.CX,E7,EJ,.fz (a0.C4.map CV)]) 3 hS rfl rfl rfl rfl (by rw [Fh.cells];rfl) Fh.Bd (Fh.wr _ _ (by simp)) rfl fun H hS=> ?_
 try simp only [W]
 refine AE Fv ?_;refine Aw fun Hk Ek=> ?_;refine AS gC ?_;try simp only [W,Nat.reduceAdd]
 refine Bf rfl rfl ?_;try simp only [W,EE,Nat.reduceAdd,Nat.reduceBEq,hS.var 3 rfl]
 have hS:=hS.zb 3;refine Bu (l:=([]:List Hello)) (c:=CV) 0 hS rfl mR rfl rfl rfl rfl (fun _=>rfl) rfl h fun Hp H Ef Ip hm h hS=> ?_;try simp only [W,EE,Nat.reduceAdd,Nat.reduceBEq,hS.var 4 rfl]
 refine A9 (a:=Hp) (y' := .agg [.int .i64 a0.C0,.int .i64 a0.CY,.int .i64 a0.X,.int .i64 a0.Y,.int .i64 a0.C1,.int .i64 a0.CZ,.int .i64 a0.CW,.int .i64 a0.CX,E7,EJ,Hp]) 4 hS rfl rfl rfl rfl (by rw [Ip.cells];rfl) Ip.Bd (Ip.wr _ _ (by simp)) rfl fun H hS=> ?_
 try simp only [W]
 refine AE Ek ?_;refine Aw fun IU E8=> ?_;refine AS gC ?_;try simp only [W,EE,reduceIte,Nat.reduceAdd,Nat.reduceLeDiff,hS.var 4 rfl]
 refine A9 (a:= .agg [.int .i64 a0.C0,.int .i64 a0.CY,.int .i64 a0.X,.int .i64 a0.Y,.int .i64 a0.C1,.int .i64 a0.CZ,.int .i64 a0.CW,.int .i64 a0.CX,E7,EJ,Hp]) (y' := .agg [.int .i64 a0.C0,.int .i64 a0.CY,.int .i64 a0.X,.int .i64 a0.Y,.int .i64 a0.C1,.int .i64 a0.CZ,.int .i64 a0.CW,.int .i64 a0.CX,E7,EJ,Hp]) 3 hS rfl rfl rfl rfl rfl (by simp only [dB,List.all_cons,List.all_nil,Gf.pF,Fh.pF,Ip.pF];rfl) rfl rfl fun H hS=> ?_
 try simp only [W]
 refine AE E8 ?_;refine Az ?_;refine AN C8 (BC rfl rfl (hS.var 3 rfl) rfl rfl) ?_;try obtain rfl:=Option.some.inj h
 exact hP _ Gf _ Fh _ Ip _ (hS.BA 5 [2,1,0] (by decide))
theorem OX {a0:C5} {a1:Hello} {Dj:AV} {Di:AV} {Dh:AV} {r:(C5)} (h:Jg a0 a1=some r) {F:List It} {H:J} (hS:ay H (⟨Dj,3,a0.C2.map CV⟩::⟨Di,3,a0.C3.map CV⟩::⟨Dh,3,a0.C4.map CV⟩::F)) (DN:bm Dj) (DZ:bm Di) (DT:bm Dh) {P:AV→J→Prop} (hP: ∀J8:AV,bm J8→ ∀FJ:AV,bm FJ→ ∀Jx:AV,bm Jx→ ∀H',ay H' (⟨J8,3,r.C2.map CV⟩::⟨FJ,3,r.C3.map CV⟩::⟨Jx,3,r.C4.map CV⟩::F)→P (.agg [.int .i64 r.C0,.int .i64 r.CY,.int .i64 r.X,.int .i64 r.Y,.int .i64 r.C1,.int .i64 r.CZ,.int .i64 r.CW,.int .i64 r.CX,J8,FJ,Jx]) H'):au C 301 [.agg [.int .i64 a0.C0,.int .i64 a0.CY,.int .i64 a0.X,.int .i64 a0.Y,.int .i64 a0.C1,.int .i64 a0.CZ,.int .i64 a0.CW,.int .i64 a0.CX,Dj,Di,Dh],.agg [.int .i64 a1.Kind,.int .i64 a1.X,.int .i64 a1.Y]] H P:=by
 refine AW gC (res:=[.cell 4 73]) (n:=16) rfl rfl rfl rfl fun K0 C8=> ?_;simp only [W,Nat.reduceSub,Nat.reduceAdd,List.replicate];unfold Jg at h;refine Aw fun K1 Da=> ?_;refine AS gC ?_;try simp only [W,Nat.reduceAdd]
 refine A7 hS rfl rfl rfl (by simp only [W,dB,List.all_cons,List.all_nil,DN.pF,DZ.pF,DT.pF];rfl) fun C6 C7 H hS=> ?_
 try simp only [W]
 refine A7 hS rfl rfl rfl rfl fun Dz DA H hS=> ?_;try simp only [W]
 refine A8 hS rfl rfl fun DE DF H hS=> ?_;try simp only [W]
 refine AE Da ?_;refine Aw fun K8 Dp=> ?_;refine Aw fun K9 Dy=> ?_;refine AS gC ?_;try simp only [W,EE,Nat.reduceAdd,Nat.reduceBEq,hS.var 2 rfl]
 refine Be 3 hS rfl DN rfl ?_;try simp only [W,EE]
 refine AE Dy ?_;obtain ⟨OY,h,Lg⟩:=Option.bind_eq_some_iff.1 h;refine Bm gC (fun s H=> ∃Jh:List Hello,OY=(Jh)∧ ∃v11:AV,bm v11∧s=[u,u,.ptr C6 C7 0 0,u,.ptr DE DF 0 0,u,u,u,u,u,u,u,u,u,u,u]∧ay H (⟨v11,3,Jh.map CV⟩::⟨Di,3,a0.C3.map CV⟩::⟨Dh,3,a0.C4.map CV⟩::⟨.ptr C6 C7 0 0,11,[.agg [.int .i64 a0.C0,.int .i64 a0.CY,.int .i64 a0.X,.int .i64 a0.Y,.int .i64 a0.C1,.int .i64 a0.CZ,.int .i64 a0.CW,.int .i64 a0.CX,v11,Di,Dh]]⟩::⟨.ptr DE DF 0 0,11,[.agg [.int .i64 0,.int .i64 0,.int .i64 0,.int .i64 0,.int .i64 0,.int .i64 0,.int .i64 0,.int .i64 0,.nil,.nil,.nil]]⟩::F)) (fun J2 FI=> ?_) (fun s H hq=> ?_)
 ·refine Aw fun Hk Ek=> ?_;refine AB ?_;simp only [W];refine AR h (fun hc h=> ?_) (fun hc h=> ?_)
  ·refine AS gC ?_;try simp only [W,EE,reduceIte,Nat.reduceAdd,Nat.reduceLeDiff,Nat.reduceBEq,hS.var 2 rfl,hS.var 1 rfl]
   refine Bg (el:=([a1]:List Hello).map CV) hS rfl rfl rfl rfl rfl rfl rfl fun Hq H IV hS=> ?_;try simp only [W,EE]
   refine Bu (l:=a0.C2) (c:=CV) 4 hS rfl DN rfl rfl rfl (hS.hI 0 rfl IV) (fun _=>rfl) rfl h fun v20 H IF Jy hm h hS=> ?_;try simp only [W,EE,Nat.reduceAdd,Nat.reduceBEq,hS.var 3 rfl]
   refine A9 (a:=v20) (y' := .agg [.int .i64 a0.C0,.int .i64 a0.CY,.int .i64 a0.X,.int .i64 a0.Y,.int .i64 a0.C1,.int .i64 a0.CZ,.int .i64 a0.CW,.int .i64 a0.CX,v20,Di,Dh]) 3 hS rfl rfl rfl rfl (by rw [Jy.cells];rfl) Jy.Bd (Jy.wr _ _ (by simp)) rfl fun H hS=> ?_
   try simp only [W]
   refine AE Ek ?_;refine AD ?_;exact Bn FI ⟨_,(Option.some.inj h).symm,_,Jy,rfl,(hS.BA 7 [4,5,6,3,1] (by decide))⟩
  ·refine Ay ?_;refine AE Ek ?_;refine AD ?_;exact Bn FI ⟨_,(Option.some.inj h).symm,_,DN,rfl,(hS.BA 6 [3,4,5,2,0] (by decide))⟩
 ·obtain ⟨Jh,Dg,v11,Fw,rfl,hS⟩:=hq;obtain rfl:=Dg.symm;replace h:=Lg;try dsimp only at h
  refine AE Dp ?_;refine Aw fun Ik E0=> ?_;refine AS gC ?_;try simp only [W,EE,reduceIte,Nat.reduceAdd,Nat.reduceLeDiff,hS.var 3 rfl]
  refine A9 (a:= .agg [.int .i64 a0.C0,.int .i64 a0.CY,.int .i64 a0.X,.int .i64 a0.Y,.int .i64 a0.C1,.int .i64 a0.CZ,.int .i64 a0.CW,.int .i64 a0.CX,v11,Di,Dh]) (y' := .agg [.int .i64 a0.C0,.int .i64 a0.CY,.int .i64 a0.X,.int .i64 a0.Y,.int .i64 a0.C1,.int .i64 a0.CZ,.int .i64 a0.CW,.int .i64 a0.CX,v11,Di,Dh]) 4 hS rfl rfl rfl rfl rfl (by simp only [dB,List.all_cons,List.all_nil,Fw.pF,DZ.pF,DT.pF];rfl) rfl rfl fun H hS=> ?_
  try simp only [W]
  refine AE E0 ?_;refine Az ?_;refine AN C8 (BC rfl rfl (hS.var 4 rfl) rfl rfl) ?_;try obtain rfl:=Option.some.inj h
  exact hP _ Fw _ DZ _ DT _ (hS.BA 5 [0,1,2] (by decide))
theorem S0 {a0:C5} {Dj:AV} {Di:AV} {Dh:AV} {r:(C5)} (h:On a0=some r) {F:List It} {H:J} (hS:ay H (⟨Dj,3,a0.C2.map CV⟩::⟨Di,3,a0.C3.map CV⟩::⟨Dh,3,a0.C4.map CV⟩::F)) (DN:bm Dj) (DZ:bm Di) (DT:bm Dh) {P:AV→J→Prop} (hP: ∀v10:AV,bm v10→ ∀Fi:AV,bm Fi→ ∀EJ:AV,bm EJ→ ∀H',ay H' (⟨v10,3,r.C2.map CV⟩::⟨Fi,3,r.C3.map CV⟩::⟨EJ,3,r.C4.map CV⟩::F)→P (.agg [.int .i64 r.C0,.int .i64 r.CY,.int .i64 r.X,.int .i64 r.Y,.int .i64 r.C1,.int .i64 r.CZ,.int .i64 r.CW,.int .i64 r.CX,v10,Fi,EJ]) H'):au C 302 [.agg [.int .i64 a0.C0,.int .i64 a0.CY,.int .i64 a0.X,.int .i64 a0.Y,.int .i64 a0.C1,.int .i64 a0.CZ,.int .i64 a0.CW,.int .i64 a0.CX,Dj,Di,Dh]] H P:=by
 refine AW gC (res:=[.cell 2 73]) (n:=7) rfl rfl rfl rfl fun K0 C8=> ?_;simp only [W,Nat.reduceSub,Nat.reduceAdd,List.replicate];unfold On at h;refine Aw fun K1 Da=> ?_;refine AS gC ?_;try simp only [W,Nat.reduceAdd]
 refine A7 hS rfl rfl rfl (by simp only [W,dB,List.all_cons,List.all_nil,DN.pF,DZ.pF,DT.pF];rfl) fun C6 C7 H hS=> ?_
 try simp only [W]
 refine A8 hS rfl rfl fun Dz DA H hS=> ?_;try simp only [W]
 refine AE Da ?_;refine Aw fun K6 Dx=> ?_;refine AS gC ?_;try simp only [W,EE,Nat.reduceAdd,Nat.reduceBEq,hS.var 1 rfl]
 refine A9 (a:= .int .i64 0) (y' := .agg [.int .i64 a0.C0,.int .i64 0,.int .i64 a0.X,.int .i64 a0.Y,.int .i64 a0.C1,.int .i64 a0.CZ,.int .i64 a0.CW,.int .i64 a0.CX,Dj,Di,Dh]) 1 hS rfl rfl rfl rfl rfl rfl rfl rfl fun H hS=> ?_
 try simp only [W]
 refine AE Dx ?_;refine Aw fun K7 Ez=> ?_;refine AS gC ?_;try simp only [W,EE,Nat.reduceAdd,Nat.reduceBEq,hS.var 1 rfl]
 refine A9 (a:= .int .i64 0) (y' := .agg [.int .i64 a0.C0,.int .i64 0,.int .i64 a0.X,.int .i64 a0.Y,.int .i64 0,.int .i64 a0.CZ,.int .i64 a0.CW,.int .i64 a0.CX,Dj,Di,Dh]) 1 hS rfl rfl rfl rfl rfl rfl rfl rfl fun H hS=> ?_
 try simp only [W]
 refine AE Ez ?_;refine Aw fun K8 Dp=> ?_;refine AS gC ?_;try simp only [W,EE,Nat.reduceAdd,Nat.reduceBEq,hS.var 1 rfl]
 refine A9 (a:= .int .i64 0) (y' := .agg [.int .i64 a0.C0,.int .i64 0,.int .i64 a0.X,.int .i64 0,.int .i64 0,.int .i64 a0.CZ,.int .i64 a0.CW,.int .i64 a0.CX,Dj,Di,Dh]) 1 hS rfl rfl rfl rfl rfl rfl rfl rfl fun H hS=> ?_
 try simp only [W]
 refine AE Dp ?_;refine Aw fun K9 Dy=> ?_;refine AS gC ?_;try simp only [W,EE,reduceIte,Nat.reduceAdd,Nat.reduceLeDiff,hS.var 1 rfl]
 refine A9 (a:= .agg [.int .i64 a0.C0,.int .i64 0,.int .i64 a0.X,.int .i64 0,.int .i64 0,.int .i64 a0.CZ,.int .i64 a0.CW,.int .i64 a0.CX,Dj,Di,Dh]) (y' := .agg [.int .i64 a0.C0,.int .i64 0,.int .i64 a0.X,.int .i64 0,.int .i64 0,.int .i64 a0.CZ,.int .i64 a0.CW,.int .i64 a0.CX,Dj,Di,Dh]) 0 hS rfl rfl rfl rfl rfl (by simp only [dB,List.all_cons,List.all_nil,DN.pF,DZ.pF,DT.pF];rfl) rfl rfl fun H hS=> ?_
 try simp only [W]
 refine AE Dy ?_;refine Az ?_;refine AN C8 (BC rfl rfl (hS.var 0 rfl) rfl rfl) ?_;try obtain rfl:=Option.some.inj h
 exact hP _ DN _ DZ _ DT _ (hS.BA 5 [2,3,4] (by decide))
theorem S1 {a0:List Hello} {a1:Int} {a2:Int} {m0:AV} {r:(List Hello)} (h:KI a0 a1 a2=some r) {F:List It} {H:J} (hS:ay H (⟨m0,3,a0.map CV⟩::F)) (Iq:bm m0) {P:AV→J→Prop} (hP: ∀v11:AV,bm v11→ ∀H',ay H' (⟨v11,3,r.map CV⟩::F)→P (v11) H'):au C 323 [m0,.int .i64 a1,.int .i64 a2] H P:=by
 refine AW gC (res:=[.tmp 6]) (n:=17) rfl rfl rfl rfl fun K0 C8=> ?_;simp only [W,Nat.reduceSub,Nat.reduceAdd,List.replicate];unfold KI at h;refine Aw fun K1 Da=> ?_;refine AS gC ?_;try simp only [W,Nat.reduceAdd]
 refine AE Da ?_;refine Aw fun K2 yP=> ?_;refine Aw fun K3 FG=> ?_;refine AS gC ?_;try simp only [W,EE,Nat.reduceAdd]
 refine Be 0 hS rfl Iq rfl ?_;try simp only [W,EE]
 refine AE FG ?_;refine AB ?_;simp only [W];refine AR h (fun hc h=> ?_) (fun hc h=> ?_)
 ·refine Aw fun K4 Df=> ?_;refine AS gC ?_;try simp only [W,Nat.reduceAdd]
  refine AE Df ?_;refine Az ?_;refine AF yP ?_;refine AO C8 rfl ?_;try obtain rfl:=Option.some.inj h
  exact hP _ Iq _ hS
 ·refine Ay ?_;refine AE yP ?_;refine Aw fun K5 D7=> ?_;refine AS gC ?_;try simp only [W,EE,Nat.reduceAdd]
  refine BF rfl rfl rfl rfl rfl ?_;try simp only [W]
  refine Bg (el:=([(⟨3,a1,a2⟩:Hello)]:List Hello).map CV) hS rfl rfl rfl rfl rfl rfl rfl fun v6 H OZ hS=> ?_;try simp only [W,EE]
  refine Bu (l:=a0) (c:=CV) 1 hS rfl Iq rfl rfl rfl (hS.hI 0 rfl OZ) (fun _=>rfl) rfl h fun E7 H L8 Gf hm h hS=> ?_;try simp only [W]
  refine AE D7 ?_;refine Az ?_;refine AO C8 rfl ?_;try obtain rfl:=Option.some.inj h
  exact hP _ Gf _ (hS.BA 2 [1] (by decide))
theorem Vo {a0:C5} {a1:Hello} {Dj:AV} {Di:AV} {Dh:AV} {r:(C5)} (h:L9 a0 a1=some r) {F:List It} {H:J} (hS:ay H (⟨Dj,3,a0.C2.map CV⟩::⟨Di,3,a0.C3.map CV⟩::⟨Dh,3,a0.C4.map CV⟩::F)) (DN:bm Dj) (DZ:bm Di) (DT:bm Dh) {P:AV→J→Prop} (hP: ∀Lh:AV,bm Lh→ ∀Li:AV,bm Li→ ∀QB:AV,bm QB→ ∀H',ay H' (⟨Lh,3,r.C2.map CV⟩::⟨Li,3,r.C3.map CV⟩::⟨QB,3,r.C4.map CV⟩::F)→P (.agg [.int .i64 r.C0,.int .i64 r.CY,.int .i64 r.X,.int .i64 r.Y,.int .i64 r.C1,.int .i64 r.CZ,.int .i64 r.CW,.int .i64 r.CX,Lh,Li,QB]) H'):au C 303 [.agg [.int .i64 a0.C0,.int .i64 a0.CY,.int .i64 a0.X,.int .i64 a0.Y,.int .i64 a0.C1,.int .i64 a0.CZ,.int .i64 a0.CW,.int .i64 a0.CX,Dj,Di,Dh],.agg [.int .i64 a1.Kind,.int .i64 a1.X,.int .i64 a1.Y]] H P:=by
 refine AW gC (res:=[.cell 4 73]) (n:=112) rfl rfl rfl rfl fun K0 C8=> ?_;simp only [W,Nat.reduceSub,Nat.reduceAdd,List.replicate];unfold L9 at h;refine Aw fun K1 Da=> ?_;refine AS gC ?_;try simp only [W,Nat.reduceAdd]
 refine A7 hS rfl rfl rfl (by simp only [W,dB,List.all_cons,List.all_nil,DN.pF,DZ.pF,DT.pF];rfl) fun C6 C7 H hS=> ?_
 try simp only [W]
 refine A7 hS rfl rfl rfl rfl fun Dz DA H hS=> ?_;try simp only [W]
 refine A8 hS rfl rfl fun DE DF H hS=> ?_;try simp only [W]
 refine AE Da ?_;refine Aw fun K8 Dp=> ?_;refine Aw fun K9 Dy=> ?_;refine AS gC ?_;try simp only [W,EE,Nat.reduceAdd,Nat.reduceBEq,hS.var 1 rfl]
 refine AE Dy ?_;refine Ax fun HS DG=> ?_;refine Aw fun Js Fv=> ?_;refine AS gC ?_;try simp only [W,EE,Nat.reduceAdd]
 refine AE Fv ?_;refine AB ?_;simp only [W];refine AR h (fun hc h=> ?_) (fun hc h=> ?_)
 ·refine Aw fun Lb FH=> ?_;refine Aw fun Nq GU=> ?_;obtain ⟨Nr,h,Ns⟩:=Option.bind_eq_some_iff.1 h;refine Bm gC (fun s H=> ∃EF:Bool,Nr=(EF)∧s=(u::u:: .ptr C6 C7 0 0:: .ptr Dz DA 0 0:: .ptr DE DF 0 0::u::u::u::u::u::u::u::u::u::u::u:: .bool EF::u::u::u::u::u::u::u::u::u::u::u::u::u::u::u::u::u::u::u::u::u::u::u::u::u::u::u::u::u::u::u::u::u::u::u::u::u::u::u::u::u::u::u::u::u::u::u::u::u::u::u::u::u::u::u::u::u::u::u::u::u::u::u::u::u::u::u::u::u::u::u::u::u::u::u::u::u::u::u::u::u::u::u::u::u::u::u::u::u::u::u::u::u::u::u::[])∧ay H (⟨Dj,3,a0.C2.map CV⟩::⟨Di,3,a0.C3.map CV⟩::⟨Dh,3,a0.C4.map CV⟩::⟨.ptr C6 C7 0 0,11,[.agg [.int .i64 a0.C0,.int .i64 a0.CY,.int .i64 a0.X,.int .i64 a0.Y,.int .i64 a0.C1,.int .i64 a0.CZ,.int .i64 a0.CW,.int .i64 a0.CX,Dj,Di,Dh]]⟩::⟨.ptr Dz DA 0 0,3,[.agg [.int .i64 a1.Kind,.int .i64 a1.X,.int .i64 a1.Y]]⟩::⟨.ptr DE DF 0 0,11,[.agg [.int .i64 0,.int .i64 0,.int .i64 0,.int .i64 0,.int .i64 0,.int .i64 0,.int .i64 0,.int .i64 0,.nil,.nil,.nil]]⟩::F)) (fun GX Ea=> ?_) (fun s H hq=> ?_)
  ·refine Aw fun Ij EB=> ?_;refine AS gC ?_;try simp only [W,EE,Nat.reduceAdd,Nat.reduceBEq,hS.var 2 rfl]
   refine BE h (fun hc h=> ?_) (fun hc h=> ?_)
   ·try simp only [W,hc]
    refine AE EB ?_;refine CC (s' :=(u::u:: .ptr C6 C7 0 0:: .ptr Dz DA 0 0:: .ptr DE DF 0 0::u::u::u::u::u::u::u::u::u::u::u:: .bool true::u::u::u::u::u::u::u::u::u::u::u::u::u::u::u::u::u::u::u::u::u::u::u::u::u::u::u::u::u::u::u::u::u::u::u::u::u::u::u::u::u::u::u::u::u::u::u::u::u::u::u::u::u::u::u::u::u::u::u::u::u::u::u::u::u::u::u::u::u::u::u::u::u::u::u::u::u::u::u::u::u::u::u::u::u::u::u::u::u::u::u::u::u::u::u::[])) rfl ?_
    exact Bn Ea ⟨_,(Option.some.inj h).symm,rfl,(hS.BA 6 [3,4,5,2,1,0] (by decide))⟩
   ·try simp only [W,EE,reduceIte,Nat.reduceAdd,Nat.reduceBEq,Bool.false_eq_true,hS.var 2 rfl,hc]
    refine AE EB ?_;refine CC (s' :=(u::u:: .ptr C6 C7 0 0:: .ptr Dz DA 0 0:: .ptr DE DF 0 0::u::u::u::u::u::u::u::u::u::u::u:: .bool (a0.CX==1000)::u::u::u::u::u::u::u::u::u::u::u::u::u::u::u::u::u::u::u::u::u::u::u::u::u::u::u::u::u::u::u::u::u::u::u::u::u::u::u::u::u::u::u::u::u::u::u::u::u::u::u::u::u::u::u::u::u::u::u::u::u::u::u::u::u::u::u::u::u::u::u::u::u::u::u::u::u::u::u::u::u::u::u::u::u::u::u::u::u::u::u::u::u::u::u::[])) rfl ?_
    exact Bn Ea ⟨_,(Option.some.inj h).symm,rfl,(hS.BA 6 [3,4,5,2,1,0] (by decide))⟩
  ·obtain ⟨EF,Dg,rfl,hS⟩:=hq;obtain rfl:=Dg.symm;replace h:=Ns;try dsimp only at h
   refine AE GU ?_;refine AB ?_;simp only [W];refine AR h (fun hc h=> ?_) (fun hc h=> ?_)
   ·refine Aw fun Hl Es=> ?_;refine AS gC ?_;try simp only [W,EE,reduceIte,Nat.reduceAdd,Nat.reduceLeDiff,hS.var 3 rfl]
    refine A9 (a:= .agg [.int .i64 a0.C0,.int .i64 a0.CY,.int .i64 a0.X,.int .i64 a0.Y,.int .i64 a0.C1,.int .i64 a0.CZ,.int .i64 a0.CW,.int .i64 a0.CX,Dj,Di,Dh]) (y' := .agg [.int .i64 a0.C0,.int .i64 a0.CY,.int .i64 a0.X,.int .i64 a0.Y,.int .i64 a0.C1,.int .i64 a0.CZ,.int .i64 a0.CW,.int .i64 a0.CX,Dj,Di,Dh]) 5 hS rfl rfl rfl rfl rfl (by simp only [dB,List.all_cons,List.all_nil,DN.pF,DZ.pF,DT.pF];rfl) rfl rfl fun H hS=> ?_
    try simp only [W]
    refine AE Es ?_;refine Az ?_;refine AF FH ?_;refine AM DG ?_;refine AF Dp ?_;refine AN C8 (BC rfl rfl (hS.var 5 rfl) rfl rfl) ?_;try obtain rfl:=Option.some.inj h
    exact hP _ DN _ DZ _ DT _ (hS.BA 6 [0,1,2] (by decide))
   ·refine Ay ?_;refine AE FH ?_;refine Aw fun J9 FK=> ?_;refine AS gC ?_;try simp only [W,EE,Nat.reduceAdd,Nat.reduceBEq,hS.var 3 rfl]
    refine A9 (a:= .int .i64 (IntKind.i64.wrap (a0.CX+1))) (y' := .agg [.int .i64 a0.C0,.int .i64 a0.CY,.int .i64 a0.X,.int .i64 a0.Y,.int .i64 a0.C1,.int .i64 a0.CZ,.int .i64 a0.CW,.int .i64 (IntKind.i64.wrap (a0.CX+1)),Dj,Di,Dh]) 3 hS rfl rfl rfl rfl rfl rfl rfl rfl fun H hS=> ?_
    try simp only [W]
    refine AE FK ?_;refine Aw fun IU E8=> ?_;refine AS gC ?_;try simp only [W,EE,Nat.reduceAdd,Nat.reduceBEq,hS.var 3 rfl]
    refine A9 (a:= .int .i64 1) (y' := .agg [.int .i64 a0.C0,.int .i64 1,.int .i64 a0.X,.int .i64 a0.Y,.int .i64 a0.C1,.int .i64 a0.CZ,.int .i64 a0.CW,.int .i64 (IntKind.i64.wrap (a0.CX+1)),Dj,Di,Dh]) 3 hS rfl rfl rfl rfl rfl rfl rfl rfl fun H hS=> ?_
    try simp only [W]
    refine AE E8 ?_;refine Aw fun Ik E0=> ?_;refine AS gC ?_;try simp only [W,EE,Nat.reduceAdd,Nat.reduceBEq,hS.var 3 rfl,hS.var 4 rfl]
    refine A9 (a:= .int .i64 a1.X) (y' := .agg [.int .i64 a0.C0,.int .i64 1,.int .i64 a0.X,.int .i64 a0.Y,.int .i64 a1.X,.int .i64 a0.CZ,.int .i64 a0.CW,.int .i64 (IntKind.i64.wrap (a0.CX+1)),Dj,Di,Dh]) 3 hS rfl rfl rfl rfl rfl rfl rfl rfl fun H hS=> ?_
    try simp only [W]
    refine AE E0 ?_;refine Aw fun Nv GY=> ?_;refine AS gC ?_;try simp only [W,EE,Nat.reduceAdd,Nat.reduceBEq,hS.var 3 rfl]
    refine A9 (a:= .int .i64 (IntKind.i64.wrap (a0.CX+1))) (y' := .agg [.int .i64 a0.C0,.int .i64 1,.int .i64 a0.X,.int .i64 (IntKind.i64.wrap (a0.CX+1)),.int .i64 a1.X,.int .i64 a0.CZ,.int .i64 a0.CW,.int .i64 (IntKind.i64.wrap (a0.CX+1)),Dj,Di,Dh]) 3 hS rfl rfl rfl rfl rfl rfl rfl rfl fun H hS=> ?_
    try simp only [W]
    refine AE GY ?_;refine Aw fun NC HX=> ?_;refine AS gC ?_;try simp only [W,EE,reduceIte,Nat.reduceAdd,Nat.reduceLeDiff,Nat.reduceBEq,hS.var 3 rfl]
    refine BF rfl rfl rfl rfl rfl ?_;try simp only [W]
    refine Bh h fun DB Lj h=> ?_;refine OX Lj hS DN DZ DT fun Gm HY Gg Hr v30 G0 H hS=> ?_;try simp only [W]
    refine A9 (a:= .agg [.int .i64 DB.C0,.int .i64 DB.CY,.int .i64 DB.X,.int .i64 DB.Y,.int .i64 DB.C1,.int .i64 DB.CZ,.int .i64 DB.CW,.int .i64 DB.CX,Gm,Gg,v30]) (y' := .agg [.int .i64 DB.C0,.int .i64 DB.CY,.int .i64 DB.X,.int .i64 DB.Y,.int .i64 DB.C1,.int .i64 DB.CZ,.int .i64 DB.CW,.int .i64 DB.CX,Gm,Gg,v30]) 5 hS rfl rfl rfl rfl rfl (by simp only [dB,List.all_cons,List.all_nil,HY.pF,Hr.pF,G0.pF];rfl) rfl rfl fun H hS=> ?_
    try simp only [W]
    refine AE HX ?_;refine Az ?_;refine AM DG ?_;refine AF Dp ?_;refine AN C8 (BC rfl rfl (hS.var 5 rfl) rfl rfl) ?_;try obtain rfl:=Option.some.inj h
    exact hP _ HY _ Hr _ G0 _ (hS.BA 6 [0,1,2] (by decide))
 ·refine Aw fun QC IW=> ?_;refine AS gC ?_;try simp only [W,EE,Nat.reduceAdd]
  refine AE IW ?_;refine AB ?_;simp only [W];refine AR h (fun hc h=> ?_) (fun hc h=> ?_)
  ·refine Aw fun O0 Hs=> ?_;refine Aw fun J_ F7=> ?_;obtain ⟨J3,h,ND⟩:=Option.bind_eq_some_iff.1 h;refine Bm gC (fun s H=> ∃Dt:Bool,J3=(Dt)∧s=(u::u:: .ptr C6 C7 0 0:: .ptr Dz DA 0 0:: .ptr DE DF 0 0::u::u::u::u::u::u::u::u::u::u::u::u::u::u::u::u::u::u::u::u::u::u::u::u::u::u::u::u::u::u::u::u::u::u::u::u::u::u::u::u::u::u:: .bool Dt::u::u::u::u::u::u::u::u::u::u::u::u::u::u::u::u::u::u::u::u::u::u::u::u::u::u::u::u::u::u::u::u::u::u::u::u::u::u::u::u::u::u::u::u::u::u::u::u::u::u::u::u::u::u::u::u::u::u::u::u::u::u::u::u::[])∧ay H (⟨Dj,3,a0.C2.map CV⟩::⟨Di,3,a0.C3.map CV⟩::⟨Dh,3,a0.C4.map CV⟩::⟨.ptr C6 C7 0 0,11,[.agg [.int .i64 a0.C0,.int .i64 a0.CY,.int .i64 a0.X,.int .i64 a0.Y,.int .i64 a0.C1,.int .i64 a0.CZ,.int .i64 a0.CW,.int .i64 a0.CX,Dj,Di,Dh]]⟩::⟨.ptr Dz DA 0 0,3,[.agg [.int .i64 a1.Kind,.int .i64 a1.X,.int .i64 a1.Y]]⟩::⟨.ptr DE DF 0 0,11,[.agg [.int .i64 0,.int .i64 0,.int .i64 0,.int .i64 0,.int .i64 0,.int .i64 0,.int .i64 0,.int .i64 0,.nil,.nil,.nil]]⟩::F)) (fun Lc FQ=> ?_) (fun s H hq=> ?_)
   ·refine Aw fun Nw GC=> ?_;refine AS gC ?_;try simp only [W,EE,Nat.reduceAdd,Nat.reduceBEq,hS.var 2 rfl]
    refine BE h (fun hc h=> ?_) (fun hc h=> ?_)
    ·try simp only [W,EE,reduceIte,Nat.reduceAdd,Nat.reduceBEq,hS.var 2 rfl,hS.var 1 rfl,hc]
     refine AE GC ?_;refine CC (s' :=(u::u:: .ptr C6 C7 0 0:: .ptr Dz DA 0 0:: .ptr DE DF 0 0::u::u::u::u::u::u::u::u::u::u::u::u::u::u::u::u::u::u::u::u::u::u::u::u::u::u::u::u::u::u::u::u::u::u::u::u::u::u::u::u::u::u:: .bool (a0.X==a1.X)::u::u::u::u::u::u::u::u::u::u::u::u::u::u::u::u::u::u::u::u::u::u::u::u::u::u::u::u::u::u::u::u::u::u::u::u::u::u::u::u::u::u::u::u::u::u::u::u::u::u::u::u::u::u::u::u::u::u::u::u::u::u::u::u::[])) rfl ?_
     exact Bn FQ ⟨_,(Option.some.inj h).symm,rfl,(hS.BA 6 [3,4,5,2,1,0] (by decide))⟩
    ·try simp only [W,hc]
     refine AE GC ?_;refine CC (s' :=(u::u:: .ptr C6 C7 0 0:: .ptr Dz DA 0 0:: .ptr DE DF 0 0::u::u::u::u::u::u::u::u::u::u::u::u::u::u::u::u::u::u::u::u::u::u::u::u::u::u::u::u::u::u::u::u::u::u::u::u::u::u::u::u::u::u:: .bool false::u::u::u::u::u::u::u::u::u::u::u::u::u::u::u::u::u::u::u::u::u::u::u::u::u::u::u::u::u::u::u::u::u::u::u::u::u::u::u::u::u::u::u::u::u::u::u::u::u::u::u::u::u::u::u::u::u::u::u::u::u::u::u::u::[])) rfl ?_
     exact Bn FQ ⟨_,(Option.some.inj h).symm,rfl,(hS.BA 6 [3,4,5,2,1,0] (by decide))⟩
   ·obtain ⟨Dt,Dg,rfl,hS⟩:=hq;obtain rfl:=Dg.symm;replace h:=ND;try dsimp only at h
    refine AE F7 ?_;obtain ⟨Vp,h,Vq⟩:=Option.bind_eq_some_iff.1 h;refine Bm gC (fun s H=> ∃FB:Int,∃EH:Int,∃GL:List Hello,Vp=(FB,EH,GL)∧ ∃FL:AV,bm FL∧s=(u::u:: .ptr C6 C7 0 0:: .ptr Dz DA 0 0:: .ptr DE DF 0 0::u::u::u::u::u::u::u::u::u::u::u::u::u::u::u::u::u::u::u::u::u::u::u::u::u::u::u::u::u::u::u::u::u::u::u::u::u::u::u::u::u::u::u::u::u::u::u::u::u::u::u::u::u::u::u::u::u::u::u::u::u::u::u::u::u::u::u::u::u::u::u::u::u::u::u::u::u::u::u::u::u::u::u::u::u::u::u::u::u::u::u::u::u::u::u::u::u::u::u::u::u::u::u::u::u::u::u::[])∧ay H (⟨Dj,3,a0.C2.map CV⟩::⟨FL,3,GL.map CV⟩::⟨Dh,3,a0.C4.map CV⟩::⟨.ptr C6 C7 0 0,11,[.agg [.int .i64 FB,.int .i64 a0.CY,.int .i64 a0.X,.int .i64 a0.Y,.int .i64 a0.C1,.int .i64 EH,.int .i64 a0.CW,.int .i64 a0.CX,Dj,FL,Dh]]⟩::⟨.ptr Dz DA 0 0,3,[.agg [.int .i64 a1.Kind,.int .i64 a1.X,.int .i64 a1.Y]]⟩::⟨.ptr DE DF 0 0,11,[.agg [.int .i64 0,.int .i64 0,.int .i64 0,.int .i64 0,.int .i64 0,.int .i64 0,.int .i64 0,.int .i64 0,.nil,.nil,.nil]]⟩::F)) (fun OQ Il=> ?_) (fun s H hq=> ?_)
    ·refine Aw fun SQ Ld=> ?_;refine AB ?_;simp only [W];refine AR h (fun hc h=> ?_) (fun hc h=> ?_)
     ·refine Aw fun Lk Gh=> ?_;refine AS gC ?_;try simp only [W,EE,Nat.reduceAdd,Nat.reduceBEq,hS.var 3 rfl]
      refine A9 (a:= .int .i64 2) (y' := .agg [.int .i64 2,.int .i64 a0.CY,.int .i64 a0.X,.int .i64 a0.Y,.int .i64 a0.C1,.int .i64 a0.CZ,.int .i64 a0.CW,.int .i64 a0.CX,Dj,Di,Dh]) 3 hS rfl rfl rfl rfl rfl rfl rfl rfl fun H hS=> ?_
      try simp only [W]
      refine AE Gh ?_;refine Aw fun Ll FT=> ?_;refine AS gC ?_;try simp only [W,EE,Nat.reduceAdd,Nat.reduceBEq,hS.var 3 rfl,hS.var 4 rfl]
      refine A9 (a:= .int .i64 a1.Y) (y' := .agg [.int .i64 2,.int .i64 a0.CY,.int .i64 a0.X,.int .i64 a0.Y,.int .i64 a0.C1,.int .i64 a1.Y,.int .i64 a0.CW,.int .i64 a0.CX,Dj,Di,Dh]) 3 hS rfl rfl rfl rfl rfl rfl rfl rfl fun H hS=> ?_
      try simp only [W]
      refine AE FT ?_;refine AS gC ?_;try simp only [W,EE,Nat.reduceAdd,Nat.reduceBEq,hS.var 3 rfl,hS.var 4 rfl]
      refine Bh h fun Dv J5 h=> ?_;refine S1 J5 (hS.BA 6 [1,0,2,3,4,5] (by decide)) DZ fun FU IX H hS=> ?_
      try simp only [W,EE,Nat.reduceAdd,Nat.reduceBEq,hS.var 3 rfl]
      refine A9 (a:=FU) (y' := .agg [.int .i64 2,.int .i64 a0.CY,.int .i64 a0.X,.int .i64 a0.Y,.int .i64 a0.C1,.int .i64 a1.Y,.int .i64 a0.CW,.int .i64 a0.CX,Dj,FU,Dh]) 3 hS rfl rfl rfl rfl (by rw [IX.cells];rfl) IX.Bd (IX.wr _ _ (by simp)) rfl fun H hS=> ?_
      try simp only [W]
      refine AE Ld ?_;refine CC (s' :=(u::u:: .ptr C6 C7 0 0:: .ptr Dz DA 0 0:: .ptr DE DF 0 0::u::u::u::u::u::u::u::u::u::u::u::u::u::u::u::u::u::u::u::u::u::u::u::u::u::u::u::u::u::u::u::u::u::u::u::u::u::u::u::u::u::u::u::u::u::u::u::u::u::u::u::u::u::u::u::u::u::u::u::u::u::u::u::u::u::u::u::u::u::u::u::u::u::u::u::u::u::u::u::u::u::u::u::u::u::u::u::u::u::u::u::u::u::u::u::u::u::u::u::u::u::u::u::u::u::u::u::[])) rfl ?_
      exact Bn Il ⟨_,_,_,(Option.some.inj h).symm,_,IX,rfl,(hS.BA 6 [1,0,2,3,4,5] (by decide))⟩
     ·refine Ay ?_;refine AE Ld ?_;refine CC (s' :=(u::u:: .ptr C6 C7 0 0:: .ptr Dz DA 0 0:: .ptr DE DF 0 0::u::u::u::u::u::u::u::u::u::u::u::u::u::u::u::u::u::u::u::u::u::u::u::u::u::u::u::u::u::u::u::u::u::u::u::u::u::u::u::u::u::u::u::u::u::u::u::u::u::u::u::u::u::u::u::u::u::u::u::u::u::u::u::u::u::u::u::u::u::u::u::u::u::u::u::u::u::u::u::u::u::u::u::u::u::u::u::u::u::u::u::u::u::u::u::u::u::u::u::u::u::u::u::u::u::u::u::[])) rfl ?_
      exact Bn Il ⟨_,_,_,(Option.some.inj h).symm,_,DZ,rfl,hS⟩
    ·obtain ⟨FB,EH,GL,rfl,FL,F8,rfl,hS⟩:=hq;replace h:=Vq;try dsimp only at h
     refine AE Hs ?_;refine Aw fun NE GD=> ?_;refine Aw fun O1 F9=> ?_;obtain ⟨QD,h,Vr⟩:=Option.bind_eq_some_iff.1 h;refine Bm gC (fun s H=> ∃FC:Bool,QD=(FC)∧s=(u::u:: .ptr C6 C7 0 0:: .ptr Dz DA 0 0:: .ptr DE DF 0 0::u::u::u::u::u::u::u::u::u::u::u::u::u::u::u::u::u::u::u::u::u::u::u::u::u::u::u::u::u::u::u::u::u::u::u::u::u::u::u::u::u::u::u::u::u::u::u::u::u::u::u::u::u::u::u::u::u::u::u::u::u::u::u::u::u::u::u::u::u::u::u:: .bool FC::u::u::u::u::u::u::u::u::u::u::u::u::u::u::u::u::u::u::u::u::u::u::u::u::u::u::u::u::u::u::u::u::u::u::u::[])∧ay H (⟨Dj,3,a0.C2.map CV⟩::⟨FL,3,GL.map CV⟩::⟨Dh,3,a0.C4.map CV⟩::⟨.ptr C6 C7 0 0,11,[.agg [.int .i64 FB,.int .i64 a0.CY,.int .i64 a0.X,.int .i64 a0.Y,.int .i64 a0.C1,.int .i64 EH,.int .i64 a0.CW,.int .i64 a0.CX,Dj,FL,Dh]]⟩::⟨.ptr Dz DA 0 0,3,[.agg [.int .i64 a1.Kind,.int .i64 a1.X,.int .i64 a1.Y]]⟩::⟨.ptr DE DF 0 0,11,[.agg [.int .i64 0,.int .i64 0,.int .i64 0,.int .i64 0,.int .i64 0,.int .i64 0,.int .i64 0,.int .i64 0,.nil,.nil,.nil]]⟩::F)) (fun NF G3=> ?_) (fun s H hq=> ?_)
     ·refine Aw fun S2 Jz=> ?_;refine AS gC ?_;try simp only [W,EE,Nat.reduceAdd,Nat.reduceBEq,hS.var 3 rfl]
      refine BE h (fun hc h=> ?_) (fun hc h=> ?_)
      ·try simp only [W,EE,reduceIte,Nat.reduceAdd,Nat.reduceBEq,hS.var 3 rfl,hS.var 4 rfl,hc]
       refine BE h (fun hc h=> ?_) (fun hc h=> ?_)
       ·try simp only [W,EE,reduceIte,Nat.reduceAdd,Nat.reduceBEq,hS.var 3 rfl,hS.var 4 rfl,hc]
        refine AE Jz ?_;refine CC (s' :=(u::u:: .ptr C6 C7 0 0:: .ptr Dz DA 0 0:: .ptr DE DF 0 0::u::u::u::u::u::u::u::u::u::u::u::u::u::u::u::u::u::u::u::u::u::u::u::u::u::u::u::u::u::u::u::u::u::u::u::u::u::u::u::u::u::u::u::u::u::u::u::u::u::u::u::u::u::u::u::u::u::u::u::u::u::u::u::u::u::u::u::u::u::u::u:: .bool (EH==a1.Y)::u::u::u::u::u::u::u::u::u::u::u::u::u::u::u::u::u::u::u::u::u::u::u::u::u::u::u::u::u::u::u::u::u::u::u::[])) rfl ?_
        exact Bn G3 ⟨_,(Option.some.inj h).symm,rfl,hS⟩
       ·try simp only [W,hc]
        refine AE Jz ?_;refine CC (s' :=(u::u:: .ptr C6 C7 0 0:: .ptr Dz DA 0 0:: .ptr DE DF 0 0::u::u::u::u::u::u::u::u::u::u::u::u::u::u::u::u::u::u::u::u::u::u::u::u::u::u::u::u::u::u::u::u::u::u::u::u::u::u::u::u::u::u::u::u::u::u::u::u::u::u::u::u::u::u::u::u::u::u::u::u::u::u::u::u::u::u::u::u::u::u::u:: .bool false::u::u::u::u::u::u::u::u::u::u::u::u::u::u::u::u::u::u::u::u::u::u::u::u::u::u::u::u::u::u::u::u::u::u::u::[])) rfl ?_
        exact Bn G3 ⟨_,(Option.some.inj h).symm,rfl,hS⟩
      ·try simp only [W,hc]
       refine AE Jz ?_;refine CC (s' :=(u::u:: .ptr C6 C7 0 0:: .ptr Dz DA 0 0:: .ptr DE DF 0 0::u::u::u::u::u::u::u::u::u::u::u::u::u::u::u::u::u::u::u::u::u::u::u::u::u::u::u::u::u::u::u::u::u::u::u::u::u::u::u::u::u::u::u::u::u::u::u::u::u::u::u::u::u::u::u::u::u::u::u::u::u::u::u::u::u::u::u::u::u::u::u:: .bool false::u::u::u::u::u::u::u::u::u::u::u::u::u::u::u::u::u::u::u::u::u::u::u::u::u::u::u::u::u::u::u::u::u::u::u::[])) rfl ?_
       exact Bn G3 ⟨_,(Option.some.inj h).symm,rfl,hS⟩
     ·obtain ⟨FC,Dg,rfl,hS⟩:=hq;obtain rfl:=Dg.symm;replace h:=Vr;try dsimp only at h
      refine AE F9 ?_;refine AB ?_;simp only [W];refine AR h (fun hc h=> ?_) (fun hc h=> ?_)
      ·refine Aw fun S3 Ln=> ?_;refine AS gC ?_;try simp only [W,EE,reduceIte,Nat.reduceAdd,Nat.reduceLeDiff,Nat.reduceBEq,hS.var 3 rfl,hS.var 4 rfl]
       refine BF rfl rfl rfl rfl rfl ?_;try simp only [W]
       refine Bh h fun EM Vs h=> ?_;refine OX Vs hS DN F8 DT fun Ht JA Ir JB Ka Lo H hS=> ?_;try simp only [W]
       refine A9 (a:= .agg [.int .i64 EM.C0,.int .i64 EM.CY,.int .i64 EM.X,.int .i64 EM.Y,.int .i64 EM.C1,.int .i64 EM.CZ,.int .i64 EM.CW,.int .i64 EM.CX,Ht,Ir,Ka]) (y' := .agg [.int .i64 EM.C0,.int .i64 EM.CY,.int .i64 EM.X,.int .i64 EM.Y,.int .i64 EM.C1,.int .i64 EM.CZ,.int .i64 EM.CW,.int .i64 EM.CX,Ht,Ir,Ka]) 5 hS rfl rfl rfl rfl rfl (by simp only [dB,List.all_cons,List.all_nil,JA.pF,JB.pF,Lo.pF];rfl) rfl rfl fun H hS=> ?_
       try simp only [W]
       refine AE Ln ?_;refine Az ?_;refine AF GD ?_;refine AM DG ?_;refine AF Dp ?_;refine AN C8 (BC rfl rfl (hS.var 5 rfl) rfl rfl) ?_;try obtain rfl:=Option.some.inj h
       exact hP _ JA _ JB _ Lo _ (hS.BA 6 [0,1,2] (by decide))
      ·refine Ay ?_;refine AE GD ?_;refine Aw fun O2 HZ=> ?_;refine AS gC ?_;try simp only [W,EE,reduceIte,Nat.reduceAdd,Nat.reduceLeDiff,hS.var 3 rfl]
       refine A9 (a:= .agg [.int .i64 FB,.int .i64 a0.CY,.int .i64 a0.X,.int .i64 a0.Y,.int .i64 a0.C1,.int .i64 EH,.int .i64 a0.CW,.int .i64 a0.CX,Dj,FL,Dh]) (y' := .agg [.int .i64 FB,.int .i64 a0.CY,.int .i64 a0.X,.int .i64 a0.Y,.int .i64 a0.C1,.int .i64 EH,.int .i64 a0.CW,.int .i64 a0.CX,Dj,FL,Dh]) 5 hS rfl rfl rfl rfl rfl (by simp only [dB,List.all_cons,List.all_nil,DN.pF,F8.pF,DT.pF];rfl) rfl rfl fun H hS=> ?_
       try simp only [W]
       refine AE HZ ?_;refine Az ?_;refine AM DG ?_;refine AF Dp ?_;refine AN C8 (BC rfl rfl (hS.var 5 rfl) rfl rfl) ?_;try obtain rfl:=Option.some.inj h
       exact hP _ DN _ F8 _ DT _ (hS.BA 6 [0,1,2] (by decide))
  ·refine Ay ?_;refine AJ DG ?_;refine AE Dp ?_;refine Aw fun Qv IQ=> ?_;refine Aw fun SV Ny=> ?_;obtain ⟨QE,h,QF⟩:=Option.bind_eq_some_iff.1 h;refine Bm gC (fun s H=> ∃Et:Bool,QE=(Et)∧s=(u::u:: .ptr C6 C7 0 0:: .ptr Dz DA 0 0:: .ptr DE DF 0 0::u::u::u::u::u::u::u::u::u::u::u::u::u::u::u::u::u::u::u::u::u::u::u::u::u::u::u::u::u::u::u::u::u::u::u::u::u::u::u::u::u::u::u::u::u::u::u::u::u::u::u::u::u::u::u::u::u::u::u::u::u::u::u::u::u::u::u::u::u::u::u::u::u::u::u::u::u::u::u::u::u::u::u::u::u::u::u::u::u::u::u::u::u::u::u::u:: .bool Et::u::u::u::u::u::u::u::u::u::u::[])∧ay H (⟨Dj,3,a0.C2.map CV⟩::⟨Di,3,a0.C3.map CV⟩::⟨Dh,3,a0.C4.map CV⟩::⟨.ptr C6 C7 0 0,11,[.agg [.int .i64 a0.C0,.int .i64 a0.CY,.int .i64 a0.X,.int .i64 a0.Y,.int .i64 a0.C1,.int .i64 a0.CZ,.int .i64 a0.CW,.int .i64 a0.CX,Dj,Di,Dh]]⟩::⟨.ptr Dz DA 0 0,3,[.agg [.int .i64 a1.Kind,.int .i64 a1.X,.int .i64 a1.Y]]⟩::⟨.ptr DE DF 0 0,11,[.agg [.int .i64 0,.int .i64 0,.int .i64 0,.int .i64 0,.int .i64 0,.int .i64 0,.int .i64 0,.int .i64 0,.nil,.nil,.nil]]⟩::F)) (fun S4 IY=> ?_) (fun s H hq=> ?_)
   ·refine Aw fun QH H4=> ?_;refine AS gC ?_;try simp only [W,EE,Nat.reduceAdd,Nat.reduceBEq,hS.var 2 rfl]
    refine BE h (fun hc h=> ?_) (fun hc h=> ?_)
    ·try simp only [W,EE,reduceIte,Nat.reduceAdd,Nat.reduceBEq,hS.var 2 rfl,hS.var 1 rfl,hc]
     refine BE h (fun hc h=> ?_) (fun hc h=> ?_)
     ·try simp only [W,EE,reduceIte,Nat.reduceAdd,Nat.reduceBEq,hS.var 2 rfl,hS.var 1 rfl,hc]
      refine AE H4 ?_;refine CC (s' :=(u::u:: .ptr C6 C7 0 0:: .ptr Dz DA 0 0:: .ptr DE DF 0 0::u::u::u::u::u::u::u::u::u::u::u::u::u::u::u::u::u::u::u::u::u::u::u::u::u::u::u::u::u::u::u::u::u::u::u::u::u::u::u::u::u::u::u::u::u::u::u::u::u::u::u::u::u::u::u::u::u::u::u::u::u::u::u::u::u::u::u::u::u::u::u::u::u::u::u::u::u::u::u::u::u::u::u::u::u::u::u::u::u::u::u::u::u::u::u::u:: .bool (a0.Y==a1.Y)::u::u::u::u::u::u::u::u::u::u::[])) rfl ?_
      exact Bn IY ⟨_,(Option.some.inj h).symm,rfl,(hS.BA 6 [3,4,5,2,1,0] (by decide))⟩
     ·try simp only [W,hc]
      refine AE H4 ?_;refine CC (s' :=(u::u:: .ptr C6 C7 0 0:: .ptr Dz DA 0 0:: .ptr DE DF 0 0::u::u::u::u::u::u::u::u::u::u::u::u::u::u::u::u::u::u::u::u::u::u::u::u::u::u::u::u::u::u::u::u::u::u::u::u::u::u::u::u::u::u::u::u::u::u::u::u::u::u::u::u::u::u::u::u::u::u::u::u::u::u::u::u::u::u::u::u::u::u::u::u::u::u::u::u::u::u::u::u::u::u::u::u::u::u::u::u::u::u::u::u::u::u::u::u:: .bool false::u::u::u::u::u::u::u::u::u::u::[])) rfl ?_
      exact Bn IY ⟨_,(Option.some.inj h).symm,rfl,(hS.BA 6 [3,4,5,2,1,0] (by decide))⟩
    ·try simp only [W,hc]
     refine AE H4 ?_;refine CC (s' :=(u::u:: .ptr C6 C7 0 0:: .ptr Dz DA 0 0:: .ptr DE DF 0 0::u::u::u::u::u::u::u::u::u::u::u::u::u::u::u::u::u::u::u::u::u::u::u::u::u::u::u::u::u::u::u::u::u::u::u::u::u::u::u::u::u::u::u::u::u::u::u::u::u::u::u::u::u::u::u::u::u::u::u::u::u::u::u::u::u::u::u::u::u::u::u::u::u::u::u::u::u::u::u::u::u::u::u::u::u::u::u::u::u::u::u::u::u::u::u::u:: .bool false::u::u::u::u::u::u::u::u::u::u::[])) rfl ?_
     exact Bn IY ⟨_,(Option.some.inj h).symm,rfl,(hS.BA 6 [3,4,5,2,1,0] (by decide))⟩
   ·obtain ⟨Et,Dg,rfl,hS⟩:=hq;obtain rfl:=Dg.symm;replace h:=QF;try dsimp only at h
    refine AE Ny ?_;obtain ⟨Vt,h,Vu⟩:=Option.bind_eq_some_iff.1 h;refine Bm gC (fun s H=> ∃D0:Int,∃EV:List Hello,Vt=(D0,EV)∧ ∃Kb:AV,bm Kb∧s=(u::u:: .ptr C6 C7 0 0::u:: .ptr DE DF 0 0::u::u::u::u::u::u::u::u::u::u::u::u::u::u::u::u::u::u::u::u::u::u::u::u::u::u::u::u::u::u::u::u::u::u::u::u::u::u::u::u::u::u::u::u::u::u::u::u::u::u::u::u::u::u::u::u::u::u::u::u::u::u::u::u::u::u::u::u::u::u::u::u::u::u::u::u::u::u::u::u::u::u::u::u::u::u::u::u::u::u::u::u::u::u::u::u::u::u::u::u::u::u::u::u::u::u::u::[])∧ay H (⟨Dj,3,a0.C2.map CV⟩::⟨Di,3,a0.C3.map CV⟩::⟨Kb,3,EV.map CV⟩::⟨.ptr C6 C7 0 0,11,[.agg [.int .i64 a0.C0,.int .i64 D0,.int .i64 a0.X,.int .i64 a0.Y,.int .i64 a0.C1,.int .i64 a0.CZ,.int .i64 a0.CW,.int .i64 a0.CX,Dj,Di,Kb]]⟩::⟨.ptr DE DF 0 0,11,[.agg [.int .i64 0,.int .i64 0,.int .i64 0,.int .i64 0,.int .i64 0,.int .i64 0,.int .i64 0,.int .i64 0,.nil,.nil,.nil]]⟩::F)) (fun O3 Is=> ?_) (fun s H hq=> ?_)
    ·refine Aw fun Vv NG=> ?_;refine AB ?_;simp only [W];refine AR h (fun hc h=> ?_) (fun hc h=> ?_)
     ·refine Aw fun QI JC=> ?_;refine AS gC ?_;try simp only [W,EE,Nat.reduceAdd,Nat.reduceBEq,hS.var 3 rfl]
      refine A9 (a:= .int .i64 2) (y' := .agg [.int .i64 a0.C0,.int .i64 2,.int .i64 a0.X,.int .i64 a0.Y,.int .i64 a0.C1,.int .i64 a0.CZ,.int .i64 a0.CW,.int .i64 a0.CX,Dj,Di,Dh]) 3 hS rfl rfl rfl rfl rfl rfl rfl rfl fun H hS=> ?_
      try simp only [W]
      refine AE JC ?_;refine AS gC ?_;try simp only [W,EE,Nat.reduceAdd,Nat.reduceBEq,hS.var 3 rfl,hS.var 4 rfl]
      refine Bh h fun GM QJ h=> ?_;refine S1 QJ (hS.BA 6 [2,0,1,3,4,5] (by decide)) DT fun IZ Hu H hS=> ?_
      try simp only [W,EE,Nat.reduceAdd,Nat.reduceBEq,hS.var 3 rfl]
      refine A9 (a:=IZ) (y' := .agg [.int .i64 a0.C0,.int .i64 2,.int .i64 a0.X,.int .i64 a0.Y,.int .i64 a0.C1,.int .i64 a0.CZ,.int .i64 a0.CW,.int .i64 a0.CX,Dj,Di,IZ]) 3 hS rfl rfl rfl rfl (by rw [Hu.cells];rfl) Hu.Bd (Hu.wr _ _ (by simp)) rfl fun H hS=> ?_
      try simp only [W]
      refine AE NG ?_;refine CC (s' :=(u::u:: .ptr C6 C7 0 0::u:: .ptr DE DF 0 0::u::u::u::u::u::u::u::u::u::u::u::u::u::u::u::u::u::u::u::u::u::u::u::u::u::u::u::u::u::u::u::u::u::u::u::u::u::u::u::u::u::u::u::u::u::u::u::u::u::u::u::u::u::u::u::u::u::u::u::u::u::u::u::u::u::u::u::u::u::u::u::u::u::u::u::u::u::u::u::u::u::u::u::u::u::u::u::u::u::u::u::u::u::u::u::u::u::u::u::u::u::u::u::u::u::u::u::[])) rfl ?_
      exact Bn Is ⟨_,_,(Option.some.inj h).symm,_,Hu,rfl,(hS.BA 6 [1,2,0,3,5] (by decide))⟩
     ·refine Ay ?_;refine AE NG ?_;refine CC (s' :=(u::u:: .ptr C6 C7 0 0::u:: .ptr DE DF 0 0::u::u::u::u::u::u::u::u::u::u::u::u::u::u::u::u::u::u::u::u::u::u::u::u::u::u::u::u::u::u::u::u::u::u::u::u::u::u::u::u::u::u::u::u::u::u::u::u::u::u::u::u::u::u::u::u::u::u::u::u::u::u::u::u::u::u::u::u::u::u::u::u::u::u::u::u::u::u::u::u::u::u::u::u::u::u::u::u::u::u::u::u::u::u::u::u::u::u::u::u::u::u::u::u::u::u::u::[])) rfl ?_
      exact Bn Is ⟨_,_,(Option.some.inj h).symm,_,DT,rfl,(hS.BA 6 [0,1,2,3,5] (by decide))⟩
    ·obtain ⟨D0,EV,rfl,Kb,O4,rfl,hS⟩:=hq;replace h:=Vu;try dsimp only at h
     refine AE IQ ?_;refine Aw fun S5 Lp=> ?_;refine AS gC ?_;try simp only [W,EE,reduceIte,Nat.reduceAdd,Nat.reduceLeDiff,hS.var 3 rfl]
     refine A9 (a:= .agg [.int .i64 a0.C0,.int .i64 D0,.int .i64 a0.X,.int .i64 a0.Y,.int .i64 a0.C1,.int .i64 a0.CZ,.int .i64 a0.CW,.int .i64 a0.CX,Dj,Di,Kb]) (y' := .agg [.int .i64 a0.C0,.int .i64 D0,.int .i64 a0.X,.int .i64 a0.Y,.int .i64 a0.C1,.int .i64 a0.CZ,.int .i64 a0.CW,.int .i64 a0.CX,Dj,Di,Kb]) 4 hS rfl rfl rfl rfl rfl (by simp only [dB,List.all_cons,List.all_nil,DN.pF,DZ.pF,O4.pF];rfl) rfl rfl fun H hS=> ?_
     try simp only [W]
     refine AE Lp ?_;refine Az ?_;refine AN C8 (BC rfl rfl (hS.var 4 rfl) rfl rfl) ?_;try obtain rfl:=Option.some.inj h
     exact hP _ DN _ DZ _ O4 _ (hS.BA 5 [0,1,2] (by decide))
theorem NH {a0:C5} {a1:Dc} {Dj:AV} {Di:AV} {Dh:AV} {r:(C5×Bool)} (h:HL a0 a1=some r) {F:List It} {H:J} (hS:ay H (⟨Dj,3,a0.C2.map CV⟩::⟨Di,3,a0.C3.map CV⟩::⟨Dh,3,a0.C4.map CV⟩::F)) (DN:bm Dj) (DZ:bm Di) (DT:bm Dh) {P:AV→J→Prop} (hP: ∀HT:AV,bm HT→ ∀Hv:AV,bm Hv→ ∀Kc:AV,bm Kc→ ∀H',ay H' (⟨HT,3,r.1.C2.map CV⟩::⟨Hv,3,r.1.C3.map CV⟩::⟨Kc,3,r.1.C4.map CV⟩::F)→P (.aC [.agg [.int .i64 r.1.C0,.int .i64 r.1.CY,.int .i64 r.1.X,.int .i64 r.1.Y,.int .i64 r.1.C1,.int .i64 r.1.CZ,.int .i64 r.1.CW,.int .i64 r.1.CX,HT,Hv,Kc],.bool r.2]) H'):au C 211 [.agg [.int .i64 a0.C0,.int .i64 a0.CY,.int .i64 a0.X,.int .i64 a0.Y,.int .i64 a0.C1,.int .i64 a0.CZ,.int .i64 a0.CW,.int .i64 a0.CX,Dj,Di,Dh],.agg [.int .i64 a1.Kind,.int .i64 a1.K]] H P:=by
 refine AW gC (res:=[.cell 4 73,.tmp 5]) (n:=121) rfl rfl rfl rfl fun K0 C8=> ?_;simp only [W,Nat.reduceSub,Nat.reduceAdd,List.replicate];unfold HL at h;refine Aw fun K1 Da=> ?_;refine AS gC ?_;try simp only [W,Nat.reduceAdd]
 refine A7 hS rfl rfl rfl (by simp only [W,dB,List.all_cons,List.all_nil,DN.pF,DZ.pF,DT.pF];rfl) fun C6 C7 H hS=> ?_
 try simp only [W]
 refine A7 hS rfl rfl rfl rfl fun Dz DA H hS=> ?_;try simp only [W]
 refine A8 hS rfl rfl fun DE DF H hS=> ?_;try simp only [W]
 refine AE Da ?_;refine Aw fun K8 Dp=> ?_;refine Aw fun K9 Dy=> ?_;refine AS gC ?_;try simp only [W,EE,Nat.reduceAdd,Nat.reduceBEq,hS.var 1 rfl]
 refine AE Dy ?_;refine Ax fun HS DG=> ?_;refine Aw fun Js Fv=> ?_;refine AS gC ?_;try simp only [W,EE,Nat.reduceAdd]
 refine AE Fv ?_;refine AB ?_;simp only [W];refine AR h (fun hc h=> ?_) (fun hc h=> ?_)
 ·refine Aw fun Lb FH=> ?_;refine Aw fun Nq GU=> ?_;obtain ⟨Nr,h,Ns⟩:=Option.bind_eq_some_iff.1 h;refine Bm gC (fun s H=> ∃EF:Bool,Nr=(EF)∧s=(u::u:: .ptr C6 C7 0 0::u:: .ptr DE DF 0 0::u::u::u::u::u::u::u::u::u::u::u::u::u::u:: .bool EF::u::u::u::u::u::u::u::u::u::u::u::u::u::u::u::u::u::u::u::u::u::u::u::u::u::u::u::u::u::u::u::u::u::u::u::u::u::u::u::u::u::u::u::u::u::u::u::u::u::u::u::u::u::u::u::u::u::u::u::u::u::u::u::u::u::u::u::u::u::u::u::u::u::u::u::u::u::u::u::u::u::u::u::u::u::u::u::u::u::u::u::u::u::u::u::u::u::u::u::u::u::[])∧ay H (⟨Dj,3,a0.C2.map CV⟩::⟨Di,3,a0.C3.map CV⟩::⟨Dh,3,a0.C4.map CV⟩::⟨.ptr C6 C7 0 0,11,[.agg [.int .i64 a0.C0,.int .i64 a0.CY,.int .i64 a0.X,.int .i64 a0.Y,.int .i64 a0.C1,.int .i64 a0.CZ,.int .i64 a0.CW,.int .i64 a0.CX,Dj,Di,Dh]]⟩::⟨.ptr DE DF 0 0,11,[.agg [.int .i64 0,.int .i64 0,.int .i64 0,.int .i64 0,.int .i64 0,.int .i64 0,.int .i64 0,.int .i64 0,.nil,.nil,.nil]]⟩::F)) (fun GX Ea=> ?_) (fun s H hq=> ?_)
  ·refine Aw fun Ij EB=> ?_;refine AS gC ?_;try simp only [W,EE,Nat.reduceAdd,Nat.reduceBEq,hS.var 1 rfl]
   refine BE h (fun hc h=> ?_) (fun hc h=> ?_)
   ·try simp only [W,hc]
    refine AE EB ?_;refine CC (s' :=(u::u:: .ptr C6 C7 0 0::u:: .ptr DE DF 0 0::u::u::u::u::u::u::u::u::u::u::u::u::u::u:: .bool true::u::u::u::u::u::u::u::u::u::u::u::u::u::u::u::u::u::u::u::u::u::u::u::u::u::u::u::u::u::u::u::u::u::u::u::u::u::u::u::u::u::u::u::u::u::u::u::u::u::u::u::u::u::u::u::u::u::u::u::u::u::u::u::u::u::u::u::u::u::u::u::u::u::u::u::u::u::u::u::u::u::u::u::u::u::u::u::u::u::u::u::u::u::u::u::u::u::u::u::u::u::[])) rfl ?_
    exact Bn Ea ⟨_,(Option.some.inj h).symm,rfl,(hS.BA 6 [3,4,5,2,0] (by decide))⟩
   ·try simp only [W,EE,reduceIte,Nat.reduceAdd,Nat.reduceBEq,Bool.false_eq_true,hS.var 2 rfl,hc]
    refine AE EB ?_;refine CC (s' :=(u::u:: .ptr C6 C7 0 0::u:: .ptr DE DF 0 0::u::u::u::u::u::u::u::u::u::u::u::u::u::u:: .bool (a0.CW==1000)::u::u::u::u::u::u::u::u::u::u::u::u::u::u::u::u::u::u::u::u::u::u::u::u::u::u::u::u::u::u::u::u::u::u::u::u::u::u::u::u::u::u::u::u::u::u::u::u::u::u::u::u::u::u::u::u::u::u::u::u::u::u::u::u::u::u::u::u::u::u::u::u::u::u::u::u::u::u::u::u::u::u::u::u::u::u::u::u::u::u::u::u::u::u::u::u::u::u::u::u::u::[])) rfl ?_
    exact Bn Ea ⟨_,(Option.some.inj h).symm,rfl,(hS.BA 6 [3,4,5,2,0] (by decide))⟩
  ·obtain ⟨EF,Dg,rfl,hS⟩:=hq;obtain rfl:=Dg.symm;replace h:=Ns;try dsimp only at h
   refine AE GU ?_;refine AB ?_;simp only [W];refine AR h (fun hc h=> ?_) (fun hc h=> ?_)
   ·refine Aw fun Hl Es=> ?_;refine AS gC ?_;try simp only [W,EE,reduceIte,Nat.reduceAdd,Nat.reduceLeDiff,hS.var 3 rfl]
    refine A9 (a:= .agg [.int .i64 a0.C0,.int .i64 a0.CY,.int .i64 a0.X,.int .i64 a0.Y,.int .i64 a0.C1,.int .i64 a0.CZ,.int .i64 a0.CW,.int .i64 a0.CX,Dj,Di,Dh]) (y' := .agg [.int .i64 a0.C0,.int .i64 a0.CY,.int .i64 a0.X,.int .i64 a0.Y,.int .i64 a0.C1,.int .i64 a0.CZ,.int .i64 a0.CW,.int .i64 a0.CX,Dj,Di,Dh]) 4 hS rfl rfl rfl rfl rfl (by simp only [dB,List.all_cons,List.all_nil,DN.pF,DZ.pF,DT.pF];rfl) rfl rfl fun H hS=> ?_
    try simp only [W]
    refine AE Es ?_;refine Az ?_;refine AF FH ?_;refine AM DG ?_;refine AF Dp ?_;refine AN C8 (BC rfl rfl (hS.var 4 rfl) rfl (BD rfl rfl)) ?_;try obtain rfl:=Option.some.inj h
    exact hP _ DN _ DZ _ DT _ (hS.BA 5 [0,1,2] (by decide))
   ·refine Ay ?_;refine AE FH ?_;refine Aw fun J9 FK=> ?_;refine AS gC ?_;try simp only [W,EE,Nat.reduceAdd,Nat.reduceBEq,hS.var 3 rfl]
    refine A9 (a:= .int .i64 (IntKind.i64.wrap (a0.CW+1))) (y' := .agg [.int .i64 a0.C0,.int .i64 a0.CY,.int .i64 a0.X,.int .i64 a0.Y,.int .i64 a0.C1,.int .i64 a0.CZ,.int .i64 (IntKind.i64.wrap (a0.CW+1)),.int .i64 a0.CX,Dj,Di,Dh]) 3 hS rfl rfl rfl rfl rfl rfl rfl rfl fun H hS=> ?_
    try simp only [W]
    refine AE FK ?_;refine Aw fun IU E8=> ?_;refine AS gC ?_;try simp only [W,EE,Nat.reduceAdd,Nat.reduceBEq,hS.var 3 rfl]
    refine A9 (a:= .int .i64 1) (y' := .agg [.int .i64 1,.int .i64 a0.CY,.int .i64 a0.X,.int .i64 a0.Y,.int .i64 a0.C1,.int .i64 a0.CZ,.int .i64 (IntKind.i64.wrap (a0.CW+1)),.int .i64 a0.CX,Dj,Di,Dh]) 3 hS rfl rfl rfl rfl rfl rfl rfl rfl fun H hS=> ?_
    try simp only [W]
    refine AE E8 ?_;refine Aw fun Ik E0=> ?_;refine AS gC ?_;try simp only [W,EE,Nat.reduceAdd,Nat.reduceBEq,hS.var 3 rfl]
    refine A9 (a:= .int .i64 (IntKind.i64.wrap (a0.CW+1))) (y' := .agg [.int .i64 1,.int .i64 a0.CY,.int .i64 (IntKind.i64.wrap (a0.CW+1)),.int .i64 a0.Y,.int .i64 a0.C1,.int .i64 a0.CZ,.int .i64 (IntKind.i64.wrap (a0.CW+1)),.int .i64 a0.CX,Dj,Di,Dh]) 3 hS rfl rfl rfl rfl rfl rfl rfl rfl fun H hS=> ?_
    try simp only [W]
    refine AE E0 ?_;refine Aw fun Nv GY=> ?_;refine AS gC ?_;try simp only [W,EE,Nat.reduceAdd,Nat.reduceBEq,hS.var 3 rfl]
    refine A9 (a:= .int .i64 0) (y' := .agg [.int .i64 1,.int .i64 a0.CY,.int .i64 (IntKind.i64.wrap (a0.CW+1)),.int .i64 a0.Y,.int .i64 a0.C1,.int .i64 0,.int .i64 (IntKind.i64.wrap (a0.CW+1)),.int .i64 a0.CX,Dj,Di,Dh]) 3 hS rfl rfl rfl rfl rfl rfl rfl rfl fun H hS=> ?_
    try simp only [W]
    refine AE GY ?_;refine Aw fun NC HX=> ?_;refine AS gC ?_;try simp only [W,EE,reduceIte,Nat.reduceAdd,Nat.reduceLeDiff,Nat.reduceBEq,hS.var 3 rfl]
    refine BF rfl rfl rfl rfl rfl ?_;try simp only [W]
    refine Bh h fun DB Lj h=> ?_;refine OX Lj hS DN DZ DT fun Gm HY Gg Hr v30 G0 H hS=> ?_;try simp only [W]
    refine A9 (a:= .agg [.int .i64 DB.C0,.int .i64 DB.CY,.int .i64 DB.X,.int .i64 DB.Y,.int .i64 DB.C1,.int .i64 DB.CZ,.int .i64 DB.CW,.int .i64 DB.CX,Gm,Gg,v30]) (y' := .agg [.int .i64 DB.C0,.int .i64 DB.CY,.int .i64 DB.X,.int .i64 DB.Y,.int .i64 DB.C1,.int .i64 DB.CZ,.int .i64 DB.CW,.int .i64 DB.CX,Gm,Gg,v30]) 4 hS rfl rfl rfl rfl rfl (by simp only [dB,List.all_cons,List.all_nil,HY.pF,Hr.pF,G0.pF];rfl) rfl rfl fun H hS=> ?_
    try simp only [W]
    refine AE HX ?_;refine Az ?_;refine AM DG ?_;refine AF Dp ?_;refine AN C8 (BC rfl rfl (hS.var 4 rfl) rfl (BD rfl rfl)) ?_;try obtain rfl:=Option.some.inj h
    exact hP _ HY _ Hr _ G0 _ (hS.BA 5 [0,1,2] (by decide))
 ·refine Aw fun QC IW=> ?_;refine AS gC ?_;try simp only [W,EE,Nat.reduceAdd]
  refine AE IW ?_;refine AB ?_;simp only [W];refine AR h (fun hc h=> ?_) (fun hc h=> ?_)
  ·refine Aw fun O0 Hs=> ?_;refine Aw fun J_ F7=> ?_;obtain ⟨J3,h,ND⟩:=Option.bind_eq_some_iff.1 h;refine Bm gC (fun s H=> ∃Dt:Bool,J3=(Dt)∧s=(u::u:: .ptr C6 C7 0 0::u:: .ptr DE DF 0 0::u::u::u::u::u::u::u::u::u::u::u::u::u::u::u::u::u::u::u::u::u::u::u::u::u::u::u::u::u::u::u::u::u::u::u::u::u::u::u:: .bool Dt::u::u::u::u::u::u::u::u::u::u::u::u::u::u::u::u::u::u::u::u::u::u::u::u::u::u::u::u::u::u::u::u::u::u::u::u::u::u::u::u::u::u::u::u::u::u::u::u::u::u::u::u::u::u::u::u::u::u::u::u::u::u::u::u::u::u::u::u::u::u::u::u::u::u::u::u::[])∧ay H (⟨Dj,3,a0.C2.map CV⟩::⟨Di,3,a0.C3.map CV⟩::⟨Dh,3,a0.C4.map CV⟩::⟨.ptr C6 C7 0 0,11,[.agg [.int .i64 a0.C0,.int .i64 a0.CY,.int .i64 a0.X,.int .i64 a0.Y,.int .i64 a0.C1,.int .i64 a0.CZ,.int .i64 a0.CW,.int .i64 a0.CX,Dj,Di,Dh]]⟩::⟨.ptr DE DF 0 0,11,[.agg [.int .i64 0,.int .i64 0,.int .i64 0,.int .i64 0,.int .i64 0,.int .i64 0,.int .i64 0,.int .i64 0,.nil,.nil,.nil]]⟩::F)) (fun Lc FQ=> ?_) (fun s H hq=> ?_)
   ·refine Aw fun Nw GC=> ?_;refine AS gC ?_;try simp only [W,EE,Nat.reduceAdd,Nat.reduceBEq,hS.var 1 rfl]
    refine BE h (fun hc h=> ?_) (fun hc h=> ?_)
    ·try simp only [W,hc]
     refine AE GC ?_;refine CC (s' :=(u::u:: .ptr C6 C7 0 0::u:: .ptr DE DF 0 0::u::u::u::u::u::u::u::u::u::u::u::u::u::u::u::u::u::u::u::u::u::u::u::u::u::u::u::u::u::u::u::u::u::u::u::u::u::u::u:: .bool true::u::u::u::u::u::u::u::u::u::u::u::u::u::u::u::u::u::u::u::u::u::u::u::u::u::u::u::u::u::u::u::u::u::u::u::u::u::u::u::u::u::u::u::u::u::u::u::u::u::u::u::u::u::u::u::u::u::u::u::u::u::u::u::u::u::u::u::u::u::u::u::u::u::u::u::u::[])) rfl ?_
     exact Bn FQ ⟨_,(Option.some.inj h).symm,rfl,(hS.BA 6 [3,4,5,2,0] (by decide))⟩
    ·try simp only [W,EE,reduceIte,Nat.reduceAdd,Nat.reduceBEq,Bool.false_eq_true,hS.var 2 rfl,hc]
     refine AE GC ?_;refine CC (s' :=(u::u:: .ptr C6 C7 0 0::u:: .ptr DE DF 0 0::u::u::u::u::u::u::u::u::u::u::u::u::u::u::u::u::u::u::u::u::u::u::u::u::u::u::u::u::u::u::u::u::u::u::u::u::u::u::u:: .bool (a0.CY !=1)::u::u::u::u::u::u::u::u::u::u::u::u::u::u::u::u::u::u::u::u::u::u::u::u::u::u::u::u::u::u::u::u::u::u::u::u::u::u::u::u::u::u::u::u::u::u::u::u::u::u::u::u::u::u::u::u::u::u::u::u::u::u::u::u::u::u::u::u::u::u::u::u::u::u::u::u::[])) rfl ?_
     exact Bn FQ ⟨_,(Option.some.inj h).symm,rfl,(hS.BA 6 [3,4,5,2,0] (by decide))⟩
   ·obtain ⟨Dt,Dg,rfl,hS⟩:=hq;obtain rfl:=Dg.symm;replace h:=ND;try dsimp only at h
    refine AE F7 ?_;refine AB ?_;simp only [W];refine AR h (fun hc h=> ?_) (fun hc h=> ?_)
    ·refine Aw fun OO Hm=> ?_;refine AS gC ?_;try simp only [W,EE,reduceIte,Nat.reduceAdd,Nat.reduceLeDiff,hS.var 3 rfl]
     refine A9 (a:= .agg [.int .i64 a0.C0,.int .i64 a0.CY,.int .i64 a0.X,.int .i64 a0.Y,.int .i64 a0.C1,.int .i64 a0.CZ,.int .i64 a0.CW,.int .i64 a0.CX,Dj,Di,Dh]) (y' := .agg [.int .i64 a0.C0,.int .i64 a0.CY,.int .i64 a0.X,.int .i64 a0.Y,.int .i64 a0.C1,.int .i64 a0.CZ,.int .i64 a0.CW,.int .i64 a0.CX,Dj,Di,Dh]) 4 hS rfl rfl rfl rfl rfl (by simp only [dB,List.all_cons,List.all_nil,DN.pF,DZ.pF,DT.pF];rfl) rfl rfl fun H hS=> ?_
     try simp only [W]
     refine AE Hm ?_;refine Az ?_;refine AF Hs ?_;refine AM DG ?_;refine AF Dp ?_;refine AN C8 (BC rfl rfl (hS.var 4 rfl) rfl (BD rfl rfl)) ?_;try obtain rfl:=Option.some.inj h
     exact hP _ DN _ DZ _ DT _ (hS.BA 5 [0,1,2] (by decide))
    ·refine Ay ?_;refine AE Hs ?_;refine Aw fun O5 Hw=> ?_;refine AS gC ?_;try simp only [W,EE,reduceIte,Nat.reduceAdd,Nat.reduceLeDiff,hS.var 3 rfl]
     refine Bh h fun Eg QK h=> ?_;refine S0 QK hS DN DZ DT fun FL F8 EA Hy Lq Kd H hS=> ?_;try simp only [W]
     refine A9 (a:= .agg [.int .i64 Eg.C0,.int .i64 Eg.CY,.int .i64 Eg.X,.int .i64 Eg.Y,.int .i64 Eg.C1,.int .i64 Eg.CZ,.int .i64 Eg.CW,.int .i64 Eg.CX,FL,EA,Lq]) (y' := .agg [.int .i64 Eg.C0,.int .i64 Eg.CY,.int .i64 Eg.X,.int .i64 Eg.Y,.int .i64 Eg.C1,.int .i64 Eg.CZ,.int .i64 Eg.CW,.int .i64 Eg.CX,FL,EA,Lq]) 4 hS rfl rfl rfl rfl rfl (by simp only [dB,List.all_cons,List.all_nil,F8.pF,Hy.pF,Kd.pF];rfl) rfl rfl fun H hS=> ?_
     try simp only [W]
     refine AE Hw ?_;refine Az ?_;refine AM DG ?_;refine AF Dp ?_;refine AN C8 (BC rfl rfl (hS.var 4 rfl) rfl (BD rfl rfl)) ?_;try obtain rfl:=Option.some.inj h
     exact hP _ F8 _ Hy _ Kd _ (hS.BA 5 [0,1,2] (by decide))
  ·refine Aw fun Lk Gh=> ?_;refine AS gC ?_;try simp only [W,EE,Nat.reduceAdd]
   refine AE Gh ?_;refine AB ?_;simp only [W];refine AR h (fun hc h=> ?_) (fun hc h=> ?_)
   ·refine Aw fun Ll FT=> ?_;refine Aw fun S6 NI=> ?_;refine AS gC ?_;try simp only [W,EE,Nat.reduceAdd,Nat.reduceBEq,hS.var 1 rfl]
    refine AE NI ?_;refine Ax fun QL Iu=> ?_;refine Aw fun QM Hz=> ?_;refine AS gC ?_;try simp only [W,EE,Nat.reduceAdd]
    refine AE Hz ?_;refine AB ?_;simp only [W];refine AR h (fun hc h=> ?_) (fun hc h=> ?_)
    ·refine Aw fun NE GD=> ?_;refine AS gC ?_;try simp only [W,EE,Nat.reduceAdd,Nat.reduceBEq,hS.var 2 rfl]
     refine A9 (a:= .int .i64 0) (y' := .agg [.int .i64 0,.int .i64 a0.CY,.int .i64 a0.X,.int .i64 a0.Y,.int .i64 a0.C1,.int .i64 a0.CZ,.int .i64 a0.CW,.int .i64 a0.CX,Dj,Di,Dh]) 2 hS rfl rfl rfl rfl rfl rfl rfl rfl fun H hS=> ?_
     try simp only [W]
     refine AE GD ?_;refine Aw fun O1 F9=> ?_;refine AS gC ?_;try simp only [W,EE,Nat.reduceAdd,Nat.reduceBEq,hS.var 2 rfl]
     refine A9 (a:= .int .i64 0) (y' := .agg [.int .i64 0,.int .i64 a0.CY,.int .i64 0,.int .i64 a0.Y,.int .i64 a0.C1,.int .i64 a0.CZ,.int .i64 a0.CW,.int .i64 a0.CX,Dj,Di,Dh]) 2 hS rfl rfl rfl rfl rfl rfl rfl rfl fun H hS=> ?_
     try simp only [W]
     refine AE F9 ?_;refine Aw fun OT Hn=> ?_;refine AS gC ?_;try simp only [W,EE,Nat.reduceAdd,Nat.reduceBEq,hS.var 2 rfl]
     refine A9 (a:= .int .i64 0) (y' := .agg [.int .i64 0,.int .i64 a0.CY,.int .i64 0,.int .i64 a0.Y,.int .i64 a0.C1,.int .i64 0,.int .i64 a0.CW,.int .i64 a0.CX,Dj,Di,Dh]) 2 hS rfl rfl rfl rfl rfl rfl rfl rfl fun H hS=> ?_
     try simp only [W]
     refine AE Hn ?_;refine Aw fun OU HV=> ?_;refine AS gC ?_;try simp only [W,EE,reduceIte,Nat.reduceAdd,Nat.reduceLeDiff,hS.var 2 rfl]
     refine A9 (a:= .agg [.int .i64 0,.int .i64 a0.CY,.int .i64 0,.int .i64 a0.Y,.int .i64 a0.C1,.int .i64 0,.int .i64 a0.CW,.int .i64 a0.CX,Dj,Di,Dh]) (y' := .agg [.int .i64 0,.int .i64 a0.CY,.int .i64 0,.int .i64 a0.Y,.int .i64 a0.C1,.int .i64 0,.int .i64 a0.CW,.int .i64 a0.CX,Dj,Di,Dh]) 0 hS rfl rfl rfl rfl rfl (by simp only [dB,List.all_cons,List.all_nil,DN.pF,DZ.pF,DT.pF];rfl) rfl rfl fun H hS=> ?_
     try simp only [W]
     refine AE HV ?_;refine Az ?_;refine AM Iu ?_;refine AF FT ?_;refine AM DG ?_;refine AF Dp ?_;refine AN C8 (BC rfl rfl (hS.var 0 rfl) rfl (BD rfl rfl)) ?_;try obtain rfl:=Option.some.inj h
     exact hP _ DN _ DZ _ DT _ (hS.BA 6 [3,4,5] (by decide))
    ·refine Aw fun O6 I0=> ?_;refine AS gC ?_;try simp only [W,EE,Nat.reduceAdd]
     refine AE I0 ?_;refine AB ?_;simp only [W];refine AR h (fun hc h=> ?_) (fun hc h=> ?_)
     ·refine Aw fun NF G3=> ?_;refine AS gC ?_;try simp only [W,EE,reduceIte,Nat.reduceAdd,Nat.reduceLeDiff,hS.var 2 rfl]
      refine Bh h fun Fp QN h=> ?_;refine S0 QN (hS.BA 6 [3,4,5,0,1,2] (by decide)) DN DZ DT fun JD Ke Ht JA Ir JB H hS=> ?_
      try simp only [W]
      refine A9 (a:= .agg [.int .i64 Fp.C0,.int .i64 Fp.CY,.int .i64 Fp.X,.int .i64 Fp.Y,.int .i64 Fp.C1,.int .i64 Fp.CZ,.int .i64 Fp.CW,.int .i64 Fp.CX,JD,Ht,Ir]) (y' := .agg [.int .i64 Fp.C0,.int .i64 Fp.CY,.int .i64 Fp.X,.int .i64 Fp.Y,.int .i64 Fp.C1,.int .i64 Fp.CZ,.int .i64 Fp.CW,.int .i64 Fp.CX,JD,Ht,Ir]) 3 hS rfl rfl rfl rfl rfl (by simp only [dB,List.all_cons,List.all_nil,Ke.pF,JA.pF,JB.pF];rfl) rfl rfl fun H hS=> ?_
      try simp only [W]
      refine AE G3 ?_;refine Az ?_;refine AM Iu ?_;refine AF FT ?_;refine AM DG ?_;refine AF Dp ?_;refine AN C8 (BC rfl rfl (hS.var 3 rfl) rfl (BD rfl rfl)) ?_;try obtain rfl:=Option.some.inj h
      exact hP _ Ke _ JA _ JB _ (hS.BA 6 [0,1,2] (by decide))
     ·refine Ay ?_;refine AJ Iu ?_;refine AE FT ?_;refine Aw fun S7 NJ=> ?_;refine AS gC ?_;try simp only [W,EE,reduceIte,Nat.reduceAdd,Nat.reduceLeDiff,hS.var 2 rfl]
      refine A9 (a:= .agg [.int .i64 a0.C0,.int .i64 a0.CY,.int .i64 a0.X,.int .i64 a0.Y,.int .i64 a0.C1,.int .i64 a0.CZ,.int .i64 a0.CW,.int .i64 a0.CX,Dj,Di,Dh]) (y' := .agg [.int .i64 a0.C0,.int .i64 a0.CY,.int .i64 a0.X,.int .i64 a0.Y,.int .i64 a0.C1,.int .i64 a0.CZ,.int .i64 a0.CW,.int .i64 a0.CX,Dj,Di,Dh]) 0 hS rfl rfl rfl rfl rfl (by simp only [dB,List.all_cons,List.all_nil,DN.pF,DZ.pF,DT.pF];rfl) rfl rfl fun H hS=> ?_
      try simp only [W]
      refine AE NJ ?_;refine Az ?_;refine AM DG ?_;refine AF Dp ?_;refine AN C8 (BC rfl rfl (hS.var 0 rfl) rfl (BD rfl rfl)) ?_;try obtain rfl:=Option.some.inj h
      exact hP _ DN _ DZ _ DT _ (hS.BA 6 [3,4,5] (by decide))
   ·refine Ay ?_;refine AJ DG ?_;refine AE Dp ?_;refine Aw fun O7 HA=> ?_;refine Aw fun O2 HZ=> ?_;obtain ⟨QO,h,QP⟩:=Option.bind_eq_some_iff.1 h;refine Bm gC (fun s H=> ∃Fq:Bool,QO=(Fq)∧s=(u::u:: .ptr C6 C7 0 0:: .ptr Dz DA 0 0:: .ptr DE DF 0 0::u::u::u::u::u::u::u::u::u::u::u::u::u::u::u::u::u::u::u::u::u::u::u::u::u::u::u::u::u::u::u::u::u::u::u::u::u::u::u::u::u::u::u::u::u::u::u::u::u::u::u::u::u::u::u::u::u::u::u::u::u::u::u::u::u::u::u::u::u::u::u::u::u::u:: .bool Fq::u::u::u::u::u::u::u::u::u::u::u::u::u::u::u::u::u::u::u::u::u::u::u::u::u::u::u::u::u::u::u::u::u::u::u::u::u::u::u::u::u::[])∧ay H (⟨Dj,3,a0.C2.map CV⟩::⟨Di,3,a0.C3.map CV⟩::⟨Dh,3,a0.C4.map CV⟩::⟨.ptr C6 C7 0 0,11,[.agg [.int .i64 a0.C0,.int .i64 a0.CY,.int .i64 a0.X,.int .i64 a0.Y,.int .i64 a0.C1,.int .i64 a0.CZ,.int .i64 a0.CW,.int .i64 a0.CX,Dj,Di,Dh]]⟩::⟨.ptr Dz DA 0 0,2,[.agg [.int .i64 a1.Kind,.int .i64 a1.K]]⟩::⟨.ptr DE DF 0 0,11,[.agg [.int .i64 0,.int .i64 0,.int .i64 0,.int .i64 0,.int .i64 0,.int .i64 0,.int .i64 0,.int .i64 0,.nil,.nil,.nil]]⟩::F)) (fun O8 Ga=> ?_) (fun s H hq=> ?_)
    ·refine Aw fun S8 Kf=> ?_;refine AS gC ?_;try simp only [W,EE,Nat.reduceAdd,Nat.reduceBEq,hS.var 1 rfl]
     refine BE h (fun hc h=> ?_) (fun hc h=> ?_)
     ·try simp only [W,hc]
      refine AE Kf ?_;refine CC (s' :=(u::u:: .ptr C6 C7 0 0:: .ptr Dz DA 0 0:: .ptr DE DF 0 0::u::u::u::u::u::u::u::u::u::u::u::u::u::u::u::u::u::u::u::u::u::u::u::u::u::u::u::u::u::u::u::u::u::u::u::u::u::u::u::u::u::u::u::u::u::u::u::u::u::u::u::u::u::u::u::u::u::u::u::u::u::u::u::u::u::u::u::u::u::u::u::u::u::u:: .bool true::u::u::u::u::u::u::u::u::u::u::u::u::u::u::u::u::u::u::u::u::u::u::u::u::u::u::u::u::u::u::u::u::u::u::u::u::u::u::u::u::u::[])) rfl ?_
      exact Bn Ga ⟨_,(Option.some.inj h).symm,rfl,(hS.BA 6 [3,4,5,2,1,0] (by decide))⟩
     ·try simp only [W,EE,Nat.reduceAdd,Nat.reduceBEq,hS.var 2 rfl,hS.var 1 rfl,hc]
      refine Be 3 hS rfl DN rfl ?_;try simp only [W,EE,reduceIte,Bool.false_eq_true]
      refine BE h (fun hc h=> ?_) (fun hc h=> ?_)
      ·try simp only [W,hc]
       refine AE Kf ?_;refine CC (s' :=(u::u:: .ptr C6 C7 0 0:: .ptr Dz DA 0 0:: .ptr DE DF 0 0::u::u::u::u::u::u::u::u::u::u::u::u::u::u::u::u::u::u::u::u::u::u::u::u::u::u::u::u::u::u::u::u::u::u::u::u::u::u::u::u::u::u::u::u::u::u::u::u::u::u::u::u::u::u::u::u::u::u::u::u::u::u::u::u::u::u::u::u::u::u::u::u::u::u:: .bool true::u::u::u::u::u::u::u::u::u::u::u::u::u::u::u::u::u::u::u::u::u::u::u::u::u::u::u::u::u::u::u::u::u::u::u::u::u::u::u::u::u::[])) rfl ?_
       exact Bn Ga ⟨_,(Option.some.inj h).symm,rfl,(hS.BA 6 [3,4,5,2,1,0] (by decide))⟩
      ·try simp only [W,EE,Nat.reduceAdd,Nat.reduceBEq,hS.var 1 rfl,hc]
       refine Bh h fun Qd Vw h=> ?_;refine Jt Vw hS fun H hS=> ?_;try simp only [W,reduceIte,Bool.false_eq_true]
       refine AE Kf ?_;refine CC (s' :=(u::u:: .ptr C6 C7 0 0:: .ptr Dz DA 0 0:: .ptr DE DF 0 0::u::u::u::u::u::u::u::u::u::u::u::u::u::u::u::u::u::u::u::u::u::u::u::u::u::u::u::u::u::u::u::u::u::u::u::u::u::u::u::u::u::u::u::u::u::u::u::u::u::u::u::u::u::u::u::u::u::u::u::u::u::u::u::u::u::u::u::u::u::u::u::u::u::u:: .bool (!Qd)::u::u::u::u::u::u::u::u::u::u::u::u::u::u::u::u::u::u::u::u::u::u::u::u::u::u::u::u::u::u::u::u::u::u::u::u::u::u::u::u::u::[])) rfl ?_
       exact Bn Ga ⟨_,(Option.some.inj h).symm,rfl,(hS.BA 6 [3,4,5,2,1,0] (by decide))⟩
    ·obtain ⟨Fq,Dg,rfl,hS⟩:=hq;obtain rfl:=Dg.symm;replace h:=QP;try dsimp only at h
     refine AE HZ ?_;refine AB ?_;simp only [W];refine AR h (fun hc h=> ?_) (fun hc h=> ?_)
     ·refine Aw fun QH H4=> ?_;refine AS gC ?_;try simp only [W,EE,reduceIte,Nat.reduceAdd,Nat.reduceLeDiff,hS.var 3 rfl]
      refine A9 (a:= .agg [.int .i64 a0.C0,.int .i64 a0.CY,.int .i64 a0.X,.int .i64 a0.Y,.int .i64 a0.C1,.int .i64 a0.CZ,.int .i64 a0.CW,.int .i64 a0.CX,Dj,Di,Dh]) (y' := .agg [.int .i64 a0.C0,.int .i64 a0.CY,.int .i64 a0.X,.int .i64 a0.Y,.int .i64 a0.C1,.int .i64 a0.CZ,.int .i64 a0.CW,.int .i64 a0.CX,Dj,Di,Dh]) 5 hS rfl rfl rfl rfl rfl (by simp only [dB,List.all_cons,List.all_nil,DN.pF,DZ.pF,DT.pF];rfl) rfl rfl fun H hS=> ?_
      try simp only [W]
      refine AE H4 ?_;refine Az ?_;refine AF HA ?_;refine AN C8 (BC rfl rfl (hS.var 5 rfl) rfl (BD rfl rfl)) ?_;try obtain rfl:=Option.some.inj h
      exact hP _ DN _ DZ _ DT _ (hS.BA 6 [0,1,2] (by decide))
     ·refine Ay ?_;refine AE HA ?_;refine Aw fun Vx O9=> ?_;refine AS gC ?_;try simp only [W,EE,Nat.reduceAdd,Nat.reduceBEq,hS.var 3 rfl,hS.var 4 rfl]
      refine Bb 0 hS rfl rfl rfl rfl rfl h (fun GN aaw aax aay QQ h Vy=> ?_) DN.ne;obtain ⟨aaz,Vz,VA⟩:=hS.elem 0 rfl Vy QQ;try simp only [W,EE,EN,reduceIte,Nat.reduceAdd,Nat.reduceLeDiff,Vz,VA]
      refine A8 hS rfl rfl fun aaA aaB H hS=> ?_;try simp only [W]
      refine A9 (a:= .agg [.int .i64 GN.Kind,.int .i64 GN.X,.int .i64 GN.Y]) (y' := .agg [.int .i64 GN.Kind,.int .i64 GN.X,.int .i64 GN.Y]) 0 hS rfl rfl rfl rfl rfl rfl rfl rfl fun H hS=> ?_
      try simp only [W]
      refine AE O9 ?_;refine Aw fun K82 QR=> ?_;refine Aw fun O3 Is=> ?_;refine AS gC ?_;try simp only [W,EE,Nat.reduceAdd,Nat.reduceBEq,hS.var 5 rfl]
      refine AE Is ?_;refine AB ?_;simp only [W];refine AR h (fun hc h=> ?_) (fun hc h=> ?_)
      ·refine Aw fun Vv NG=> ?_;refine Aw fun QI JC=> ?_;refine AS gC ?_;try simp only [W,EE,Nat.reduceAdd,Nat.reduceBEq,hS.var 4 rfl]
       refine Be 1 hS rfl DN rfl ?_;try simp only [W,EE]
       refine AE JC ?_;refine AB ?_;simp only [W];refine AR h (fun hc h=> ?_) (fun hc h=> ?_)
       ·refine Aw fun QS I1=> ?_;refine AS gC ?_;try simp only [W,EE,reduceIte,Nat.reduceAdd,Nat.reduceLeDiff,hS.var 4 rfl]
        refine A9 (a:= .agg [.int .i64 a0.C0,.int .i64 a0.CY,.int .i64 a0.X,.int .i64 a0.Y,.int .i64 a0.C1,.int .i64 a0.CZ,.int .i64 a0.CW,.int .i64 a0.CX,Dj,Di,Dh]) (y' := .agg [.int .i64 a0.C0,.int .i64 a0.CY,.int .i64 a0.X,.int .i64 a0.Y,.int .i64 a0.C1,.int .i64 a0.CZ,.int .i64 a0.CW,.int .i64 a0.CX,Dj,Di,Dh]) 6 hS rfl rfl rfl rfl rfl (by simp only [dB,List.all_cons,List.all_nil,DN.pF,DZ.pF,DT.pF];rfl) rfl rfl fun H hS=> ?_
        try simp only [W]
        refine AE I1 ?_;refine Az ?_;refine AF NG ?_;refine AF QR ?_;refine AN C8 (BC rfl rfl (hS.var 6 rfl) rfl (BD rfl rfl)) ?_;try obtain rfl:=Option.some.inj h
        exact hP _ DN _ DZ _ DT _ (hS.BA 7 [1,2,3] (by decide))
       ·refine Ay ?_;refine AE NG ?_;refine Aw fun S9 Kg=> ?_;refine AS gC ?_;try simp only [W,EE,reduceIte,Nat.reduceAdd,Nat.reduceLeDiff,hS.var 4 rfl,hS.var 0 rfl]
        refine Bh h fun FN VB h=> ?_;refine OX VB (hS.BA 7 [1,2,3,0,4,5,6] (by decide)) DN DZ DT fun JE JF Kh Lr S_ Ta H hS=> ?_
        try simp only [W]
        refine A9 (a:= .agg [.int .i64 FN.C0,.int .i64 FN.CY,.int .i64 FN.X,.int .i64 FN.Y,.int .i64 FN.C1,.int .i64 FN.CZ,.int .i64 FN.CW,.int .i64 FN.CX,JE,Kh,S_]) (y' := .agg [.int .i64 FN.C0,.int .i64 FN.CY,.int .i64 FN.X,.int .i64 FN.Y,.int .i64 FN.C1,.int .i64 FN.CZ,.int .i64 FN.CW,.int .i64 FN.CX,JE,Kh,S_]) 6 hS rfl rfl rfl rfl rfl (by simp only [dB,List.all_cons,List.all_nil,JF.pF,Lr.pF,Ta.pF];rfl) rfl rfl fun H hS=> ?_
        try simp only [W]
        refine AE Kg ?_;refine Az ?_;refine AF QR ?_;refine AN C8 (BC rfl rfl (hS.var 6 rfl) rfl (BD rfl rfl)) ?_;try obtain rfl:=Option.some.inj h
        exact hP _ JF _ Lr _ Ta _ (hS.BA 7 [0,1,2] (by decide))
      ·refine Ay ?_;refine AE QR ?_;refine Aw fun QT JG=> ?_;refine AS gC ?_;try simp only [W,Nat.reduceAdd]
       refine Bf rfl rfl ?_;try simp only [W,EE,Nat.reduceAdd,Nat.reduceBEq,hS.var 4 rfl,hS.var 5 rfl]
       refine Cr 1 hS rfl DN rfl rfl rfl h fun v97 Ji aaC VC VD h=> ?_;try simp only [W,EE]
       have hS:=hS.zb 3;refine Bu (l:=([]:List Hello)) (c:=CV) 0 hS rfl mR rfl rfl rfl (hS.Cs 2 rfl VC VD) (fun _=>rfl) rfl h fun Ls H IG Ki hm h hS=> ?_;try simp only [W]
       refine AE JG ?_;refine Aw fun VE O_=> ?_;refine AS gC ?_;try simp only [W,EE,Nat.reduceAdd,Nat.reduceBEq,hS.var 5 rfl,hS.var 6 rfl]
       refine Bt 2 hS rfl DN rfl rfl rfl h fun Pa Gs Lt aaD h hS=> ?_;try simp only [W,EE]
       refine Bu (l:=IG) (c:=CV) 0 hS rfl Ki rfl rfl rfl (hS.hI 2 rfl Lt) (fun _=>rfl) rfl h fun NK H ID JH hm h hS=> ?_;try simp only [W,EE,Nat.reduceAdd,Nat.reduceBEq,hS.var 5 rfl]
       refine A9 (a:=NK) (y' := .agg [.int .i64 a0.C0,.int .i64 a0.CY,.int .i64 a0.X,.int .i64 a0.Y,.int .i64 a0.C1,.int .i64 a0.CZ,.int .i64 a0.CW,.int .i64 a0.CX,NK,Di,Dh]) 5 hS rfl rfl rfl rfl (by rw [JH.cells];rfl) JH.Bd (JH.wr _ _ (by simp)) rfl fun H hS=> ?_
       try simp only [W]
       refine AE O_ ?_;refine Aw fun Vk NB=> ?_;refine Aw fun SX Le=> ?_;refine AS gC ?_;try simp only [W,EE,Nat.reduceAdd,Nat.reduceBEq,hS.var 6 rfl]
       refine AE Le ?_;refine AB ?_;simp only [W];refine AR h (fun hc h=> ?_) (fun hc h=> ?_)
       ·refine Aw fun Tb Lu=> ?_;refine AS gC ?_;try simp only [W,EE,reduceIte,Nat.reduceAdd,Nat.reduceLeDiff,hS.var 5 rfl,hS.var 1 rfl]
        refine Bh h fun DW QU h=> ?_;refine Vo QU (hS.BA 8 [0,3,4,1,2,5,6,7] (by decide)) JH DZ DT fun Tc Td Pb Lv Pc Lw H hS=> ?_
        try simp only [W]
        refine A9 (a:= .agg [.int .i64 DW.C0,.int .i64 DW.CY,.int .i64 DW.X,.int .i64 DW.Y,.int .i64 DW.C1,.int .i64 DW.CZ,.int .i64 DW.CW,.int .i64 DW.CX,Tc,Pb,Pc]) (y' := .agg [.int .i64 DW.C0,.int .i64 DW.CY,.int .i64 DW.X,.int .i64 DW.Y,.int .i64 DW.C1,.int .i64 DW.CZ,.int .i64 DW.CW,.int .i64 DW.CX,Tc,Pb,Pc]) 7 hS rfl rfl rfl rfl rfl (by simp only [dB,List.all_cons,List.all_nil,Td.pF,Lv.pF,Lw.pF];rfl) rfl rfl fun H hS=> ?_
        try simp only [W]
        refine AE Lu ?_;refine Az ?_;refine AF NB ?_;refine AN C8 (BC rfl rfl (hS.var 7 rfl) rfl (BD rfl rfl)) ?_;try obtain rfl:=Option.some.inj h
        exact hP _ Td _ Lv _ Lw _ (hS.BA 8 [0,1,2] (by decide))
       ·refine Ay ?_;refine AE NB ?_;refine Aw fun Vn Qz=> ?_;refine AS gC ?_;try simp only [W,EE,reduceIte,Nat.reduceAdd,Nat.reduceLeDiff,hS.var 5 rfl]
        refine A9 (a:= .agg [.int .i64 a0.C0,.int .i64 a0.CY,.int .i64 a0.X,.int .i64 a0.Y,.int .i64 a0.C1,.int .i64 a0.CZ,.int .i64 a0.CW,.int .i64 a0.CX,NK,Di,Dh]) (y' := .agg [.int .i64 a0.C0,.int .i64 a0.CY,.int .i64 a0.X,.int .i64 a0.Y,.int .i64 a0.C1,.int .i64 a0.CZ,.int .i64 a0.CW,.int .i64 a0.CX,NK,Di,Dh]) 7 hS rfl rfl rfl rfl rfl (by simp only [dB,List.all_cons,List.all_nil,JH.pF,DZ.pF,DT.pF];rfl) rfl rfl fun H hS=> ?_
        try simp only [W]
        refine AE Qz ?_;refine Az ?_;refine AN C8 (BC rfl rfl (hS.var 7 rfl) rfl (BD rfl rfl)) ?_;try obtain rfl:=Option.some.inj h
        exact hP _ JH _ DZ _ DT _ (hS.BA 8 [0,3,4] (by decide))
theorem VF {a0:List Dc} {r:(C5×List Bool×Bool)} (h:Md a0=some r) {F:List It} {H:J} (hS:ay H (F)) {P:AV→J→Prop} (hP: ∀QV:AV,bm QV→ ∀Pd:AV,bm Pd→ ∀QW:AV,bm QW→ ∀QX:AV,bm QX→ ∀H',ay H' (⟨QV,3,r.1.C2.map CV⟩::⟨Pd,3,r.1.C3.map CV⟩::⟨QW,3,r.1.C4.map CV⟩::⟨QX,1,r.2.1.map AV.bool⟩::F)→P (.aC [.agg [.int .i64 r.1.C0,.int .i64 r.1.CY,.int .i64 r.1.X,.int .i64 r.1.Y,.int .i64 r.1.C1,.int .i64 r.1.CZ,.int .i64 r.1.CW,.int .i64 r.1.CX,QV,Pd,QW],QX,.bool r.2.2]) H'):au C 296 [.fz (a0.map Ge)] H P:=by
 refine AW gC (res:=[.cell 2 73,.tmp 3,.tmp 4]) (n:=39) rfl rfl rfl rfl fun K0 C8=> ?_;simp only [W,Nat.reduceSub,Nat.reduceAdd,List.replicate];unfold Md at h;refine Aw fun K1 Da=> ?_;refine AS gC ?_;try simp only [W,Nat.reduceAdd]
 refine A8 hS rfl rfl fun C6 C7 H hS=> ?_;try simp only [W]
 refine AE Da ?_;refine Aw fun K4 Df=> ?_;refine Aw fun K5 D7=> ?_;refine AS gC ?_;try simp only [W,EE,Nat.reduceAdd]
 refine AE D7 ?_;refine AB ?_;simp only [W];refine AR h (fun hc h=> ?_) (fun hc h=> ?_)
 ·refine Aw fun K6 Dx=> ?_;refine AS gC ?_;try simp only [W,EE,Nat.reduceAdd]
  refine BF rfl rfl rfl rfl rfl ?_;try simp only [W]
  refine A9 (a:= .agg [.int .i64 0,.int .i64 0,.int .i64 0,.int .i64 0,.int .i64 0,.int .i64 0,.int .i64 0,.int .i64 0,.nil,.nil,.nil]) (y' := .agg [.int .i64 0,.int .i64 0,.int .i64 0,.int .i64 0,.int .i64 0,.int .i64 0,.int .i64 0,.int .i64 0,.nil,.nil,.nil]) 0 hS rfl rfl rfl rfl rfl rfl rfl rfl fun H hS=> ?_
  try simp only [W]
  refine AE Dx ?_;refine Az ?_;refine AF Df ?_;refine AN C8 (BC rfl rfl (hS.var 0 rfl) rfl (BD rfl (BD rfl rfl))) ?_;try obtain rfl:=Option.some.inj h
  exact hP _ mQ _ mQ _ mQ _ mQ _ (((((hS.za 1).za 3).za 3).za 3).BA 5 [0,1,2,3] (by decide))
 ·refine Ay ?_;refine AE Df ?_;refine Aw fun K7 Ez=> ?_;refine AS gC ?_;try simp only [W,Nat.reduceAdd]
  refine Bh h fun Dr G4 h=> ?_;refine QA G4 hS fun E7 Gf v11 Fw EX EP H hS=> ?_;try simp only [W]
  refine A8 hS rfl rfl fun HB HC H hS=> ?_;try simp only [W]
  refine A9 (a:= .agg [.int .i64 Dr.C0,.int .i64 Dr.CY,.int .i64 Dr.X,.int .i64 Dr.Y,.int .i64 Dr.C1,.int .i64 Dr.CZ,.int .i64 Dr.CW,.int .i64 Dr.CX,E7,v11,EX]) (y' := .agg [.int .i64 Dr.C0,.int .i64 Dr.CY,.int .i64 Dr.X,.int .i64 Dr.Y,.int .i64 Dr.C1,.int .i64 Dr.CZ,.int .i64 Dr.CW,.int .i64 Dr.CX,E7,v11,EX]) 0 hS rfl rfl rfl rfl rfl (by simp only [dB,List.all_cons,List.all_nil,Gf.pF,Fw.pF,EP.pF];rfl) rfl rfl fun H hS=> ?_
  try simp only [W]
  refine AE Ez ?_;refine Aw fun GX Ea=> ?_;refine AS gC ?_;try simp only [W,Nat.reduceAdd]
  refine AE Ea ?_;refine Aw fun Ij EB=> ?_;refine Aw fun Hl Es=> ?_;refine AS gC ?_;try simp only [W,EE,Nat.reduceAdd]
  refine AE Es ?_;obtain ⟨QD,VG,Qt⟩:=Option.bind_eq_some_iff.1 h;refine Bm gC (fun s H=> ∃EH:List Bool,∃GP:Int,∃Fc:Int,∃GQ:Int,∃E2:Int,∃Gt:Int,∃Gu:Int,∃Gv:Int,∃Gw:Int,∃Fs:List Hello,∃Ft:List Hello,∃Hf:List Hello,QD=(EH,GP,Fc,GQ,E2,Gt,Gu,Gv,Gw,Fs,Ft,Hf)∧ ∃EQ:AV,bm EQ∧ ∃FU:AV,bm FU∧ ∃Iv:AV,bm Iv∧ ∃Kj:AV,bm Kj∧s=[u,u,.ptr C6 C7 0 0,u,u,.ptr HB HC 0 0,EQ,u,u,u,u,u,u,u,u,u,u,u,u,u,u,u,u,u,u,u,u,u,u,u,u,u,u,u,u,u,u,u,u]∧ay H (⟨EQ,1,EH.map AV.bool⟩::⟨FU,3,Fs.map CV⟩::⟨Iv,3,Ft.map CV⟩::⟨Kj,3,Hf.map CV⟩::⟨.ptr C6 C7 0 0,11,[.agg [.int .i64 0,.int .i64 0,.int .i64 0,.int .i64 0,.int .i64 0,.int .i64 0,.int .i64 0,.int .i64 0,.nil,.nil,.nil]]⟩::⟨.ptr HB HC 0 0,11,[.agg [.int .i64 GP,.int .i64 Fc,.int .i64 GQ,.int .i64 E2,.int .i64 Gt,.int .i64 Gu,.int .i64 Gv,.int .i64 Gw,FU,Iv,Kj]]⟩::F)) (fun NF G3=> ?_) (fun s H hq=> ?_)
  ·refine Ax fun S2 Jz=> ?_;refine Bi gC VG (fun x s H=>match x with|(En,Ed,DL,D1,Eu,D5,D8,DS,DU,DM,EZ,Dt,FD)=> ∃FV:AV,bm FV∧ ∃JI:AV,bm JI∧ ∃I2:AV,bm I2∧ ∃GF:AV,bm GF∧s=[u,u,.ptr C6 C7 0 0,u,u,.ptr HB HC 0 0,FV,u,u,u,u,u,u,u,u,u,.fz (a0.map Ge),.int .i64 (a0.length:Int),.int .i64 Ed,u,u,u,u,u,u,u,u,u,u,u,u,u,u,u,u,u,u,u,u]∧ay H (⟨FV,1,En.map AV.bool⟩::⟨JI,3,EZ.map CV⟩::⟨I2,3,Dt.map CV⟩::⟨GF,3,FD.map CV⟩::⟨.ptr C6 C7 0 0,11,[.agg [.int .i64 0,.int .i64 0,.int .i64 0,.int .i64 0,.int .i64 0,.int .i64 0,.int .i64 0,.int .i64 0,.nil,.nil,.nil]]⟩::⟨.ptr HB HC 0 0,11,[.agg [.int .i64 DL,.int .i64 D1,.int .i64 Eu,.int .i64 D5,.int .i64 D8,.int .i64 DS,.int .i64 DU,.int .i64 DM,JI,I2,GF]]⟩::F)) ⟨_,mQ,_,Gf,_,Fw,_,EP,rfl,((hS.za 1).BA 6 [0,2,3,4,5,1] (by decide))⟩ (fun x SS s H h VH hi S3 Ln=> ?_)
   obtain ⟨En,Ed,DL,D1,Eu,D5,D8,DS,DU,DM,EZ,Dt,FD⟩:=x;try dsimp only at hi
   obtain ⟨FV,Kk,JI,QY,I2,JJ,GF,GG,rfl,hS⟩:=hi;simp only [KJ] at h;refine Aw fun Qu Im=> ?_;refine AS gC ?_;try simp only [W,EE,Nat.reduceAdd]
   refine AE Im ?_;refine Aw fun SU J6=> ?_;refine AB ?_;simp only [W];refine AR h (fun hc h=> ?_) (fun hc h=> ?_)
   ·refine Ay ?_;refine AE J6 ?_;refine Aw fun S7 NJ=> ?_;refine Ax fun O7 HA=> ?_;refine Aw fun O2 HZ=> ?_;refine AS gC ?_;try simp only [W,EE,Nat.reduceAdd]
    refine Ba rfl rfl rfl (fun _=>rfl) h fun KK aaE h=> ?_;try simp only [W,EE,EN,reduceIte,Nat.reduceAdd,Nat.reduceLeDiff]
    refine A8 hS rfl rfl fun aaF aaG H hS=> ?_;try simp only [W]
    refine A9 (a:= .agg [.int .i64 KK.Kind,.int .i64 KK.K]) (y' := .agg [.int .i64 KK.Kind,.int .i64 KK.K]) 0 hS rfl rfl rfl rfl rfl rfl rfl rfl fun H hS=> ?_
    try simp only [W]
    refine AE HZ ?_;refine Aw fun O8 Ga=> ?_;refine BG gC [(3,[]),(8,[6])] (by kernel_rfl) rfl (by kernel_rfl) ?_
    try simp only [W,EE,reduceIte,Nat.reduceAdd,Nat.reduceLeDiff,Nat.reduceBEq,hS.var 6 rfl,iC,lh,Nat.reduceEqDiff,List.contains_cons,Nat.reduceBEq,Bool.or_self]
    refine B9 (bO:=[[.sc,.sc,.sc,.sc,.sc,.sc,.sc,.sc,.sl [.sc,.sc,.sc],.sl [.sc,.sc,.sc],.sl [.sc,.sc,.sc]]]) (ys:=[.agg [.int .i64 DL,.int .i64 D1,.int .i64 Eu,.int .i64 D5,.int .i64 D8,.int .i64 DS,.int .i64 DU,.int .i64 DM,.fz (EZ.map CV),.fz (Dt.map CV),.fz (FD.map CV)]]) h rfl (BW (BR (zk rfl (zk rfl (zk rfl (zk rfl (zk rfl (zk rfl (zk rfl (zk rfl (zk (BT hS 2 rfl QY (fun _=>rfl)) (zk (BT hS 3 rfl JJ (fun _=>rfl)) (zk (BT hS 4 rfl GG (fun _=>rfl)) (BQ _))))))))))))) BV) fun F1 QZ h=>⟨.agg [.int .i64 F1.C0,.int .i64 F1.CY,.int .i64 F1.X,.int .i64 F1.Y,.int .i64 F1.C1,.int .i64 F1.CZ,.int .i64 F1.CW,.int .i64 F1.CX,.own 3 (F1.C2.map CV),.own 3 (F1.C3.map CV),.own 3 (F1.C4.map CV)],Lf QZ (ay.nil _) fun v75 VI Ly NL v77 VJ H hS=>B1 rfl (B0 (By rfl (By rfl (By rfl (By rfl (By rfl (By rfl (By rfl (By rfl (Bz 0 hS rfl VI (fun _ _=>by simp [aX,aO,cg,dl,CV]) fun H hS=>Bz 0 hS rfl NL (fun _ _=>by simp [aX,aO,cg,dl,CV]) fun H hS=>Bz 0 hS rfl VJ (fun _ _=>by simp [aX,aO,cg,dl,CV]) fun H hS=>Bx (BX rfl))))))))))),(Cd (Cc rfl (Cc rfl (Cc rfl (Cc rfl (Cc rfl (Cc rfl (Cc rfl (Cc rfl (Cc (Ca _ (fun _=>rfl) _) (Cc (Ca _ (fun _=>rfl) _) (Cc (Ca _ (fun _=>rfl) _) Cb)))))))))))),?_⟩
    refine B6 ?_;refine B5 ?_;refine B3 (fun _=>rfl) ?_;refine B3 (fun _=>rfl) ?_;refine B3 (fun _=>rfl) ?_;refine B3 (fun _=>rfl) ?_;refine B3 (fun _=>rfl) ?_;refine B3 (fun _=>rfl) ?_;refine B3 (fun _=>rfl) ?_;refine B3 (fun _=>rfl) ?_;refine B4 hS (fun _ _=>rfl) (fun _=>rfl) fun Kb H O4 hS=> ?_;refine B4 hS (fun _ _=>rfl) (fun _=>rfl) fun HD H Lz hS=> ?_;refine B4 hS (fun _ _=>rfl) (fun _=>rfl) fun GZ H Jv hS=> ?_;refine B2 ?_;refine B2 ?_;try simp only [List.headD_cons]
    try simp only [W,EE,reduceIte,Nat.reduceAdd,Nat.reduceLeDiff,hS.var 3 rfl]
    refine Bh h fun VK VL h=> ?_;obtain ⟨DI,GM⟩:=VK;try dsimp only at h
    refine NH VL (hS.BA 10 [2,1,0,3,4,5,6,7,8,9] (by decide)) O4 Lz Jv fun IZ Hu JE JF Kh Lr H hS=> ?_
    try simp only [W]
    refine A8 hS rfl rfl fun aaH aaI H hS=> ?_;try simp only [W]
    refine A9 (a:= .agg [.int .i64 DI.C0,.int .i64 DI.CY,.int .i64 DI.X,.int .i64 DI.Y,.int .i64 DI.C1,.int .i64 DI.CZ,.int .i64 DI.CW,.int .i64 DI.CX,IZ,JE,Kh]) (y' := .agg [.int .i64 DI.C0,.int .i64 DI.CY,.int .i64 DI.X,.int .i64 DI.Y,.int .i64 DI.C1,.int .i64 DI.CZ,.int .i64 DI.CW,.int .i64 DI.CX,IZ,JE,Kh]) 0 hS rfl rfl rfl rfl rfl (by simp only [dB,List.all_cons,List.all_nil,Hu.pF,JF.pF,Lr.pF];rfl) rfl rfl fun H hS=> ?_
    refine BH ?_;refine BI (by first|rfl|(simp [aL,W,EE,EN,bN,jl,aG,AV.cells,hS.var 0 rfl,hS.var 4 rfl,hS.var 9 rfl,hS.var 10 rfl];done)) ?_
    refine BJ ?_;try simp only [W]
    refine AE Ga ?_;refine Aw fun QT JG=> ?_;refine Aw fun Te LA=> ?_;refine AS gC ?_;try simp only [W,Nat.reduceAdd]
    refine AE LA ?_;obtain ⟨Q0,h,Q1⟩:=Option.bind_eq_some_iff.1 h;refine Bm gC (fun s H=> ∃HM:Int,∃L_:Int,∃IG:Int,∃Ma:Int,∃Mb:Int,∃Mc:Int,∃Gs:Int,∃HJ:Int,∃HK:List Hello,∃D6:List Hello,∃HN:List Hello,Q0=(HM,L_,IG,Ma,Mb,Mc,Gs,HJ,HK,D6,HN)∧ ∃Kl:AV,bm Kl∧ ∃NM:AV,bm NM∧ ∃I3:AV,bm I3∧s=[u,u,.ptr C6 C7 0 0,u,u,.ptr HB HC 0 0,FV,u,u,u,.bool GM,u,u,u,u,u,.fz (a0.map Ge),.int .i64 (a0.length:Int),.int .i64 Ed,u,u,u,u,u,u,u,u,u,u,u,u,u,u,u,u,u,u,u,u]∧ay H (⟨FV,1,En.map AV.bool⟩::⟨Kl,3,HK.map CV⟩::⟨NM,3,D6.map CV⟩::⟨I3,3,HN.map CV⟩::⟨.ptr C6 C7 0 0,11,[.agg [.int .i64 0,.int .i64 0,.int .i64 0,.int .i64 0,.int .i64 0,.int .i64 0,.int .i64 0,.int .i64 0,.nil,.nil,.nil]]⟩::⟨.ptr HB HC 0 0,11,[.agg [.int .i64 HM,.int .i64 L_,.int .i64 IG,.int .i64 Ma,.int .i64 Mb,.int .i64 Mc,.int .i64 Gs,.int .i64 HJ,Kl,NM,I3]]⟩::F)) (fun VM NN=> ?_) (fun s H hq=> ?_)
    ·refine Aw fun Tf Km=> ?_;refine AB ?_;simp only [W];refine AR h (fun hc h=> ?_) (fun hc h=> ?_)
     ·refine AS gC ?_;try simp only [W,EE,reduceIte,Nat.reduceAdd,Nat.reduceLeDiff,hS.var 0 rfl]
      refine A9 (a:= .agg [.int .i64 DI.C0,.int .i64 DI.CY,.int .i64 DI.X,.int .i64 DI.Y,.int .i64 DI.C1,.int .i64 DI.CZ,.int .i64 DI.CW,.int .i64 DI.CX,IZ,JE,Kh]) (y' := .agg [.int .i64 DI.C0,.int .i64 DI.CY,.int .i64 DI.X,.int .i64 DI.Y,.int .i64 DI.C1,.int .i64 DI.CZ,.int .i64 DI.CW,.int .i64 DI.CX,IZ,JE,Kh]) 10 hS rfl rfl rfl rfl rfl (by simp only [dB,List.all_cons,List.all_nil,Hu.pF,JF.pF,Lr.pF];rfl) rfl rfl fun H hS=> ?_
      try simp only [W]
      refine AE Km ?_;refine AD ?_;exact Bn NN ⟨_,_,_,_,_,_,_,_,_,_,_,(Option.some.inj h).symm,_,Hu,_,JF,_,Lr,rfl,(hS.BA 11 [5,1,2,3,9,10] (by decide))⟩
     ·refine Ay ?_;refine AE Km ?_;refine AD ?_;exact Bn NN ⟨_,_,_,_,_,_,_,_,_,_,_,(Option.some.inj h).symm,_,QY,_,JJ,_,GG,rfl,(hS.BA 11 [5,6,7,8,9,10] (by decide))⟩
    ·obtain ⟨HM,L_,IG,Ma,Mb,Mc,Gs,HJ,HK,D6,HN,rfl,Kl,Pe,NM,Q2,I3,Q3,rfl,hS⟩:=hq;replace h:=Q1;try dsimp only at h
     refine AE JG ?_;refine AS gC ?_;try simp only [W,Nat.reduceAdd]
     refine Bg (el:=([GM]:List Bool).map AV.bool) hS rfl rfl rfl rfl rfl rfl rfl fun Pf H VN hS=> ?_;try simp only [W,EE]
     refine Bu (l:=En) (c:=AV.bool) 1 hS rfl Kk rfl rfl rfl (hS.hI 0 rfl VN) (fun _=>rfl) rfl h fun LB H Jj Kn hm h hS=> ?_;try simp only [W]
     refine AJ HA ?_;refine AE NJ ?_;refine AS gC ?_;try simp only [W,EE,Nat.reduceAdd]
     exact Bj Ln h ⟨_,Kn,_,Pe,_,Q2,_,Q3,rfl,(hS.BA 7 [1,2,3,4,5,6] (by decide))⟩
   ·refine AA ?_;refine AG J6 ?_;try obtain rfl:=Option.some.inj h
    obtain rfl:=VH _ rfl;have h:(some (En,DL,D1,Eu,D5,D8,DS,DU,DM,EZ,Dt,FD):Option ((List Bool)×Int×Int×Int×Int×Int×Int×Int×Int×(List Hello)×(List Hello)×(List Hello)))=some (En,DL,D1,Eu,D5,D8,DS,DU,DM,EZ,Dt,FD):=rfl;refine Bk Ln ?_;refine AK Jz ?_;exact Bn G3 ⟨_,_,_,_,_,_,_,_,_,_,_,_,(Option.some.inj h).symm,_,Kk,_,QY,_,JJ,_,GG,rfl,hS⟩
  ·obtain ⟨EH,GP,Fc,GQ,E2,Gt,Gu,Gv,Gw,Fs,Ft,Hf,rfl,EQ,Iw,FU,IX,Iv,Ko,Kj,Pg,rfl,hS⟩:=hq;replace h:=Qt;try dsimp only at h
   refine AE EB ?_;refine Aw fun aaJ VO=> ?_;refine AS gC ?_;try simp only [W,EE,reduceIte,Nat.reduceAdd,Nat.reduceLeDiff,Nat.reduceBEq,hS.var 5 rfl,List.contains_cons,Nat.reduceBEq,Bool.or_self]
   refine B9 (bO:=[[.sc,.sc,.sc,.sc,.sc,.sc,.sc,.sc,.sl [.sc,.sc,.sc],.sl [.sc,.sc,.sc],.sl [.sc,.sc,.sc]]]) (ys:=[.agg [.int .i64 GP,.int .i64 Fc,.int .i64 GQ,.int .i64 E2,.int .i64 Gt,.int .i64 Gu,.int .i64 Gv,.int .i64 Gw,.fz (Fs.map CV),.fz (Ft.map CV),.fz (Hf.map CV)]]) h rfl (BW (BR (zk rfl (zk rfl (zk rfl (zk rfl (zk rfl (zk rfl (zk rfl (zk rfl (zk (BT hS 1 rfl IX (fun _=>rfl)) (zk (BT hS 2 rfl Ko (fun _=>rfl)) (zk (BT hS 3 rfl Pg (fun _=>rfl)) (BQ _))))))))))))) BV) fun D_ VP h=>⟨.agg [.int .i64 D_.C0,.int .i64 D_.CY,.int .i64 D_.X,.int .i64 D_.Y,.int .i64 D_.C1,.int .i64 D_.CZ,.int .i64 D_.CW,.int .i64 D_.CX,.own 3 (D_.C2.map CV),.own 3 (D_.C3.map CV),.own 3 (D_.C4.map CV)],Lf VP (ay.nil _) fun LC NO Ph VQ aaK VR H hS=>B1 rfl (B0 (By rfl (By rfl (By rfl (By rfl (By rfl (By rfl (By rfl (By rfl (Bz 0 hS rfl NO (fun _ _=>by simp [aX,aO,cg,dl,CV]) fun H hS=>Bz 0 hS rfl VQ (fun _ _=>by simp [aX,aO,cg,dl,CV]) fun H hS=>Bz 0 hS rfl VR (fun _ _=>by simp [aX,aO,cg,dl,CV]) fun H hS=>Bx (BX rfl))))))))))),(Cd (Cc rfl (Cc rfl (Cc rfl (Cc rfl (Cc rfl (Cc rfl (Cc rfl (Cc rfl (Cc (Ca _ (fun _=>rfl) _) (Cc (Ca _ (fun _=>rfl) _) (Cc (Ca _ (fun _=>rfl) _) Cb)))))))))))),?_⟩
   refine B6 ?_;refine B5 ?_;refine B3 (fun _=>rfl) ?_;refine B3 (fun _=>rfl) ?_;refine B3 (fun _=>rfl) ?_;refine B3 (fun _=>rfl) ?_;refine B3 (fun _=>rfl) ?_;refine B3 (fun _=>rfl) ?_;refine B3 (fun _=>rfl) ?_;refine B3 (fun _=>rfl) ?_;refine B4 hS (fun _ _=>rfl) (fun _=>rfl) fun Tg H Th hS=> ?_;refine B4 hS (fun _ _=>rfl) (fun _=>rfl) fun LD H Ti hS=> ?_;refine B4 hS (fun _ _=>rfl) (fun _=>rfl) fun LF H Tj hS=> ?_;refine B2 ?_;refine B2 ?_;try simp only [List.headD_cons]
   try simp only [W]
   refine A9 (a:= .agg [.int .i64 D_.C0,.int .i64 D_.CY,.int .i64 D_.X,.int .i64 D_.Y,.int .i64 D_.C1,.int .i64 D_.CZ,.int .i64 D_.CW,.int .i64 D_.CX,Tg,LD,LF]) (y' := .agg [.int .i64 D_.C0,.int .i64 D_.CY,.int .i64 D_.X,.int .i64 D_.Y,.int .i64 D_.C1,.int .i64 D_.CZ,.int .i64 D_.CW,.int .i64 D_.CX,Tg,LD,LF]) 7 hS rfl rfl rfl rfl rfl (by simp only [dB,List.all_cons,List.all_nil,Th.pF,Ti.pF,Tj.pF];rfl) rfl rfl fun H hS=> ?_
   try simp only [W]
   refine AE VO ?_;refine Az ?_;refine AN C8 (BC rfl rfl (hS.var 7 rfl) rfl (BD rfl (BD rfl rfl))) ?_;try obtain rfl:=Option.some.inj h
   exact hP _ Th _ Ti _ Tj _ Iw _ (hS.BA 9 [2,1,0,3] (by decide))
theorem Q4 {a0:Du} {i0:Nat} {w0:Nat} {r:(C5×Du)} (h:JW a0=some r) {F:List It} {H:J} (hS:ay H (⟨.ptr i0 w0 0 0,3,[.agg [.fz (a0.Code.map (AV.int .u8)),.int .i64 a0.Ds,.int .u64 a0.Dw]]⟩::F)) {P:AV→J→Prop} (hP: ∀LD:AV,bm LD→ ∀LF:AV,bm LF→ ∀Q5:AV,bm Q5→ ∀H',ay H' (⟨LD,3,r.1.C2.map CV⟩::⟨LF,3,r.1.C3.map CV⟩::⟨Q5,3,r.1.C4.map CV⟩::⟨.ptr i0 w0 0 0,3,[.agg [.fz (r.2.Code.map (AV.int .u8)),.int .i64 r.2.Ds,.int .u64 r.2.Dw]]⟩::F)→P (.agg [.int .i64 r.1.C0,.int .i64 r.1.CY,.int .i64 r.1.X,.int .i64 r.1.Y,.int .i64 r.1.C1,.int .i64 r.1.CZ,.int .i64 r.1.CW,.int .i64 r.1.CX,LD,LF,Q5]) H'):au C 207 [.ptr i0 w0 0 0] H P:=by
 refine AW gC (res:=[.cell 2 73]) (n:=45) rfl rfl rfl rfl fun K0 C8=> ?_;simp only [W,Nat.reduceSub,Nat.reduceAdd,List.replicate];unfold JW at h;refine Aw fun K1 Da=> ?_;refine AS gC ?_;try simp only [W,Nat.reduceAdd]
 refine A8 hS rfl rfl fun C6 C7 H hS=> ?_;try simp only [W]
 refine AE Da ?_;refine Aw fun K4 Df=> ?_;refine AS gC ?_;try simp only [W,Nat.reduceAdd,Nat.reduceBEq,List.contains_cons,Nat.reduceBEq,Bool.or_self]
 refine Bh h fun DQ H7 h=> ?_;obtain ⟨Fb,C9⟩:=DQ;try dsimp only at h
 refine SN H7 (hS.BA 2 [1,0] (by decide)) fun Ix Gn H hS=> ?_
 try simp only [W]
 refine B9 (bO:=[[.sc,.sc,.sc,.sc,.sc,.sc,.sc,.sc,.sl [.sc,.sc,.sc],.sl [.sc,.sc,.sc],.sl [.sc,.sc,.sc]],[.sl [.sc]],[.sc]]) (ys:=[.fz (Fb.map Ge)]) h rfl (BW (BT hS 0 rfl Gn (fun _=>rfl)) BV) fun DP Ih h=>⟨.aC [.agg [.int .i64 DP.1.C0,.int .i64 DP.1.CY,.int .i64 DP.1.X,.int .i64 DP.1.Y,.int .i64 DP.1.C1,.int .i64 DP.1.CZ,.int .i64 DP.1.CW,.int .i64 DP.1.CX,.own 3 (DP.1.C2.map CV),.own 3 (DP.1.C3.map CV),.own 3 (DP.1.C4.map CV)],.own 1 (DP.2.1.map AV.bool),.bool DP.2.2],VF Ih (ay.nil _) fun EJ Fh FM Gb I4 JK Hq IV H hS=>B1 rfl (B0 (By rfl (By rfl (By rfl (By rfl (By rfl (By rfl (By rfl (By rfl (Bz 0 hS rfl Fh (fun _ _=>by simp [aX,aO,cg,dl,CV]) fun H hS=>Bz 0 hS rfl Gb (fun _ _=>by simp [aX,aO,cg,dl,CV]) fun H hS=>Bz 0 hS rfl JK (fun _ _=>by simp [aX,aO,cg,dl,CV]) fun H hS=>Bx (BZ 0 hS rfl IV (fun _ _=>by simp [aX,aO,dl]) fun H hS=>BY rfl (BX rfl)))))))))))),(Ce (Cc (Cd (Cc rfl (Cc rfl (Cc rfl (Cc rfl (Cc rfl (Cc rfl (Cc rfl (Cc rfl (Cc (Ca _ (fun _=>rfl) _) (Cc (Ca _ (fun _=>rfl) _) (Cc (Ca _ (fun _=>rfl) _) Cb)))))))))))) (Cc (Ca _ (fun _=>rfl) _) (Cc rfl Cb)))),?_⟩
 refine B7 ?_;refine B5 ?_;refine B3 (fun _=>rfl) ?_;refine B3 (fun _=>rfl) ?_;refine B3 (fun _=>rfl) ?_;refine B3 (fun _=>rfl) ?_;refine B3 (fun _=>rfl) ?_;refine B3 (fun _=>rfl) ?_;refine B3 (fun _=>rfl) ?_;refine B3 (fun _=>rfl) ?_;refine B4 hS (fun _ _=>rfl) (fun _=>rfl) fun Hp H Ip hS=> ?_;refine B4 hS (fun _ _=>rfl) (fun _=>rfl) fun FV H Kk hS=> ?_;refine B4 hS (fun _ _=>rfl) (fun _=>rfl) fun J8 H Pj hS=> ?_;refine B2 ?_;refine B4 hS (fun _ _=>rfl) (fun _=>rfl) fun FJ H Ju hS=> ?_;refine B3 (fun _=>rfl) ?_;refine B2 ?_;try simp only [List.headD_cons]
 obtain ⟨C_,IH,FE⟩:=DP;try dsimp only at h
 try simp only [W]
 refine A8 hS rfl rfl fun Iy Iz H hS=> ?_;try simp only [W]
 refine A9 (a:= .agg [.int .i64 C_.C0,.int .i64 C_.CY,.int .i64 C_.X,.int .i64 C_.Y,.int .i64 C_.C1,.int .i64 C_.CZ,.int .i64 C_.CW,.int .i64 C_.CX,Hp,FV,J8]) (y' := .agg [.int .i64 C_.C0,.int .i64 C_.CY,.int .i64 C_.X,.int .i64 C_.Y,.int .i64 C_.C1,.int .i64 C_.CZ,.int .i64 C_.CW,.int .i64 C_.CX,Hp,FV,J8]) 0 hS rfl rfl rfl rfl rfl (by simp only [dB,List.all_cons,List.all_nil,Ip.pF,Kk.pF,Pj.pF];rfl) rfl rfl fun H hS=> ?_
 try simp only [W]
 refine AE Df ?_;refine Aw fun NP G5=> ?_;refine Aw fun Pk IA=> ?_;refine AS gC ?_;try simp only [W,Nat.reduceAdd]
 refine AE IA ?_;obtain ⟨Q6,h,Q7⟩:=Option.bind_eq_some_iff.1 h;refine Bm gC (fun s H=> ∃DU:Int,∃DM:Int,∃EZ:Int,∃EG:Int,∃Ee:Int,∃Dt:Int,∃F2:Int,∃Fe:Int,∃FD:List Hello,∃EH:List Hello,∃Fc:List Hello,Q6=(DU,DM,EZ,EG,Ee,Dt,F2,Fe,FD,EH,Fc)∧ ∃GF:AV,bm GF∧ ∃EQ:AV,bm EQ∧ ∃EA:AV,bm EA∧s=[.ptr i0 w0 0 0,u,.ptr C6 C7 0 0,.ptr Iy Iz 0 0,u,u,u,u,u,u,u,u,u,u,u,u,u,u,u,u,u,u,u,u,u,u,u,u,u,u,u,u,u,u,u,u,u,u,u,u,u,u,u,u,u]∧ay H (⟨GF,3,FD.map CV⟩::⟨EQ,3,EH.map CV⟩::⟨EA,3,Fc.map CV⟩::⟨.ptr i0 w0 0 0,3,[.agg [.fz (C9.Code.map (AV.int .u8)),.int .i64 C9.Ds,.int .u64 C9.Dw]]⟩::⟨.ptr C6 C7 0 0,11,[.agg [.int .i64 0,.int .i64 0,.int .i64 0,.int .i64 0,.int .i64 0,.int .i64 0,.int .i64 0,.int .i64 0,.nil,.nil,.nil]]⟩::⟨.ptr Iy Iz 0 0,11,[.agg [.int .i64 DU,.int .i64 DM,.int .i64 EZ,.int .i64 EG,.int .i64 Ee,.int .i64 Dt,.int .i64 F2,.int .i64 Fe,GF,EQ,EA]]⟩::F)) (fun Lk Gh=> ?_) (fun s H hq=> ?_)
 ·refine Aw fun Ll FT=> ?_;refine AB ?_;simp only [W];refine AR h (fun hc h=> ?_) (fun hc h=> ?_)
  ·refine AS gC ?_;try simp only [W,Nat.reduceAdd]
   refine Bh h fun Dv J5 h=> ?_;refine QA J5 hS fun FU IX Iv Ko Kj Pg H hS=> ?_;try simp only [W]
   refine A9 (a:= .agg [.int .i64 Dv.C0,.int .i64 Dv.CY,.int .i64 Dv.X,.int .i64 Dv.Y,.int .i64 Dv.C1,.int .i64 Dv.CZ,.int .i64 Dv.CW,.int .i64 Dv.CX,FU,Iv,Kj]) (y' := .agg [.int .i64 Dv.C0,.int .i64 Dv.CY,.int .i64 Dv.X,.int .i64 Dv.Y,.int .i64 Dv.C1,.int .i64 Dv.CZ,.int .i64 Dv.CW,.int .i64 Dv.CX,FU,Iv,Kj]) 3 hS rfl rfl rfl rfl rfl (by simp only [dB,List.all_cons,List.all_nil,IX.pF,Ko.pF,Pg.pF];rfl) rfl rfl fun H hS=> ?_
   try simp only [W]
   refine AE FT ?_;refine AD ?_;exact Bn Gh ⟨_,_,_,_,_,_,_,_,_,_,_,(Option.some.inj h).symm,_,IX,_,Ko,_,Pg,rfl,(hS.BA 11 [0,1,2,9,10,3] (by decide))⟩
  ·refine Ay ?_;refine AE FT ?_;refine AD ?_;exact Bn Gh ⟨_,_,_,_,_,_,_,_,_,_,_,(Option.some.inj h).symm,_,Ip,_,Kk,_,Pj,rfl,(hS.BA 8 [4,3,2,6,7,0] (by decide))⟩
 ·obtain ⟨DU,DM,EZ,EG,Ee,Dt,F2,Fe,FD,EH,Fc,rfl,GF,GG,EQ,Iw,EA,Hy,rfl,hS⟩:=hq;replace h:=Q7;try dsimp only at h
  refine AE G5 ?_;refine Aw fun O6 I0=> ?_;refine Aw fun NF G3=> ?_;refine AS gC ?_;try simp only [W,Nat.reduceAdd]
  refine Bh h fun Fp QN h=> ?_;obtain ⟨Oo,EM⟩:=Fp;try dsimp only at h
  refine GB QN (hS.BA 6 [3,0,1,2,4,5] (by decide)) fun H hS=> ?_
  try simp only [W]
  refine AE G3 ?_;obtain ⟨QO,h,QP⟩:=Option.bind_eq_some_iff.1 h;refine Bm gC (fun s H=> ∃EI:List Int,∃DX:Int,∃Fu:Int,∃Gx:Int,∃Ev:Int,∃FO:List Hello,QO=(EI,DX,Fu,Gx,Ev,FO)∧ ∃LG:AV,bm LG∧s=[u,u,.ptr C6 C7 0 0,.ptr Iy Iz 0 0,u,u,u,u,u,u,u,u,u,u,u,u,u,u,u,u,u,u,u,u,u,u,u,u,u,u,u,u,u,u,u,u,u,u,u,u,u,u,u,u,u]∧ay H (⟨LG,3,FO.map CV⟩::⟨EQ,3,EH.map CV⟩::⟨EA,3,Fc.map CV⟩::⟨.ptr i0 w0 0 0,3,[.agg [.fz (EI.map (AV.int .u8)),.int .i64 DX,.int .u64 Fu]]⟩::⟨.ptr C6 C7 0 0,11,[.agg [.int .i64 0,.int .i64 0,.int .i64 0,.int .i64 0,.int .i64 0,.int .i64 0,.int .i64 0,.int .i64 0,.nil,.nil,.nil]]⟩::⟨.ptr Iy Iz 0 0,11,[.agg [.int .i64 DU,.int .i64 Gx,.int .i64 EZ,.int .i64 EG,.int .i64 Ee,.int .i64 Dt,.int .i64 Ev,.int .i64 Fe,LG,EQ,EA]]⟩::F)) (fun O8 Ga=> ?_) (fun s H hq=> ?_)
  ·refine Ax fun VT Pl=> ?_;refine Aw fun S8 Kf=> ?_;refine AS gC ?_;try simp only [W,EE,Nat.reduceAdd]
   refine AE Kf ?_;obtain ⟨Tk,h,Pm⟩:=Option.bind_eq_some_iff.1 h;refine Bm gC (fun s H=> ∃DV:List Int,∃FF:Int,∃D0:Int,∃EV:Int,∃E6:Int,∃F4:List Hello,Tk=(DV,FF,D0,EV,E6,F4)∧ ∃HD:AV,bm HD∧s=[u,u,.ptr C6 C7 0 0,.ptr Iy Iz 0 0,u,u,u,u,u,u,u,u,u,u,u,u,u,u,u,u,u,u,u,u,u,u,u,u,u,u,u,u,u,u,u,u,u,u,u,u,u,u,u,u,u]∧ay H (⟨HD,3,F4.map CV⟩::⟨EQ,3,EH.map CV⟩::⟨EA,3,Fc.map CV⟩::⟨.ptr i0 w0 0 0,3,[.agg [.fz (DV.map (AV.int .u8)),.int .i64 FF,.int .u64 D0]]⟩::⟨.ptr C6 C7 0 0,11,[.agg [.int .i64 0,.int .i64 0,.int .i64 0,.int .i64 0,.int .i64 0,.int .i64 0,.int .i64 0,.int .i64 0,.nil,.nil,.nil]]⟩::⟨.ptr Iy Iz 0 0,11,[.agg [.int .i64 DU,.int .i64 EV,.int .i64 EZ,.int .i64 EG,.int .i64 Ee,.int .i64 Dt,.int .i64 E6,.int .i64 Fe,HD,EQ,EA]]⟩::F)) (fun QI JC=> ?_) (fun s H hq=> ?_)
   ·refine Aw fun QS I1=> ?_;refine AB ?_;simp only [W];refine AR h (fun hc h=> ?_) (fun hc h=> ?_)
    ·refine AT (fz:=[(2,[([21],[.sl [.sc]])])]) gC ?_;try simp only [W,Nat.reduceAdd,Nat.reduceBEq]
     refine Bg (el:=([0,1000,1001]:List Int).map (AV.int .i64)) hS rfl rfl rfl rfl rfl rfl rfl fun IZ H Hu hS=> ?_;try simp only [W,Nat.reduceAdd]
     refine Bw 0 hS rfl Hu rfl (fun _ _=>by simp [aX,aO,dl]) (fun _=>rfl) fun H rb hS=> ?_
     try simp only [W]
     refine Bh h fun Nj Q8 h=> ?_;obtain ⟨JX,JY⟩:=Nj;try dsimp only at h
     refine SM Q8 hS fun H hS=> ?_;try simp only [W,EE,Nat.reduceAdd,Nat.reduceBEq,hS.var 5 rfl]
     refine A9 (a:= .int .i64 JX) (y' := .agg [.int .i64 DU,.int .i64 DM,.int .i64 EZ,.int .i64 EG,.int .i64 Ee,.int .i64 Dt,.int .i64 JX,.int .i64 Fe,GF,EQ,EA]) 5 hS rfl rfl rfl rfl rfl rfl rfl rfl fun H hS=> ?_
     try simp only [W,Nat.reduceAdd]
     refine AE I1 ?_;refine AD ?_;exact Bn JC ⟨_,_,_,_,_,_,(Option.some.inj h).symm,_,GG,rfl,(hS.BA 6 [1,2,3,0,4,5] (by decide))⟩
    ·refine Aw fun Tl H8=> ?_;refine AS gC ?_;try simp only [W,EE,Nat.reduceAdd]
     refine AE H8 ?_;obtain ⟨VU,h,VV⟩:=Option.bind_eq_some_iff.1 h;refine Bm gC (fun s H=> ∃Hb:List Int,∃Hc:Int,∃Hd:Int,∃Ji:Int,∃HM:List Hello,VU=(Hb,Hc,Hd,Ji,HM)∧ ∃I5:AV,bm I5∧s=[u,u,.ptr C6 C7 0 0,.ptr Iy Iz 0 0,u,u,u,u,u,u,u,u,u,u,u,u,u,u,u,u,u,u,u,u,u,u,u,u,u,u,u,u,u,u,u,u,u,u,u,u,u,u,u,u,u]∧ay H (⟨I5,3,HM.map CV⟩::⟨EQ,3,EH.map CV⟩::⟨EA,3,Fc.map CV⟩::⟨.ptr i0 w0 0 0,3,[.agg [.fz (Hb.map (AV.int .u8)),.int .i64 Hc,.int .u64 Hd]]⟩::⟨.ptr C6 C7 0 0,11,[.agg [.int .i64 0,.int .i64 0,.int .i64 0,.int .i64 0,.int .i64 0,.int .i64 0,.int .i64 0,.int .i64 0,.nil,.nil,.nil]]⟩::⟨.ptr Iy Iz 0 0,11,[.agg [.int .i64 DU,.int .i64 Ji,.int .i64 EZ,.int .i64 EG,.int .i64 Ee,.int .i64 Dt,.int .i64 F2,.int .i64 Fe,I5,EQ,EA]]⟩::F)) (fun VE O_=> ?_) (fun s H hq=> ?_)
     ·refine Aw fun VW Pn=> ?_;refine AB ?_;simp only [W];refine AR h (fun hc h=> ?_) (fun hc h=> ?_)
      ·refine AS gC ?_;try simp only [W,Nat.reduceAdd]
       refine Bh h fun Q9 Q_ h=> ?_;obtain ⟨JZ,F3⟩:=Q9;try dsimp only at h
       refine GB Q_ hS fun H hS=> ?_;try simp only [W,EE,Nat.reduceAdd,Nat.reduceBEq,hS.var 5 rfl]
       refine A9 (a:= .int .i64 JZ) (y' := .agg [.int .i64 DU,.int .i64 JZ,.int .i64 EZ,.int .i64 EG,.int .i64 Ee,.int .i64 Dt,.int .i64 F2,.int .i64 Fe,GF,EQ,EA]) 5 hS rfl rfl rfl rfl rfl rfl rfl rfl fun H hS=> ?_
       try simp only [W]
       refine AE Pn ?_;refine AD ?_;exact Bn O_ ⟨_,_,_,_,_,(Option.some.inj h).symm,_,GG,rfl,(hS.BA 6 [1,2,3,0,4,5] (by decide))⟩
      ·refine Aw fun VX Ra=> ?_;refine AS gC ?_;try simp only [W,EE,Nat.reduceAdd]
       refine AE Ra ?_;obtain ⟨Q0,h,Q1⟩:=Option.bind_eq_some_iff.1 h;refine Bm gC (fun s H=> ∃D6:List Int,∃Me:Int,∃Mf:Int,∃HN:List Hello,Q0=(D6,Me,Mf,HN)∧ ∃I3:AV,bm I3∧s=[u,u,.ptr C6 C7 0 0,.ptr Iy Iz 0 0,u,u,u,u,u,u,u,u,u,u,u,u,u,u,u,u,u,u,u,u,u,u,u,u,u,u,u,u,u,u,u,u,u,u,u,u,u,u,u,u,u]∧ay H (⟨I3,3,HN.map CV⟩::⟨EQ,3,EH.map CV⟩::⟨EA,3,Fc.map CV⟩::⟨.ptr i0 w0 0 0,3,[.agg [.fz (D6.map (AV.int .u8)),.int .i64 Me,.int .u64 Mf]]⟩::⟨.ptr C6 C7 0 0,11,[.agg [.int .i64 0,.int .i64 0,.int .i64 0,.int .i64 0,.int .i64 0,.int .i64 0,.int .i64 0,.int .i64 0,.nil,.nil,.nil]]⟩::⟨.ptr Iy Iz 0 0,11,[.agg [.int .i64 DU,.int .i64 DM,.int .i64 EZ,.int .i64 EG,.int .i64 Ee,.int .i64 Dt,.int .i64 F2,.int .i64 Fe,I3,EQ,EA]]⟩::F)) (fun VM NN=> ?_) (fun s H hq=> ?_)
       ·refine Aw fun Tf Km=> ?_;refine AB ?_;simp only [W];refine AR h (fun hc h=> ?_) (fun hc h=> ?_)
        ·refine BG gC [(5,[0,1,3,4]),(7,[0,1,4,6]),(8,[0,1,6]),(11,[]),(13,[])] (by kernel_rfl) rfl (by kernel_rfl) ?_
         try simp only [W,EE,reduceIte,Nat.reduceAdd,Nat.reduceBEq,hS.var 5 rfl,iC,lh,Nat.reduceEqDiff,BK,BL,BM,BN,BO,Nat.reduceEqDiff]
         refine Bh h fun VY VZ h=> ?_;obtain ⟨Qe,Sc⟩:=VY;try dsimp only at h
         refine GB VZ hS fun H hS=> ?_;refine BH ?_;refine BI (by first|rfl|(simp [aL,W,EE,BM,hS.var 5 rfl];done)) ?_
         refine BI (by first|rfl|(simp [aL,W,EE,bN,jl,aG,AV.cells,BM,hS.var 5 rfl];done)) ?_
         refine BI (by first|rfl|(simp [aL,W,EE,EN,bN,jl,aG,AV.cells,BM,BL,BN,hS.var 0 rfl,hS.var 4 rfl,hS.var 5 rfl];done)) ?_
         refine BI (by first|rfl|(simp [aL,W,EE,EN,bN,jl,aG,AV.cells,BM,BL,BN,hS.var 0 rfl,hS.var 4 rfl,hS.var 5 rfl];done)) ?_
         refine BJ ?_;try simp only [W,EE]
         refine Bh h fun V0 V1 h=> ?_;obtain ⟨Qf,Sd⟩:=V0;try dsimp only at h
         refine GB V1 hS fun H hS=> ?_;refine BH ?_;refine BI (by first|rfl|(simp [aL,W,EE,BM,hS.var 5 rfl];done)) ?_
         refine BI (by first|rfl|(simp [aL,W,EE,bN,jl,aG,AV.cells,BM,hS.var 5 rfl];done)) ?_
         refine BI (by first|rfl|(simp [aL,W,EE,EN,bN,jl,aG,AV.cells,BM,BL,BN,hS.var 0 rfl,hS.var 4 rfl,hS.var 5 rfl];done)) ?_
         refine BI (by first|rfl|(simp [aL,W,EE,EN,bN,jl,aG,AV.cells,BM,BL,BN,hS.var 0 rfl,hS.var 4 rfl,hS.var 5 rfl];done)) ?_
         refine BJ ?_;try simp only [W]
         refine Bh h fun V2 V3 h=> ?_;obtain ⟨Qg,D_⟩:=V2;try dsimp only at h
         refine GB V3 hS fun H hS=> ?_;refine BH ?_;refine BI (by first|rfl|(simp [aL,W,EE,BM,hS.var 5 rfl];done)) ?_
         refine BI (by first|rfl|(simp [aL,W,EE,bN,jl,aG,AV.cells,BM,hS.var 5 rfl];done)) ?_
         refine BI (by first|rfl|(simp [aL,W,EE,EN,bN,jl,aG,AV.cells,BM,BL,BN,hS.var 0 rfl,hS.var 4 rfl,hS.var 5 rfl];done)) ?_
         refine BJ ?_;try simp only [W,EE]
         refine BF rfl rfl rfl rfl rfl ?_;try simp only [W]
         refine Bg (el:=([(⟨(IntKind.i64.wrap (1+Qe)),Qf,Qg⟩:Hello)]:List Hello).map CV) hS rfl rfl rfl rfl rfl rfl rfl fun LC H NO hS=> ?_;try simp only [W,EE]
         refine Bu (l:=FD) (c:=CV) 2 hS rfl GG rfl rfl rfl (hS.hI 0 rfl NO) (fun _=>rfl) rfl h fun Tm H Se Po hm h hS=> ?_;try simp only [W,EE,Nat.reduceAdd,Nat.reduceBEq,hS.var 6 rfl]
         refine A9 (a:=Tm) (y' := .agg [.int .i64 DU,.int .i64 DM,.int .i64 EZ,.int .i64 EG,.int .i64 Ee,.int .i64 Dt,.int .i64 F2,.int .i64 Fe,Tm,EQ,EA]) 6 hS rfl rfl rfl rfl (by rw [Po.cells];rfl) Po.Bd (Po.wr _ _ (by simp)) rfl fun H hS=> ?_
         try simp only [W]
         refine AE Km ?_;refine AD ?_;exact Bn NN ⟨_,_,_,_,(Option.some.inj h).symm,_,Po,rfl,(hS.BA 7 [2,3,4,1,5,6] (by decide))⟩
        ·refine Ay ?_;refine AE Km ?_;refine AD ?_;exact Bn NN ⟨_,_,_,_,(Option.some.inj h).symm,_,GG,rfl,(hS.BA 6 [1,2,3,0,4,5] (by decide))⟩
       ·obtain ⟨D6,Me,Mf,HN,rfl,I3,Q3,rfl,hS⟩:=hq;replace h:=Q1;try dsimp only at h
        refine AE Pn ?_;refine AD ?_;exact Bn O_ ⟨_,_,_,_,_,(Option.some.inj h).symm,_,Q3,rfl,hS⟩
     ·obtain ⟨Hb,Hc,Hd,Ji,HM,rfl,I5,NQ,rfl,hS⟩:=hq;replace h:=VV;try dsimp only at h
      refine AE I1 ?_;refine AD ?_;exact Bn JC ⟨_,_,_,_,_,_,(Option.some.inj h).symm,_,NQ,rfl,hS⟩
   ·obtain ⟨DV,FF,D0,EV,E6,F4,rfl,HD,Lz,rfl,hS⟩:=hq;replace h:=Pm;try dsimp only at h
    refine AI Pl ?_;exact Bn Ga ⟨_,_,_,_,_,_,(Option.some.inj h).symm,_,Lz,rfl,hS⟩
  ·obtain ⟨EI,DX,Fu,Gx,Ev,FO,rfl,LG,Tn,rfl,hS⟩:=hq;replace h:=QP;try dsimp only at h
   refine AE I0 ?_;refine Aw fun V4 Rb=> ?_;refine AS gC ?_;try simp only [W,EE,reduceIte,Nat.reduceAdd,Nat.reduceLeDiff,hS.var 5 rfl]
   refine A9 (a:= .agg [.int .i64 DU,.int .i64 Gx,.int .i64 EZ,.int .i64 EG,.int .i64 Ee,.int .i64 Dt,.int .i64 Ev,.int .i64 Fe,LG,EQ,EA]) (y' := .agg [.int .i64 DU,.int .i64 Gx,.int .i64 EZ,.int .i64 EG,.int .i64 Ee,.int .i64 Dt,.int .i64 Ev,.int .i64 Fe,LG,EQ,EA]) 4 hS rfl rfl rfl rfl rfl (by simp only [dB,List.all_cons,List.all_nil,Tn.pF,Iw.pF,Hy.pF];rfl) rfl rfl fun H hS=> ?_
   try simp only [W]
   refine AE Rb ?_;refine Az ?_;refine AN C8 (BC rfl rfl (hS.var 4 rfl) rfl rfl) ?_;try obtain rfl:=Option.some.inj h
   exact hP _ Tn _ Iw _ Hy _ (hS.BA 6 [0,1,2,3] (by decide))
theorem V5 {a0:List Int} {r:(C5×Dc)} (h:Mg a0=some r) {F:List It} {H:J} (hS:ay H (F)) {P:AV→J→Prop} (hP: ∀JI:AV,bm JI→ ∀LH:AV,bm LH→ ∀Rc:AV,bm Rc→ ∀H',ay H' (⟨JI,3,r.1.C2.map CV⟩::⟨LH,3,r.1.C3.map CV⟩::⟨Rc,3,r.1.C4.map CV⟩::F)→P (.aC [.agg [.int .i64 r.1.C0,.int .i64 r.1.CY,.int .i64 r.1.X,.int .i64 r.1.Y,.int .i64 r.1.C1,.int .i64 r.1.CZ,.int .i64 r.1.CW,.int .i64 r.1.CX,JI,LH,Rc],.agg [.int .i64 r.2.Kind,.int .i64 r.2.K]]) H'):au C 67 [.fz (a0.map (AV.int .u8))] H P:=by
 refine AW gC (res:=[.cell 2 73,.cell 3 75]) (n:=23) rfl rfl rfl rfl fun K0 C8=> ?_;simp only [W,Nat.reduceSub,Nat.reduceAdd,List.replicate];unfold Mg at h;refine Aw fun K1 Da=> ?_;refine AS gC ?_;try simp only [W,Nat.reduceAdd]
 refine A8 hS rfl rfl fun C6 C7 H hS=> ?_;try simp only [W]
 refine A8 hS rfl rfl fun Dz DA H hS=> ?_;try simp only [W]
 refine AE Da ?_;refine Aw fun K6 Dx=> ?_;refine AS gC ?_;try simp only [W,EE,Nat.reduceAdd]
 refine BF rfl rfl rfl rfl rfl ?_;try simp only [W]
 refine A7 hS rfl rfl rfl rfl fun ip7 wp7 H hS=> ?_;try simp only [W]
 refine AE Dx ?_;refine Aw fun K9 Dy=> ?_;refine AS gC ?_;try simp only [W,Nat.reduceAdd]
 refine Bh h fun DP Ih h=> ?_;obtain ⟨C_,IH⟩:=DP;try dsimp only at h
 refine Q4 Ih hS fun EX EP FM Gb Hq IV H hS=> ?_;try simp only [W]
 refine A8 hS rfl rfl fun aaL aaM H hS=> ?_;try simp only [W]
 refine A9 (a:= .agg [.int .i64 C_.C0,.int .i64 C_.CY,.int .i64 C_.X,.int .i64 C_.Y,.int .i64 C_.C1,.int .i64 C_.CZ,.int .i64 C_.CW,.int .i64 C_.CX,EX,FM,Hq]) (y' := .agg [.int .i64 C_.C0,.int .i64 C_.CY,.int .i64 C_.X,.int .i64 C_.Y,.int .i64 C_.C1,.int .i64 C_.CZ,.int .i64 C_.CW,.int .i64 C_.CX,EX,FM,Hq]) 0 hS rfl rfl rfl rfl rfl (by simp only [dB,List.all_cons,List.all_nil,EP.pF,Gb.pF,IV.pF];rfl) rfl rfl fun H hS=> ?_
 try simp only [W]
 refine AE Dy ?_;refine Aw fun IU E8=> ?_;refine AS gC ?_;try simp only [W,Nat.reduceAdd]
 refine Bh h fun DK To h=> ?_;obtain ⟨EW,Eh⟩:=DK;try dsimp only at h
 refine SN To (hS.BA 7 [4,0,1,2,3,5,6] (by decide)) fun FJ Ju H hS=> ?_
 try simp only [W]
 refine AE E8 ?_;refine Aw fun NR G6=> ?_;refine Aw fun NP G5=> ?_;refine AS gC ?_;try simp only [W,EE,Nat.reduceAdd]
 refine Be 0 hS rfl Ju rfl ?_;try simp only [W,EE]
 refine AE G5 ?_;refine AB ?_;simp only [W];refine AR h (fun hc h=> ?_) (fun hc h=> ?_)
 ·refine Aw fun Pk IA=> ?_;refine AS gC ?_;try simp only [W,EE,reduceIte,Nat.reduceAdd,Nat.reduceLeDiff,hS.var 2 rfl]
  refine BF rfl rfl rfl rfl rfl ?_;try simp only [W]
  refine A9 (a:= .agg [.int .i64 C_.C0,.int .i64 C_.CY,.int .i64 C_.X,.int .i64 C_.Y,.int .i64 C_.C1,.int .i64 C_.CZ,.int .i64 C_.CW,.int .i64 C_.CX,EX,FM,Hq]) (y' := .agg [.int .i64 C_.C0,.int .i64 C_.CY,.int .i64 C_.X,.int .i64 C_.Y,.int .i64 C_.C1,.int .i64 C_.CZ,.int .i64 C_.CW,.int .i64 C_.CX,EX,FM,Hq]) 7 hS rfl rfl rfl rfl rfl (by simp only [dB,List.all_cons,List.all_nil,EP.pF,Gb.pF,IV.pF];rfl) rfl rfl fun H hS=> ?_
  try simp only [W]
  refine A9 (a:= .agg [.int .i64 1,.int .i64 0]) (y' := .agg [.int .i64 1,.int .i64 0]) 6 hS rfl rfl rfl rfl rfl rfl rfl rfl fun H hS=> ?_
  try simp only [W]
  refine AE IA ?_;refine Az ?_;refine AF G6 ?_;refine AN C8 (BC rfl rfl (hS.var 7 rfl) rfl (BC rfl rfl (hS.var 6 rfl) rfl rfl)) ?_;try obtain rfl:=Option.some.inj h
  exact hP _ EP _ Gb _ IV _ (hS.BA 8 [3,4,5] (by decide))
 ·refine Ay ?_;refine AE G6 ?_;refine Aw fun Pp IB=> ?_;refine BG gC [(4,[1,2,3]),(5,[])] (by kernel_rfl) rfl (by kernel_rfl) ?_
  try simp only [W,EE,reduceIte,Nat.reduceAdd,Nat.reduceLeDiff,hS.var 2 rfl,iC,lh,Nat.reduceEqDiff]
  refine Bb 0 hS rfl rfl rfl rfl rfl h (fun Jk aaN aaO aaP I6 h Kp=> ?_) Ju.ne;obtain ⟨aaQ,V6,V7⟩:=hS.elem 0 rfl Kp I6;try simp only [W,EE,EN,reduceIte,Nat.reduceAdd,Nat.reduceLeDiff,V6,V7]
  refine A9 (a:= .agg [.int .i64 C_.C0,.int .i64 C_.CY,.int .i64 C_.X,.int .i64 C_.Y,.int .i64 C_.C1,.int .i64 C_.CZ,.int .i64 C_.CW,.int .i64 C_.CX,EX,FM,Hq]) (y' := .agg [.int .i64 C_.C0,.int .i64 C_.CY,.int .i64 C_.X,.int .i64 C_.Y,.int .i64 C_.C1,.int .i64 C_.CZ,.int .i64 C_.CW,.int .i64 C_.CX,EX,FM,Hq]) 7 hS rfl rfl rfl rfl rfl (by simp only [dB,List.all_cons,List.all_nil,EP.pF,Gb.pF,IV.pF];rfl) rfl rfl fun H hS=> ?_
  refine BH ?_;refine BI (by first|rfl|(simp [aL,W,EE,EN,bN,jl,aG,AV.cells,hS.var 1 rfl,hS.var 2 rfl,hS.var 6 rfl,hS.var 7 rfl];done)|exact Ck 0 hS rfl rfl rfl rfl rfl Kp I6 rfl rfl rfl rfl|exact Cl 0 hS rfl rfl Kp I6 rfl rfl rfl) ?_
  refine BI (by first|rfl|(simp [aL,W,EE,AV.cells];done)|exact Ck 0 hS rfl rfl rfl rfl rfl Kp I6 rfl rfl rfl rfl|exact Cl 0 hS rfl rfl Kp I6 rfl rfl rfl) ?_
  refine BI (by first|rfl|(simp [aL,W,EE,bN,jl,aG,AV.cells];done)|exact Ck 0 hS rfl rfl rfl rfl rfl Kp I6 rfl rfl rfl rfl|exact Cl 0 hS rfl rfl Kp I6 rfl rfl rfl) ?_
  refine BJ ?_;try simp only [W]
  refine A9 (a:= .agg [.int .i64 Jk.Kind,.int .i64 Jk.K]) (y' := .agg [.int .i64 Jk.Kind,.int .i64 Jk.K]) 6 hS rfl rfl rfl rfl rfl rfl rfl rfl fun H hS=> ?_
  try simp only [W]
  refine AE IB ?_;refine Az ?_;refine AN C8 (BC rfl rfl (hS.var 7 rfl) rfl (BC rfl rfl (hS.var 6 rfl) rfl rfl)) ?_;try obtain rfl:=Option.some.inj h
  exact hP _ EP _ Gb _ IV _ (hS.BA 8 [3,4,5] (by decide))
theorem Re {a0:List Hello} {r:List Hello} (h:Mh a0=some r) {F:List It} {H:J} (hS:ay H F) {P:AV→J→Prop} (hP: ∀v0:AV,bm v0→ ∀H',ay H' (⟨v0,3,r.map CV⟩::F)→P v0 H'):au C 297 [.fz (a0.map CV)] H P:=
 Cj (ids:=La) rfl (sz:=3) (b:=24) (by simp [La]) (fun _=>rfl) (by decide) h hS hP
theorem Tp {a0:C5} {r:(C5)} (h:KL a0=some r) {F:List It} {H:J} (hS:ay H (F)) {P:AV→J→Prop} (hP: ∀v20:AV,bm v20→ ∀IT:AV,bm IT→ ∀HW:AV,bm HW→ ∀H',ay H' (⟨v20,3,r.C2.map CV⟩::⟨IT,3,r.C3.map CV⟩::⟨HW,3,r.C4.map CV⟩::F)→P (.agg [.int .i64 r.C0,.int .i64 r.CY,.int .i64 r.X,.int .i64 r.Y,.int .i64 r.C1,.int .i64 r.CZ,.int .i64 r.CW,.int .i64 r.CX,v20,IT,HW]) H'):au C 209 [.agg [.int .i64 a0.C0,.int .i64 a0.CY,.int .i64 a0.X,.int .i64 a0.Y,.int .i64 a0.C1,.int .i64 a0.CZ,.int .i64 a0.CW,.int .i64 a0.CX,.fz (a0.C2.map CV),.fz (a0.C3.map CV),.fz (a0.C4.map CV)]] H P:=by
 refine AW gC (res:=[.cell 2 73]) (n:=16) rfl rfl rfl rfl fun K0 C8=> ?_;simp only [W,Nat.reduceSub,Nat.reduceAdd,List.replicate];unfold KL at h;refine Aw fun K1 Da=> ?_;refine AS gC ?_;try simp only [W,Nat.reduceAdd]
 refine A7 hS rfl rfl rfl rfl fun C6 C7 H hS=> ?_;try simp only [W]
 refine A8 hS rfl rfl fun Dz DA H hS=> ?_;try simp only [W]
 refine AE Da ?_;refine Aw fun K6 Dx=> ?_;refine BG gC [(10,[]),(12,[]),(14,[])] (by kernel_rfl) rfl (by kernel_rfl) ?_
 try simp only [W,EE,reduceIte,Nat.reduceAdd,Nat.reduceBEq,hS.var 1 rfl,iC,lh,Nat.reduceEqDiff,List.contains_cons,Nat.reduceBEq,Bool.or_true,Bool.or_self]
 refine B9 (bO:=[[.sl [.sc,.sc,.sc]]]) (ys:=[.fz (a0.C2.map CV)]) h rfl (by rfl) fun C9 H9 h=>⟨.own 3 (C9.map CV),Re H9 (ay.nil _) fun Ix Gn H hS=>B1 rfl (BZ 0 hS rfl Gn (fun _ _=>by simp [aX,aO,cg,dl,CV]) fun H hS=>BX rfl),(Ca _ (fun _=>rfl) _),?_⟩
 refine B6 ?_;refine B4 hS (fun _ _=>rfl) (fun _=>rfl) fun v10 H Gi hS=> ?_;refine B2 ?_;try simp only [List.headD_cons]
 try simp only [W,EE,Nat.reduceAdd,Nat.reduceBEq,hS.var 2 rfl,Nat.reduceBEq]
 refine B9 (bO:=[[.sl [.sc,.sc,.sc]]]) (ys:=[.fz (a0.C3.map CV)]) h rfl (by rfl) fun C_ Kq h=>⟨.own 3 (C_.map CV),Re Kq (ay.nil _) fun Fi GJ H hS=>B1 rfl (BZ 0 hS rfl GJ (fun _ _=>by simp [aX,aO,cg,dl,CV]) fun H hS=>BX rfl),(Ca _ (fun _=>rfl) _),?_⟩
 refine B6 ?_;refine B4 hS (fun _ _=>rfl) (fun _=>rfl) fun EJ H Fh hS=> ?_;refine B2 ?_;try simp only [List.headD_cons]
 try simp only [W,EE,Nat.reduceAdd,Nat.reduceBEq,hS.var 3 rfl,Nat.reduceBEq]
 refine B9 (bO:=[[.sl [.sc,.sc,.sc]]]) (ys:=[.fz (a0.C4.map CV)]) h rfl (by rfl) fun Qh V8 h=>⟨.own 3 (Qh.map CV),Re V8 (ay.nil _) fun I4 JK H hS=>B1 rfl (BZ 0 hS rfl JK (fun _ _=>by simp [aX,aO,cg,dl,CV]) fun H hS=>BX rfl),(Ca _ (fun _=>rfl) _),?_⟩
 refine B6 ?_;refine B4 hS (fun _ _=>rfl) (fun _=>rfl) fun Kr H I7 hS=> ?_;refine B2 ?_;try simp only [List.headD_cons]
 try simp only [W,EE,Nat.reduceAdd,Nat.reduceBEq,hS.var 4 rfl,Nat.reduceBEq]
 refine A9 (a:=v10) (y' := .agg [.int .i64 a0.C0,.int .i64 a0.CY,.int .i64 a0.X,.int .i64 a0.Y,.int .i64 a0.C1,.int .i64 a0.CZ,.int .i64 a0.CW,.int .i64 a0.CX,v10,.fz (a0.C3.map CV),.fz (a0.C4.map CV)]) 4 hS rfl rfl rfl rfl (by rw [Gi.cells];rfl) Gi.Bd (Gi.wr _ _ (by simp)) rfl fun H hS=> ?_
 try simp only [W,EE,Nat.reduceAdd,Nat.reduceBEq,hS.var 4 rfl,Nat.reduceBEq]
 refine A9 (a:=EJ) (y' := .agg [.int .i64 a0.C0,.int .i64 a0.CY,.int .i64 a0.X,.int .i64 a0.Y,.int .i64 a0.C1,.int .i64 a0.CZ,.int .i64 a0.CW,.int .i64 a0.CX,v10,EJ,.fz (a0.C4.map CV)]) 4 hS rfl rfl rfl rfl (by rw [Fh.cells];rfl) Fh.Bd (Fh.wr _ _ (by simp)) rfl fun H hS=> ?_
 try simp only [W,EE,Nat.reduceAdd,Nat.reduceBEq,hS.var 4 rfl,Nat.reduceBEq]
 refine A9 (a:=Kr) (y' := .agg [.int .i64 a0.C0,.int .i64 a0.CY,.int .i64 a0.X,.int .i64 a0.Y,.int .i64 a0.C1,.int .i64 a0.CZ,.int .i64 a0.CW,.int .i64 a0.CX,v10,EJ,Kr]) 4 hS rfl rfl rfl rfl (by rw [I7.cells];rfl) I7.Bd (I7.wr _ _ (by simp)) rfl fun H hS=> ?_
 try simp only [W]
 refine AE Dx ?_;refine Aw fun Hl Es=> ?_;refine AS gC ?_;try simp only [W,EE,reduceIte,Nat.reduceAdd,Nat.reduceLeDiff,hS.var 4 rfl]
 refine A9 (a:= .agg [.int .i64 a0.C0,.int .i64 a0.CY,.int .i64 a0.X,.int .i64 a0.Y,.int .i64 a0.C1,.int .i64 a0.CZ,.int .i64 a0.CW,.int .i64 a0.CX,v10,EJ,Kr]) (y' := .agg [.int .i64 a0.C0,.int .i64 a0.CY,.int .i64 a0.X,.int .i64 a0.Y,.int .i64 a0.C1,.int .i64 a0.CZ,.int .i64 a0.CW,.int .i64 a0.CX,v10,EJ,Kr]) 3 hS rfl rfl rfl rfl rfl (by simp only [dB,List.all_cons,List.all_nil,Gi.pF,Fh.pF,I7.pF];rfl) rfl rfl fun H hS=> ?_
 try simp only [W]
 refine AE Es ?_;refine Az ?_;refine AN C8 (BC rfl rfl (hS.var 3 rfl) rfl rfl) ?_;try obtain rfl:=Option.some.inj h
 exact hP _ Gi _ Fh _ I7 _ (hS.BA 5 [2,1,0] (by decide))
theorem IC {a0:Int} {a1:Int} {a2:Int} {r:(Bool)} (h:Hg a0 a1 a2=some r) {F:List It} {H:J} (hS:ay H (F)) {P:AV→J→Prop} (hP: ∀H',ay H' (F)→P (.bool r) H'):au C 157 [.int .i64 a0,.int .i64 a1,.int .i64 a2] H P:=by
 refine AW gC (res:=[.tmp 6]) (n:=15) rfl rfl rfl rfl fun K0 C8=> ?_;simp only [W,Nat.reduceSub,Nat.reduceAdd,List.replicate];unfold Hg at h;refine Aw fun K1 Da=> ?_;refine AS gC ?_;try simp only [W,Nat.reduceAdd]
 refine AE Da ?_;refine Aw fun K2 yP=> ?_;refine AS gC ?_;try simp only [W,EE,Nat.reduceAdd]
 refine BE h (fun hc h=> ?_) (fun hc h=> ?_)
 ·try simp only [W,EE,reduceIte,hc]
  refine AE yP ?_;refine Az ?_;refine AO C8 rfl ?_;try obtain rfl:=Option.some.inj h
  exact hP _ hS
 ·try simp only [W,hc]
  refine AE yP ?_;refine Az ?_;refine AO C8 rfl ?_;try obtain rfl:=Option.some.inj h
  exact hP _ hS
theorem Pq {a0:C5} {a1:Int} {a2:Int} {i0:Nat} {w0:Nat} {r:(Bool)} (h:Hh a0 a1 a2=some r) {F:List It} {H:J} (wG:⟨.ptr i0 w0 0 0,11,[.agg [.int .i64 a0.C0,.int .i64 a0.CY,.int .i64 a0.X,.int .i64 a0.Y,.int .i64 a0.C1,.int .i64 a0.CZ,.int .i64 a0.CW,.int .i64 a0.CX,.fz (a0.C2.map CV),.fz (a0.C3.map CV),.fz (a0.C4.map CV)]]⟩∈F) (hS:ay H (F)) {P:AV→J→Prop} (hP: ∀H',ay H' (F)→P (.bool r) H'):au C 213 [.ptr i0 w0 0 0,.int .i64 a1,.int .i64 a2] H P:=by
 refine AW gC (res:=[.tmp 6]) (n:=21) rfl rfl rfl rfl fun K0 C8=> ?_;simp only [W,Nat.reduceSub,Nat.reduceAdd,List.replicate];unfold Hh at h;refine Aw fun K1 Da=> ?_;refine AS gC ?_;try simp only [W,Nat.reduceAdd]
 refine AE Da ?_;refine Aw fun K2 yP=> ?_;refine AS gC ?_;try simp only [W,EE,Nat.reduceAdd,Nat.reduceBEq,hS.Bv wG]
 refine Bh h fun b3 kq h=> ?_;refine IC kq hS fun H hS=> ?_;try simp only [W]
 refine BE h (fun hc h=> ?_) (fun hc h=> ?_)
 ·try simp only [W,EE,Nat.reduceAdd,Nat.reduceBEq,hS.Bv wG,hc]
  refine Bh h fun HH Nt h=> ?_;refine IC Nt hS fun H hS=> ?_;try simp only [W,reduceIte]
  refine AE yP ?_;refine Az ?_;refine AO C8 rfl ?_;try obtain rfl:=Option.some.inj h
  exact hP _ hS
 ·try simp only [W,hc]
  refine AE yP ?_;refine Az ?_;refine AO C8 rfl ?_;try obtain rfl:=Option.some.inj h
  exact hP _ hS
theorem V9 {a1:Int} {r:(List Hello)} (h:Mi a1=some r) {F:List It} {H:J} (hS:ay H (F)) {P:AV→J→Prop} (hP: ∀FJ:AV,bm FJ→ ∀H',ay H' (⟨FJ,3,r.map CV⟩::F)→P (FJ) H'):au C 304 [.nil,.int .i64 a1] H P:=by
 refine AW gC (res:=[.tmp 4]) (n:=27) rfl rfl rfl rfl fun K0 C8=> ?_;simp only [W,Nat.reduceSub,Nat.reduceAdd,List.replicate];unfold Mi at h;refine Aw fun K1 Da=> ?_;refine AS gC ?_;try simp only [W,Nat.reduceAdd]
 refine AE Da ?_;refine Aw fun K2 yP=> ?_;refine Aw fun K3 FG=> ?_;refine AS gC ?_;try simp only [W,EE,Nat.reduceAdd]
 refine AE FG ?_;obtain ⟨V_,h,g5⟩:=Option.bind_eq_some_iff.1 h;refine Bm gC (fun s H=>V_=()∧s=[.nil,.int .i64 a1,u,u,u,u,u,u,u,u,u,u,u,u,u,u,u,u,u,u,u,u,u,u,u,u,u]∧ay H (F)) (fun K6 Dx=> ?_) (fun s H hq=> ?_)
 ·refine Aw fun K7 Ez=> ?_;refine AB ?_;simp only [W];refine AR h (fun hc h=> ?_) (fun hc h=> ?_)
  ·refine AS gC ?_;try simp only [W,Nat.reduceAdd]
   exact absurd h (by simp)
  ·refine Ay ?_;refine AE Ez ?_;refine AD ?_;exact Bn Dx ⟨(Option.some.inj h).symm,rfl,hS⟩
 ·obtain ⟨rfl,rfl,hS⟩:=hq;replace h:=g5;try dsimp only at h
  refine AE yP ?_;refine Aw fun K8 Dp=> ?_;refine Aw fun K9 Dy=> ?_;refine AS gC ?_;try simp only [W,Nat.reduceAdd]
  refine Cp rfl rfl rfl ?_;try simp only [W,EE]
  refine AE Dy ?_;refine Aw fun HS DG=> ?_;refine AS gC ?_;try simp only [W,EE,Nat.reduceAdd]
  refine AE DG ?_;obtain ⟨Rf,h,LI⟩:=Option.bind_eq_some_iff.1 h;refine Bm gC (fun s H=> ∃FY:List Hello,Rf=(FY)∧ ∃Fi:AV,bm Fi∧s=[Fi,u,u,u,u,u,u,u,u,u,u,u,u,u,u,u,u,u,u,u,u,u,u,u,u,u,u]∧ay H (⟨Fi,3,FY.map CV⟩::F)) (fun Hk Ek=> ?_) (fun s H hq=> ?_)
  ·refine Aw fun GX Ea=> ?_;refine AB ?_;simp only [W];refine AR h (fun hc h=> ?_) (fun hc h=> ?_)
   ·refine AS gC ?_;try simp only [W,Nat.reduceAdd]
    refine Cp rfl rfl rfl ?_;try simp only [W,EE]
    refine Cq rfl rfl rfl rfl rfl ?_;try simp only [W,EE]
    refine CB (c:=CV) hS rfl rfl rfl rfl rfl rfl h fun Kr H En I7 hm h hS=> ?_;try simp only [W,EE]
    refine Bt 0 hS rfl I7 rfl rfl rfl h fun IT F5 Rg aaR h hS=> ?_;try simp only [W]
    refine AE Ea ?_;refine AD ?_;exact Bn Ek ⟨_,(Option.some.inj h).symm,_,Rg,rfl,hS⟩
   ·refine Ay ?_;refine AE Ea ?_;refine AD ?_;exact Bn Ek ⟨_,(Option.some.inj h).symm,_,mQ,rfl,(hS.za 3)⟩
  ·obtain ⟨FY,Dg,Fi,GJ,rfl,hS⟩:=hq;obtain rfl:=Dg.symm;replace h:=LI;try dsimp only at h
   refine AE Dp ?_;refine Aw fun NC HX=> ?_;refine AS gC ?_;try simp only [W,Nat.reduceAdd]
   refine AE HX ?_;refine Az ?_;refine AO C8 rfl ?_;try obtain rfl:=Option.some.inj h
   exact hP _ GJ _ hS
theorem Wa {a0:List (List Hello)} {r:(List Hello)} (h:Mj a0=some r) {F:List It} {H:J} (hS:ay H (F)) {P:AV→J→Prop} (hP: ∀JL:AV,bm JL→ ∀H',ay H' (⟨JL,3,r.map CV⟩::F)→P (JL) H'):au C 214 [.fz (a0.map (zh CV))] H P:=by
 refine AW gC (res:=[.tmp 2]) (n:=36) rfl rfl rfl rfl fun K0 C8=> ?_;simp only [W,Nat.reduceSub,Nat.reduceAdd,List.replicate];unfold Mj at h;refine Aw fun K1 Da=> ?_;refine AS gC ?_;try simp only [W,Nat.reduceAdd]
 refine AE Da ?_;refine Aw fun K2 yP=> ?_;refine AS gC ?_;try simp only [W,Nat.reduceAdd]
 refine AE yP ?_;refine Aw fun K3 FG=> ?_;refine Aw fun K4 Df=> ?_;refine AS gC ?_;try simp only [W,EE,Nat.reduceAdd]
 refine AE Df ?_;obtain ⟨Rh,Ri,LI⟩:=Option.bind_eq_some_iff.1 h;refine Bm gC (fun s H=> ∃Gy:Int,Rh=(Gy)∧s=[.fz (a0.map (zh CV)),u,u,.int .i64 Gy,u,u,u,u,u,u,u,u,u,u,u,u,u,u,u,u,u,u,u,u,u,u,u,u,u,u,u,u,u,u,u,u]∧ay H (F)) (fun HS DG=> ?_) (fun s H hq=> ?_)
 ·refine Ax fun Js Fv=> ?_;refine Bi gC Ri (fun x s H=>match x with|(EL,Ew)=>s=[.fz (a0.map (zh CV)),u,u,.int .i64 EL,u,u,u,u,u,.fz (a0.map (zh CV)),.int .i64 (a0.length:Int),.int .i64 Ew,u,u,u,u,u,u,u,u,u,u,u,u,u,u,u,u,u,u,u,u,u,u,u,u]∧ay H (F)) ⟨rfl,hS⟩ (fun x Rf s H h Pr hi Lb FH=> ?_)
  obtain ⟨EL,Ew⟩:=x;try dsimp only at hi
  obtain ⟨rfl,hS⟩:=hi;simp only [KM] at h;refine Aw fun Hk Ek=> ?_;refine AS gC ?_;try simp only [W,EE,Nat.reduceAdd]
  refine AE Ek ?_;refine Aw fun GX Ea=> ?_;refine AB ?_;simp only [W];refine AR h (fun hc h=> ?_) (fun hc h=> ?_)
  ·refine Ay ?_;refine AE Ea ?_;refine Aw fun Ij EB=> ?_;obtain ⟨Wb,h,Wc⟩:=Option.bind_eq_some_iff.1 h;refine Bm gC (fun s H=> ∃En:Int,Wb=(En)∧s=[.fz (a0.map (zh CV)),u,u,.int .i64 En,u,u,u,u,u,.fz (a0.map (zh CV)),.int .i64 (a0.length:Int),.int .i64 Ew,u,u,u,u,u,u,u,u,u,u,u,u,u,u,u,u,u,u,u,u,u,u,u,u]∧ay H (F)) (fun Nv GY=> ?_) (fun s H hq=> ?_)
   ·refine Ax fun Hl Es=> ?_;refine Aw fun NC HX=> ?_;refine AS gC ?_;try simp only [W,EE,Nat.reduceAdd]
    refine Ba rfl rfl rfl (fun _=>rfl) h fun DB Lj h=> ?_;try simp only [W,EE,EN]
    refine AE HX ?_;refine Aw fun Tq LJ=> ?_;refine AS gC ?_;try simp only [W,EE,Nat.reduceAdd]
    refine AE LJ ?_;refine Aw fun NR G6=> ?_;refine AS gC ?_;try simp only [W,EE,Nat.reduceAdd]
    refine AE G6 ?_;obtain ⟨Rj,h,Rk⟩:=Option.bind_eq_some_iff.1 h;refine Bm gC (fun s H=>Rj=()∧s=[.fz (a0.map (zh CV)),u,u,.int .i64 (IntKind.i64.wrap (EL+(DB.length:Int))),u,u,u,u,u,.fz (a0.map (zh CV)),.int .i64 (a0.length:Int),.int .i64 Ew,u,u,u,u,u,u,u,u,u,u,u,u,u,u,u,u,u,u,u,u,u,u,u,u]∧ay H (F)) (fun Pp IB=> ?_) (fun s H hq=> ?_)
    ·refine Aw fun Ps H_=> ?_;refine AB ?_;simp only [W];refine AR h (fun hc h=> ?_) (fun hc h=> ?_)
     ·refine AS gC ?_;try simp only [W,Nat.reduceAdd]
      exact absurd h (by simp)
     ·refine Ay ?_;refine AE H_ ?_;refine AD ?_;exact Bn IB ⟨(Option.some.inj h).symm,rfl,hS⟩
    ·obtain ⟨rfl,rfl,hS⟩:=hq;replace h:=Rk;try dsimp only at h
     refine AI Es ?_;exact Bn GY ⟨_,(Option.some.inj h).symm,rfl,hS⟩
   ·obtain ⟨En,Dg,rfl,hS⟩:=hq;obtain rfl:=Dg.symm;replace h:=Wc;try dsimp only at h
    refine AE EB ?_;refine AS gC ?_;try simp only [W,EE,Nat.reduceAdd]
    exact Bj FH h ⟨rfl,hS⟩
  ·refine AA ?_;refine AG Ea ?_;try obtain rfl:=Option.some.inj h
   obtain rfl:=Pr _ rfl;have h:(some (EL):Option (Int))=some (EL):=rfl;refine Bk FH ?_;refine AK Fv ?_;exact Bn DG ⟨_,(Option.some.inj h).symm,rfl,hS⟩
 ·obtain ⟨Gy,Dg,rfl,hS⟩:=hq;obtain rfl:=Dg.symm;replace h:=LI;try dsimp only at h
  refine AE FG ?_;refine Aw fun J_ F7=> ?_;refine AS gC ?_;try simp only [W,Nat.reduceAdd]
  refine Bh h fun Gc Rl h=> ?_;refine V9 Rl hS fun I2 JJ H hS=> ?_;try simp only [W]
  refine AE F7 ?_;refine Aw fun Lc FQ=> ?_;refine Aw fun Nw GC=> ?_;refine AS gC ?_;try simp only [W,EE,Nat.reduceAdd]
  refine AE GC ?_;obtain ⟨Wd,We,Rm⟩:=Option.bind_eq_some_iff.1 h;refine Bm gC (fun s H=> ∃Fc:List Hello,Wd=(Fc)∧ ∃EA:AV,bm EA∧s=[u,u,u,u,u,u,EA,u,u,u,u,u,u,u,u,u,u,u,u,u,u,u,u,u,u,u,u,u,u,u,u,u,u,u,u,u]∧ay H (⟨EA,3,Fc.map CV⟩::F)) (fun SQ Ld=> ?_) (fun s H hq=> ?_)
  ·refine Ax fun Lk Gh=> ?_;refine Bi gC We (fun x s H=>match x with|(FB,GP)=> ∃LK:AV,bm LK∧s=[u,u,u,u,u,u,LK,u,u,u,u,u,u,u,u,u,u,u,u,u,u,u,u,u,u,.fz (a0.map (zh CV)),.int .i64 (a0.length:Int),.int .i64 GP,u,u,u,u,u,u,u,u]∧ay H (⟨LK,3,FB.map CV⟩::F)) ⟨_,JJ,rfl,hS⟩ (fun x Ts s H h Wf hi Ll FT=> ?_)
   obtain ⟨FB,GP⟩:=x;try dsimp only at hi
   obtain ⟨LK,Ks,rfl,hS⟩:=hi;simp only [KN] at h;refine Aw fun NE GD=> ?_;refine AS gC ?_;try simp only [W,EE,Nat.reduceAdd]
   refine AE GD ?_;refine Aw fun O1 F9=> ?_;refine AB ?_;simp only [W];refine AR h (fun hc h=> ?_) (fun hc h=> ?_)
   ·refine Ay ?_;refine AE F9 ?_;refine Aw fun OT Hn=> ?_;refine Ax fun OU HV=> ?_;refine Aw fun O6 I0=> ?_;refine AS gC ?_;try simp only [W,EE,Nat.reduceAdd]
    refine Ba rfl rfl rfl (fun _=>rfl) h fun Sf aaS h=> ?_;try simp only [W,EE,EN]
    refine AE I0 ?_;refine AS gC ?_;try simp only [W,EE,Nat.reduceAdd]
    refine Bu (l:=FB) (c:=CV) 0 hS rfl Ks rfl rfl rfl rfl (fun _=>rfl) rfl h fun JD H DR Ke hm h hS=> ?_;try simp only [W]
    refine AJ HV ?_;refine AE Hn ?_;refine AS gC ?_;try simp only [W,EE,Nat.reduceAdd]
    exact Bj FT h ⟨_,Ke,rfl,hS⟩
   ·refine AA ?_;refine AG F9 ?_;try obtain rfl:=Option.some.inj h
    obtain rfl:=Wf _ rfl;have h:(some (FB):Option ((List Hello)))=some (FB):=rfl;refine Bk FT ?_;refine AK Gh ?_;exact Bn Ld ⟨_,(Option.some.inj h).symm,_,Ks,rfl,hS⟩
  ·obtain ⟨Fc,Dg,EA,Hy,rfl,hS⟩:=hq;obtain rfl:=Dg.symm;replace h:=Rm;try dsimp only at h
   refine AE FQ ?_;refine Aw fun Qu Im=> ?_;refine AS gC ?_;try simp only [W,Nat.reduceAdd]
   refine AE Im ?_;refine Az ?_;refine AO C8 rfl ?_;try obtain rfl:=Option.some.inj h
   exact hP _ Hy _ hS
theorem Tt {a0:C5} {a1:Hello} {i0:Nat} {w0:Nat} {r:(Bool)} (h:Jl a0 a1=some r) {F:List It} {H:J} (wG:⟨.ptr i0 w0 0 0,11,[.agg [.int .i64 a0.C0,.int .i64 a0.CY,.int .i64 a0.X,.int .i64 a0.Y,.int .i64 a0.C1,.int .i64 a0.CZ,.int .i64 a0.CW,.int .i64 a0.CX,.fz (a0.C2.map CV),.fz (a0.C3.map CV),.fz (a0.C4.map CV)]]⟩∈F) (hS:ay H (F)) {P:AV→J→Prop} (hP: ∀H',ay H' (F)→P (.bool r) H'):au C 217 [.ptr i0 w0 0 0,.agg [.int .i64 a1.Kind,.int .i64 a1.X,.int .i64 a1.Y]] H P:=by
 refine AW gC (res:=[.tmp 4]) (n:=36) rfl rfl rfl rfl fun K0 C8=> ?_;simp only [W,Nat.reduceSub,Nat.reduceAdd,List.replicate];unfold Jl at h;refine Aw fun K1 Da=> ?_;refine AS gC ?_;try simp only [W,Nat.reduceAdd]
 refine A7 hS rfl rfl rfl rfl fun C6 C7 H hS=> ?_;try simp only [W]
 refine AE Da ?_;refine Aw fun K4 Df=> ?_;refine Aw fun K5 D7=> ?_;refine AS gC ?_;try simp only [W,EE,Nat.reduceAdd,Nat.reduceBEq,hS.var 0 rfl]
 refine AE D7 ?_;refine AB ?_;simp only [W];refine AR h (fun hc h=> ?_) (fun hc h=> ?_)
 ·refine Aw fun K6 Dx=> ?_;refine AU gC (by kernel_rfl) ?_
  try simp only [W,EE,Nat.reduceAdd,Nat.reduceBEq,hS.Bv (List.mem_cons_of_mem _ (wG)),hS.var 0 rfl]
  refine B8 (bO:=[[.sc]]) (ys:=[.int .i64 a1.X,.int .i64 1,.int .i64 a0.CW]) h rfl (by rfl) fun C9 H9 h=>⟨.bool C9,IC H9 (ay.nil _) fun H hS=>B1 rfl (BY rfl (BX rfl)),⟨rfl,rfl,fun _=>rfl⟩,?_⟩
  try simp only [W]
  refine BE h (fun hc h=> ?_) (fun hc h=> ?_)
  ·try simp only [W,EE,reduceIte,Nat.reduceAdd,Nat.reduceBEq,hS.var 0 rfl,hc]
   refine AE Dx ?_;refine Az ?_;refine AF Df ?_;refine AO C8 rfl ?_;try obtain rfl:=Option.some.inj h
   exact hP _ (hS.BA 1 [] (by decide))
  ·try simp only [W,hc]
   refine AE Dx ?_;refine Az ?_;refine AF Df ?_;refine AO C8 rfl ?_;try obtain rfl:=Option.some.inj h
   exact hP _ (hS.BA 1 [] (by decide))
 ·refine Ay ?_;refine AE Df ?_;refine Aw fun K8 Dp=> ?_;refine AS gC ?_;try simp only [W,EE,Nat.reduceAdd,Nat.reduceBEq,hS.var 0 rfl]
  refine BE h (fun hc h=> ?_) (fun hc h=> ?_)
  ·try simp only [W,EE,Nat.reduceAdd,Nat.reduceBEq,hS.var 0 rfl,hc]
   refine Bh h fun Db HU h=> ?_;refine Pq HU (List.mem_cons_of_mem _ (wG)) hS fun H hS=> ?_;try simp only [W,reduceIte]
   refine AE Dp ?_;refine Az ?_;refine AO C8 rfl ?_;try obtain rfl:=Option.some.inj h
   exact hP _ (hS.BA 1 [] (by decide))
  ·try simp only [W,EE,reduceIte,Nat.reduceAdd,Nat.reduceBEq,Bool.false_eq_true,hS.var 0 rfl,hc]
   refine BE h (fun hc h=> ?_) (fun hc h=> ?_)
   ·try simp only [W,EE,Nat.reduceAdd,Nat.reduceBEq,hS.var 0 rfl,hc]
    refine Bh h fun DP Ih h=> ?_;refine Pq Ih (List.mem_cons_of_mem _ (wG)) hS fun H hS=> ?_;try simp only [W,reduceIte]
    refine AE Dp ?_;refine Az ?_;refine AO C8 rfl ?_;try obtain rfl:=Option.some.inj h
    exact hP _ (hS.BA 1 [] (by decide))
   ·try simp only [W,hc]
    refine AE Dp ?_;refine Az ?_;refine AO C8 rfl ?_;try obtain rfl:=Option.some.inj h
    exact hP _ (hS.BA 1 [] (by decide))
theorem Wg {a0:Hello} {a1:C5} {i1:Nat} {w1:Nat} {r:(Bool)} (h:Oq a0 a1=some r) {F:List It} {H:J} (zK:⟨.ptr i1 w1 0 0,11,[.agg [.int .i64 a1.C0,.int .i64 a1.CY,.int .i64 a1.X,.int .i64 a1.Y,.int .i64 a1.C1,.int .i64 a1.CZ,.int .i64 a1.CW,.int .i64 a1.CX,.fz (a1.C2.map CV),.fz (a1.C3.map CV),.fz (a1.C4.map CV)]]⟩∈F) (hS:ay H (F)) {P:AV→J→Prop} (hP: ∀H',ay H' (F)→P (.bool r) H'):au C 216 [.agg [.int .i64 a0.Kind,.int .i64 a0.X,.int .i64 a0.Y],.ptr i1 w1 0 0] H P:=by
 refine AW gC (res:=[.tmp 3]) (n:=7) rfl rfl rfl rfl fun K0 C8=> ?_;simp only [W,Nat.reduceSub,Nat.reduceAdd,List.replicate];unfold Oq at h;refine Aw fun K1 Da=> ?_;refine AS gC ?_;try simp only [W,Nat.reduceAdd]
 refine A7 hS rfl rfl rfl rfl fun C6 C7 H hS=> ?_;try simp only [W]
 refine AE Da ?_;refine Aw fun K4 Df=> ?_;refine AS gC ?_;try simp only [W,EE,reduceIte,Nat.reduceAdd,Nat.reduceLeDiff,hS.var 0 rfl]
 refine Bh h fun DQ H7 h=> ?_;refine Tt H7 (List.mem_cons_of_mem _ (zK)) hS fun H hS=> ?_;try simp only [W]
 refine AE Df ?_;refine Az ?_;refine AO C8 rfl ?_;try obtain rfl:=Option.some.inj h
 exact hP _ (hS.BA 1 [] (by decide))
theorem Wh {a0:List Hello} {g1:Hello→Option Bool} {f1:FuncId} {c1:List AV} {r:(Int)} (h:Mk a0 g1=some r) {F:List It} {H:J} (cC: ∀{x0:Hello} {r:Bool},g1 x0=some r→ ∀(L:List It) (n:Nat),L.drop n=F→ ∀(H:J),ay H L→ ∀(P:AV→J→Prop),(∀H',ay H' L→P (.bool r) H')→au C f1 ([.agg [.int .i64 x0.Kind,.int .i64 x0.X,.int .i64 x0.Y]] ++ c1) H P) (hS:ay H (F)) {P:AV→J→Prop} (hP: ∀H',ay H' (F)→P (.int .i64 r) H'):au C 305 [.fz (a0.map CV),.fn f1 c1] H P:=by
 refine AW gC (res:=[.tmp 4]) (n:=19) rfl rfl rfl rfl fun K0 C8=> ?_;simp only [W,Nat.reduceSub,Nat.reduceAdd,List.replicate];unfold Mk at h;refine Aw fun K1 Da=> ?_;refine AS gC ?_;try simp only [W,Nat.reduceAdd]
 refine AE Da ?_;refine Aw fun K2 yP=> ?_;refine Aw fun K3 FG=> ?_;refine AS gC ?_;try simp only [W,EE,Nat.reduceAdd]
 refine AE FG ?_;obtain ⟨Wi,Wj,Tu⟩:=Option.bind_eq_some_iff.1 h;refine Bm gC (fun s H=>Wi=LR.next ()∧s=[u,u,u,u,u,u,u,u,u,u,u,u,u,u,u,u,u,u,u]∧ay H (F)) (fun K7 Ez=> ?_) (fun s H hq=> ?_)
 ·refine Ax fun K8 Dp=> ?_;refine Bi gC Wj (fun x s H=>s=[.fz (a0.map CV),.fn f1 c1,u,u,u,u,u,.int .i64 (a0.length:Int),.int .i64 x,u,u,u,u,u,u,u,u,u,u]∧ay H (F)) ⟨rfl,hS⟩ (fun II y11 s H h Tv hi K9 Dy=> ?_)
  skip
  try dsimp only at hi
  obtain ⟨rfl,hS⟩:=hi;simp only [Qi] at h;refine Aw fun Nq GU=> ?_;refine AS gC ?_;try simp only [W,EE,Nat.reduceAdd]
  refine AE GU ?_;refine Aw fun OM GV=> ?_;refine AB ?_;simp only [W];refine AR h (fun hc h=> ?_) (fun hc h=> ?_)
  ·refine Ay ?_;refine AE GV ?_;refine Aw fun J2 FI=> ?_;refine Ax fun Hk Ek=> ?_;refine Aw fun GX Ea=> ?_;refine AS gC ?_;try simp only [W,Nat.reduceAdd]
   refine AE Ea ?_;refine Aw fun Ij EB=> ?_;refine AS gC ?_;try simp only [W,EE,Nat.reduceAdd]
   refine Ba rfl rfl rfl (fun _=>rfl) h fun Ot SL h=> ?_;try simp only [W,EE,EN,reduceIte,Nat.reduceAdd,Nat.reduceLeDiff]
   refine Bh h fun Fj Nu h=> ?_;refine cC Nu _ 0 rfl _ hS _ fun H hS=> ?_;try simp only [W]
   refine AE EB ?_;refine AB ?_;simp only [W];refine AR h (fun hc h=> ?_) (fun hc h=> ?_)
   ·refine Aw fun IU E8=> ?_;refine AS gC ?_;try simp only [W,Nat.reduceAdd]
    refine AE E8 ?_;refine Az ?_;refine AM Ek ?_;refine AF FI ?_;try obtain rfl:=Option.some.inj h
    obtain rfl:=Tv _ rfl;have h:(some (LR.done II):Option (LR Unit (Int)))=some (LR.done II):=rfl;refine Bl Dy ?_;refine AM Dp ?_;try obtain rfl:=Option.some.inj h
    obtain rfl:=Option.some.inj Tu;have h:(some II:Option (Int))=some II:=rfl;refine Bo Ez ?_;refine AF yP ?_;refine AO C8 rfl ?_;try obtain rfl:=Option.some.inj h
    exact hP _ hS
   ·refine Ay ?_;refine AJ Ek ?_;refine AE FI ?_;refine AS gC ?_;try simp only [W,EE,Nat.reduceAdd]
    exact Bj Dy h ⟨rfl,hS⟩
  ·refine AA ?_;refine AG GV ?_;try obtain rfl:=Option.some.inj h
   obtain rfl:=Tv _ rfl;have h:(some (LR.next ()):Option (LR Unit (Int)))=some (LR.next ()):=rfl
   refine Bk Dy ?_;refine AK Dp ?_;exact Bn Ez ⟨(Option.some.inj h).symm,rfl,hS⟩
 ·obtain ⟨rfl,rfl,hS⟩:=hq;replace h:=Tu;try dsimp only at h
  refine AE yP ?_;refine Aw fun NP G5=> ?_;refine AS gC ?_;try simp only [W,Nat.reduceAdd]
  refine AE G5 ?_;refine Az ?_;refine AO C8 rfl ?_;try obtain rfl:=Option.some.inj h
  exact hP _ hS
theorem Tw {a0:List Hello} {g1:Hello→Option Bool} {f1:FuncId} {c1:List AV} {r:(Bool)} (h:KO a0 g1=some r) {F:List It} {H:J} (cC: ∀{x0:Hello} {r:Bool},g1 x0=some r→ ∀(L:List It) (n:Nat),L.drop n=F→ ∀(H:J),ay H L→ ∀(P:AV→J→Prop),(∀H',ay H' L→P (.bool r) H')→au C f1 ([.agg [.int .i64 x0.Kind,.int .i64 x0.X,.int .i64 x0.Y]] ++ c1) H P) (hS:ay H (F)) {P:AV→J→Prop} (hP: ∀H',ay H' (F)→P (.bool r) H'):au C 215 [.fz (a0.map CV),.fn f1 c1] H P:=by
 refine AW gC (res:=[.tmp 4]) (n:=9) rfl rfl rfl rfl fun K0 C8=> ?_;simp only [W,Nat.reduceSub,Nat.reduceAdd,List.replicate];unfold KO at h;refine Aw fun K1 Da=> ?_;refine AS gC ?_;try simp only [W,Nat.reduceAdd]
 refine AE Da ?_;refine Aw fun K2 yP=> ?_;refine AS gC ?_;try simp only [W,Nat.reduceAdd]
 refine Bh h fun b3 kq h=> ?_;refine Wh kq cC hS fun H hS=> ?_;try simp only [W,EE]
 refine AE yP ?_;refine Az ?_;refine AO C8 rfl ?_;try obtain rfl:=Option.some.inj h
 exact hP _ hS
theorem aaT {a0:Hello} {a1:C5} {i1:Nat} {w1:Nat} {r:(Bool)} (h:KP a0 a1=some r) {F:List It} {H:J} (zK:⟨.ptr i1 w1 0 0,11,[.agg [.int .i64 a1.C0,.int .i64 a1.CY,.int .i64 a1.X,.int .i64 a1.Y,.int .i64 a1.C1,.int .i64 a1.CZ,.int .i64 a1.CW,.int .i64 a1.CX,.fz (a1.C2.map CV),.fz (a1.C3.map CV),.fz (a1.C4.map CV)]]⟩∈F) (hS:ay H (F)) {P:AV→J→Prop} (hP: ∀H',ay H' (F)→P (.bool r) H'):au C 218 [.agg [.int .i64 a0.Kind,.int .i64 a0.X,.int .i64 a0.Y],.ptr i1 w1 0 0] H P:=by
 refine AW gC (res:=[.tmp 3]) (n:=12) rfl rfl rfl rfl fun K0 C8=> ?_;simp only [W,Nat.reduceSub,Nat.reduceAdd,List.replicate];unfold KP at h;refine Aw fun K1 Da=> ?_;refine AS gC ?_;try simp only [W,Nat.reduceAdd]
 refine A7 hS rfl rfl rfl rfl fun C6 C7 H hS=> ?_;try simp only [W]
 refine AE Da ?_;refine Aw fun K4 Df=> ?_;refine AS gC ?_;try simp only [W,EE,Nat.reduceAdd,Nat.reduceBEq,hS.var 0 rfl]
 refine BE h (fun hc h=> ?_) (fun hc h=> ?_)
 ·try simp only [W,hc]
  refine AE Df ?_;refine Az ?_;refine AO C8 rfl ?_;try obtain rfl:=Option.some.inj h
  exact hP _ (hS.BA 1 [] (by decide))
 ·try simp only [W,EE,reduceIte,Nat.reduceAdd,Nat.reduceLeDiff,hS.var 0 rfl,hc]
  refine Bh h fun DQ H7 h=> ?_;refine Tt H7 (List.mem_cons_of_mem _ (zK)) hS fun H hS=> ?_;try simp only [W,reduceIte,Bool.false_eq_true]
  refine AE Df ?_;refine Az ?_;refine AO C8 rfl ?_;try obtain rfl:=Option.some.inj h
  exact hP _ (hS.BA 1 [] (by decide))
theorem Tx {a0:C5} {a1:Int} {a2:Int} {r:(Bool)} (h:Hh a0 a1 a2=some r) {F:List It} {H:J} (hS:ay H (F)) {P:AV→J→Prop} (hP: ∀H',ay H' (F)→P (.bool r) H'):au C 213 [.fe (.agg [.int .i64 a0.C0,.int .i64 a0.CY,.int .i64 a0.X,.int .i64 a0.Y,.int .i64 a0.C1,.int .i64 a0.CZ,.int .i64 a0.CW,.int .i64 a0.CX,.fz (a0.C2.map CV),.fz (a0.C3.map CV),.fz (a0.C4.map CV)]) 0,.int .i64 a1,.int .i64 a2] H P:=by
 refine AW gC (res:=[.tmp 6]) (n:=21) rfl rfl rfl rfl fun K0 C8=> ?_;simp only [W,Nat.reduceSub,Nat.reduceAdd,List.replicate];unfold Hh at h;refine Aw fun K1 Da=> ?_;refine AS gC ?_;try simp only [W,Nat.reduceAdd]
 refine AE Da ?_;refine Aw fun K2 yP=> ?_;refine AS gC ?_;try simp only [W,EE,Nat.reduceAdd,Nat.reduceBEq]
 refine Bh h fun b3 kq h=> ?_;refine IC kq hS fun H hS=> ?_;try simp only [W]
 refine BE h (fun hc h=> ?_) (fun hc h=> ?_)
 ·try simp only [W,EE,Nat.reduceAdd,Nat.reduceBEq,hc]
  refine Bh h fun HH Nt h=> ?_;refine IC Nt hS fun H hS=> ?_;try simp only [W,reduceIte]
  refine AE yP ?_;refine Az ?_;refine AO C8 rfl ?_;try obtain rfl:=Option.some.inj h
  exact hP _ hS
 ·try simp only [W,hc]
  refine AE yP ?_;refine Az ?_;refine AO C8 rfl ?_;try obtain rfl:=Option.some.inj h
  exact hP _ hS
theorem Wk {a0:C5} {a1:Hello} {r:(Bool)} (h:Jl a0 a1=some r) {F:List It} {H:J} (hS:ay H (F)) {P:AV→J→Prop} (hP: ∀H',ay H' (F)→P (.bool r) H'):au C 217 [.fe (.agg [.int .i64 a0.C0,.int .i64 a0.CY,.int .i64 a0.X,.int .i64 a0.Y,.int .i64 a0.C1,.int .i64 a0.CZ,.int .i64 a0.CW,.int .i64 a0.CX,.fz (a0.C2.map CV),.fz (a0.C3.map CV),.fz (a0.C4.map CV)]) 0,.agg [.int .i64 a1.Kind,.int .i64 a1.X,.int .i64 a1.Y]] H P:=by
 refine AW gC (res:=[.tmp 4]) (n:=36) rfl rfl rfl rfl fun K0 C8=> ?_;simp only [W,Nat.reduceSub,Nat.reduceAdd,List.replicate];unfold Jl at h;refine Aw fun K1 Da=> ?_;refine AS gC ?_;try simp only [W,Nat.reduceAdd]
 refine A7 hS rfl rfl rfl rfl fun C6 C7 H hS=> ?_;try simp only [W]
 refine AE Da ?_;refine Aw fun K4 Df=> ?_;refine Aw fun K5 D7=> ?_;refine AS gC ?_;try simp only [W,EE,Nat.reduceAdd,Nat.reduceBEq,hS.var 0 rfl]
 refine AE D7 ?_;refine AB ?_;simp only [W];refine AR h (fun hc h=> ?_) (fun hc h=> ?_)
 ·refine Aw fun K6 Dx=> ?_;refine AU gC (by kernel_rfl) ?_
  try simp only [W,EE,Nat.reduceAdd,Nat.reduceBEq,hS.var 0 rfl]
  refine B8 (bO:=[[.sc]]) (ys:=[.int .i64 a1.X,.int .i64 1,.int .i64 a0.CW]) h rfl (by rfl) fun C9 H9 h=>⟨.bool C9,IC H9 (ay.nil _) fun H hS=>B1 rfl (BY rfl (BX rfl)),⟨rfl,rfl,fun _=>rfl⟩,?_⟩
  try simp only [W]
  refine BE h (fun hc h=> ?_) (fun hc h=> ?_)
  ·try simp only [W,EE,reduceIte,Nat.reduceAdd,Nat.reduceBEq,hS.var 0 rfl,hc]
   refine AE Dx ?_;refine Az ?_;refine AF Df ?_;refine AO C8 rfl ?_;try obtain rfl:=Option.some.inj h
   exact hP _ (hS.BA 1 [] (by decide))
  ·try simp only [W,hc]
   refine AE Dx ?_;refine Az ?_;refine AF Df ?_;refine AO C8 rfl ?_;try obtain rfl:=Option.some.inj h
   exact hP _ (hS.BA 1 [] (by decide))
 ·refine Ay ?_;refine AE Df ?_;refine Aw fun K8 Dp=> ?_;refine AS gC ?_;try simp only [W,EE,Nat.reduceAdd,Nat.reduceBEq,hS.var 0 rfl]
  refine BE h (fun hc h=> ?_) (fun hc h=> ?_)
  ·try simp only [W,EE,Nat.reduceAdd,Nat.reduceBEq,hS.var 0 rfl,hc]
   refine B8 (bO:=[[.sc]]) (ys:=[.fe (.agg [.int .i64 a0.C0,.int .i64 a0.CY,.int .i64 a0.X,.int .i64 a0.Y,.int .i64 a0.C1,.int .i64 a0.CZ,.int .i64 a0.CW,.int .i64 a0.CX,.fz (a0.C2.map CV),.fz (a0.C3.map CV),.fz (a0.C4.map CV)]) 0,.int .i64 a1.X,.int .i64 a1.Y]) h rfl (by rfl) fun Db HU h=>⟨.bool Db,Tx HU (ay.nil _) fun H hS=>B1 rfl (BY rfl (BX rfl)),⟨rfl,rfl,fun _=>rfl⟩,?_⟩
   try simp only [W,reduceIte]
   refine AE Dp ?_;refine Az ?_;refine AO C8 rfl ?_;try obtain rfl:=Option.some.inj h
   exact hP _ (hS.BA 1 [] (by decide))
  ·try simp only [W,EE,reduceIte,Nat.reduceAdd,Nat.reduceBEq,Bool.false_eq_true,hS.var 0 rfl,hc]
   refine BE h (fun hc h=> ?_) (fun hc h=> ?_)
   ·try simp only [W,EE,Nat.reduceAdd,Nat.reduceBEq,hS.var 0 rfl,hc]
    refine B8 (bO:=[[.sc]]) (ys:=[.fe (.agg [.int .i64 a0.C0,.int .i64 a0.CY,.int .i64 a0.X,.int .i64 a0.Y,.int .i64 a0.C1,.int .i64 a0.CZ,.int .i64 a0.CW,.int .i64 a0.CX,.fz (a0.C2.map CV),.fz (a0.C3.map CV),.fz (a0.C4.map CV)]) 0,.int .i64 a1.X,.int .i64 a1.Y]) h rfl (by rfl) fun DP Ih h=>⟨.bool DP,Tx Ih (ay.nil _) fun H hS=>B1 rfl (BY rfl (BX rfl)),⟨rfl,rfl,fun _=>rfl⟩,?_⟩
    try simp only [W,reduceIte]
    refine AE Dp ?_;refine Az ?_;refine AO C8 rfl ?_;try obtain rfl:=Option.some.inj h
    exact hP _ (hS.BA 1 [] (by decide))
   ·try simp only [W,hc]
    refine AE Dp ?_;refine Az ?_;refine AO C8 rfl ?_;try obtain rfl:=Option.some.inj h
    exact hP _ (hS.BA 1 [] (by decide))
theorem Wl {a0:Hello} {a1:C5} {r:(Bool)} (h:KP a0 a1=some r) {F:List It} {H:J} (hS:ay H (F)) {P:AV→J→Prop} (hP: ∀H',ay H' (F)→P (.bool r) H'):au C 218 [.agg [.int .i64 a0.Kind,.int .i64 a0.X,.int .i64 a0.Y],.fe (.agg [.int .i64 a1.C0,.int .i64 a1.CY,.int .i64 a1.X,.int .i64 a1.Y,.int .i64 a1.C1,.int .i64 a1.CZ,.int .i64 a1.CW,.int .i64 a1.CX,.fz (a1.C2.map CV),.fz (a1.C3.map CV),.fz (a1.C4.map CV)]) 0] H P:=by
 refine AW gC (res:=[.tmp 3]) (n:=12) rfl rfl rfl rfl fun K0 C8=> ?_;simp only [W,Nat.reduceSub,Nat.reduceAdd,List.replicate];unfold KP at h;refine Aw fun K1 Da=> ?_;refine AS gC ?_;try simp only [W,Nat.reduceAdd]
 refine A7 hS rfl rfl rfl rfl fun C6 C7 H hS=> ?_;try simp only [W]
 refine AE Da ?_;refine Aw fun K4 Df=> ?_;refine AS gC ?_;try simp only [W,EE,Nat.reduceAdd,Nat.reduceBEq,hS.var 0 rfl]
 refine BE h (fun hc h=> ?_) (fun hc h=> ?_)
 ·try simp only [W,hc]
  refine AE Df ?_;refine Az ?_;refine AO C8 rfl ?_;try obtain rfl:=Option.some.inj h
  exact hP _ (hS.BA 1 [] (by decide))
 ·try simp only [W,EE,reduceIte,Nat.reduceAdd,Nat.reduceLeDiff,hS.var 0 rfl,hc]
  refine B8 (bO:=[[.sc]]) (ys:=[.fe (.agg [.int .i64 a1.C0,.int .i64 a1.CY,.int .i64 a1.X,.int .i64 a1.Y,.int .i64 a1.C1,.int .i64 a1.CZ,.int .i64 a1.CW,.int .i64 a1.CX,.fz (a1.C2.map CV),.fz (a1.C3.map CV),.fz (a1.C4.map CV)]) 0,.agg [.int .i64 a0.Kind,.int .i64 a0.X,.int .i64 a0.Y]]) h rfl (by rfl) fun DQ H7 h=>⟨.bool DQ,Wk H7 (ay.nil _) fun H hS=>B1 rfl (BY rfl (BX rfl)),⟨rfl,rfl,fun _=>rfl⟩,?_⟩
  try simp only [W,reduceIte,Bool.false_eq_true]
  refine AE Df ?_;refine Az ?_;refine AO C8 rfl ?_;try obtain rfl:=Option.some.inj h
  exact hP _ (hS.BA 1 [] (by decide))
end Go.Gq
