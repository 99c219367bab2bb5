import Derived.Test.YtmmomohapflagaaVkF
import Derived.Test.YtmmomohapflagaaProg
import Derived.Test.YtmmomohapflagaaVaG
import Derived.KernelRfl
open Go Go.VS
set_option maxRecDepth 8000
set_option maxHeartbeats 4000000
namespace Go.Fc
def Dy (x:Span):AV:= .agg [.int .i64 x.Dz,.int .i64 x.To]
def Po (x:DM):AV:= .agg [.fz (x.Code.map (AV.int .u8)),.int .i64 x.At,.int .u64 x.D4]
def E:aK:=fun t=>match t with
 |3=>some {sz:=1,agg:=false,zero:=[AV.int IntKind.i64 0],bytes:=8,au:=UD.it IntKind.i64,kg:=true}
 |4=>some {sz:=1,agg:=false,zero:=[AV.bool false],bytes:=1,au:=UD.bl,kg:=true}
 |5=>some {sz:=1,agg:=false,zero:=[AV.int IntKind.u8 0],bytes:=1,au:=UD.it IntKind.u8,kg:=true}
 |22=>some {sz:=1,agg:=false,zero:=[AV.nil],bytes:=24,au:=UD.sl 5,kg:=true}
 |23=>some {sz:=1,agg:=false,zero:=[AV.nil],bytes:=24,au:=UD.sl 3,kg:=true}
 |104=>some {sz:=2,agg:=true,zero:=[AV.int IntKind.i64 0,AV.int IntKind.i64 0],bytes:=16,au:=UD.st [(0,3),(1,3)],kg:=true}
 |108=>some {sz:=1,agg:=false,zero:=[AV.nil],bytes:=24,au:=UD.sl 104,kg:=true}
 |163=>some {sz:=1,agg:=false,zero:=[AV.dt],bytes:=8,au:=UD.pt,kg:=true}
 |164=>some {sz:=1,agg:=false,zero:=[AV.int IntKind.u64 0],bytes:=8,au:=UD.it IntKind.u64,kg:=true}
 |166=>some {sz:=3,agg:=true,zero:=[AV.nil,AV.int IntKind.i64 0,AV.int IntKind.u64 0],bytes:=40,au:=UD.st [(0,22),(1,3),(2,164)],kg:=true}
 |209=>some {sz:=1,agg:=false,zero:=[AV.undef],bytes:=8,au:=UD.ot,kg:=true}
 |210=>some {sz:=1,agg:=false,zero:=[AV.undef],bytes:=8,au:=UD.ot,kg:=true}
 |263=>some {sz:=1,agg:=false,zero:=[AV.nil],bytes:=24,au:=UD.sl 108,kg:=true}
 |_=>none
def gb:FuncId→kj:=fun f=>match f with
 |11=>{cc:=[[.sc]],nB:=[(4,[],[2]),(23,[],[2]),(26,[],[2]),(39,[],[2])],fA:=[(8,[],some [0,1,5,6,7,8,11,12,118]),(10,[],some [0,1,5,6,7,11,122]),(20,[],some [0,1,234]),(30,[],some [0,32,33,34,35,39,40,42,46,47,318]),(36,[],some [39,40,42,46,47,351]),(38,[],some [39,40,46,355])],fz:=[(5,[(2,[([75,5,66,69],[.sl [.sc,.sc]]),([76,6,67,70],[.sl [.sc,.sc]])])]),(24,[(2,[([247,32,238,241],[.sl [.sc,.sc]])])]),(27,[(2,[([265,38,255,258],[.sl [.sc,.sc]])])])],wS:=[(122,[0,1]),(319,[39,40,42,46,47])]}
 |88=>{cc:=[[.sc]],loops:=[(0,{bK:=[3,6,7,8]})],blocks:=[(0,[3])]}
 |101=>{cc:=[[.sl [.sc,.sc]],[.sc]],fA:=[(1,[],some [0,1,13])]}
 |103=>{cc:=[[.sc],[.sc]]}
 |106=>{cc:=[[.sc],[.sc]]}
 |108=>{cc:=[[.sl [.sc,.sc]],[.sl [.sc,.sc]]]}
 |109=>{cc:=[[.sl [.sc,.sc]],[.sc]],nB:=[(3,[],[3,4])],fA:=[(1,[],some [0,1,13])]}
 |110=>{cc:=[[.sl [.sc,.sc]],[.sc]],fA:=[(2,[([4],[.sl [.sc,.sc]])],none)],fz:=[(3,[(3,[([12],[.sl [.sc,.sc]])])])]}
 |111=>{cc:=[[.sl [.sc,.sc]],[.sc]],fA:=[(2,[([4],[.sl [.sc,.sc]])],none)],fz:=[(3,[(3,[([12],[.sl [.sc,.sc]])])])]}
 |112=>{cc:=[[.sc]],loops:=[(0,{bK:=[0,1,12,13]})],blocks:=[(0,[])]}
 |113=>{cc:=[[.sc]]}
 |114=>{cc:=[[.sc]],loops:=[(0,{bK:=[0,5,6,7]})],blocks:=[(0,[0])],fA:=[(4,[],some [0,5,6,7,29])]}
 |115=>{cc:=[[.sl [.sc,.sc]],[.sc]],fz:=[(2,[(4,[([11],[.sl [.sc]])])])]}
 |116=>{cc:=[[.sl [.sc,.sc]],[.sc]],fA:=[(1,[],some [0,1,13])]}
 |117=>{cc:=[[.sl [.sc,.sc]],[.sc]],fA:=[(1,[],some [0,1,13]),(2,[([4],[.sl [.sc,.sc]])],none)],fz:=[(3,[(3,[([16],[.sl [.sc,.sc]])])])]}
 |118=>{cc:=[[.sl [.sc,.sc]],[.sc,.sc]]}
 |119=>{cc:=[[.sl [.sc,.sc]],[.sc],[.sc]],nB:=[(3,[4,6],[1,5])],fA:=[(1,[],some [0,3,16])]}
 |120=>{cc:=[[.sl [.sc,.sc]],[.sc],[.sc]],fA:=[(1,[],some [0,3,16]),(2,[([4],[.sl [.sc,.sc]])],none),(5,[([4],[.sl [.sc,.sc]])],none)],fz:=[(3,[(3,[([20],[.sl [.sc,.sc]])])])]}
 |121=>{cc:=[[.sl [.sc,.sc]],[.sc]],nB:=[(3,[],[3,4])],fA:=[(1,[],some [0,3,13])]}
 |122=>{cc:=[[.sl [.sc,.sc]],[.sc]],nB:=[(3,[],[3,4])],fA:=[(1,[],some [0,3,13]),(2,[([4],[.sl [.sc,.sc]])],none)],fz:=[(3,[(5,[([18],[.sl [.sc,.sc]])])])]}
 |157=>{cc:=[[.sc]]}
 |162=>{cc:=[[.sc]],wS:=[(11,[1,5])]}
 |163=>{cc:=[[.sc]]}
 |164=>{cc:=[[.sc]]}
 |181=>{cc:=[[.sc]]}
 |188=>{cc:=[[.sc]]}
 |232=>{cc:=[[.sc,.sc]],fz:=[(2,[(2,[([7],[.sl [.sc]])]),(5,[([10],[.sl [.sc]])])])]}
 |233=>{cc:=[[.sc]]}
 |235=>{cc:=[[.sc]]}
 |237=>{cc:=[[.sc]],loops:=[(0,{bK:=[0,8,9,10]})],blocks:=[(0,[])],fA:=[(6,[],some [0,8,9,10,32])]}
 |238=>{cc:=[[.sl [.sc,.sc]],[.sc]]}
 |239=>{cc:=[[.sl [.sc,.sc]]],loops:=[(0,{bK:=[1,5,12,13,14]}),(2,{bK:=[1,5,7,12,13,14,18,19,20]})],blocks:=[(3,[1,5,7,12,13,14,18,19,20]),(2,[1,5,12,13,14]),(0,[5])],nB:=[(13,[],[1])],wS:=[(39,[1,5,7,12,13,14,18,19,20])]}
 |240=>{cc:=[[.sl [.sc,.sc]]],loops:=[(0,{bK:=[0,3,4,5]})],blocks:=[(0,[0,3])],fA:=[(11,[],some [3,42])],wS:=[(10,[0,3,4]),(42,[3])]}
 |241=>{cc:=[[.sc]]}
 |244=>{cc:=[[.sc]],loops:=[(0,{bK:=[3,6,7,8]})],blocks:=[(0,[3])]}
 |245=>{cc:=[[.sc]],loops:=[(0,{bK:=[3,6,7,8]})],blocks:=[(0,[3])]}
 |246=>{cc:=[[.sl [.sc,.sc]]],loops:=[(0,{bK:=[4,13,14,15]})],blocks:=[(1,[4,13,14,15]),(0,[4])],nB:=[(8,[12],[])],fA:=[(7,[],some [4,6,7,13,14,15,33])]}
 |247=>{cc:=[[.sl [.sc,.sc]]],loops:=[(0,{bK:=[0,3,9,10,11]}),(2,{bK:=[6,25,26,27]})],blocks:=[(1,[0,3,9,10,11]),(0,[0,3]),(2,[6])],wS:=[(20,[0,3,9,10,11])]}
 |248=>{cc:=[[.sc]]}
 |249=>{cc:=[[.sl [.sc,.sc]],[.sc]],fA:=[(2,[([2],[.sl [.sc,.sc]])],none)]}
 |250=>{cc:=[[.sl [.sc,.sc]]],loops:=[(0,{bK:=[5,11,12,13]})],blocks:=[(0,[5])],nB:=[(5,[],[2])]}
 |251=>{cc:=[[.sl [.sc,.sc]]],loops:=[(0,{bK:=[1,5,11,12,13]}),(2,{bK:=[1,5,7,11,12,13,17,18,19]})],blocks:=[(3,[1,5,7,11,12,13,17,18,19]),(2,[1,5,11,12,13]),(0,[5])],nB:=[(8,[12],[])],wS:=[(38,[1,5,7,11,12,13,17,18,19])]}
 |252=>{cc:=[[.sl [.sc,.sc]]],loops:=[(0,{bK:=[1,5,6,17,18,19]})],blocks:=[(0,[5])],wS:=[(29,[1,5,6,8,17,18,19])]}
 |253=>{cc:=[[.sl [.sc,.sc]]],loops:=[(0,{bK:=[1,5,6,9,10,11]})],blocks:=[(0,[1,5,6])],wS:=[(22,[1,5,8,9,10,11]),(35,[5])]}
 |254=>{cc:=[[.sl [.sc,.sc]]]}
 |255=>{cc:=[[.sl [.sc,.sc]]],loops:=[(0,{bK:=[0,3,5,6]}),(2,{bK:=[0,3,5,6]})],blocks:=[(0,[0,3,5,6]),(2,[0,3,5,6])],nB:=[(7,[17],[])],fA:=[(3,[],some [0,3,5,6,20]),(6,[],some [0,3,5,6,43])]}
 |259=>{cc:=[[.sc]]}
 |282=>{cc:=[[.sc]],wS:=[(13,[0,3])]}
 |309=>{cc:=[[.sc]]}
 |310=>{cc:=[[.sc]]}
 |311=>{cc:=[]}
 |313=>{cc:=[[.sl [.sc,.sc]]],wS:=[(6,[0,1]),(16,[0])]}
 |335=>{cc:=[[.sc]],loops:=[(0,{bK:=[0,1,7,8]})],blocks:=[(0,[])]}
 |_=>{}
noncomputable def code:FuncId→Option Func:=fun f=>match f with
 |11=>some Go.Proofs.Try.f11
 |88=>some Go.Proofs.Try.f88
 |101=>some Go.Proofs.Try.f101
 |103=>some Go.Proofs.Try.f103
 |106=>some Go.Proofs.Try.f106
 |108=>some Go.Proofs.Try.f108
 |109=>some Go.Proofs.Try.f109
 |110=>some Go.Proofs.Try.f110
 |111=>some Go.Proofs.Try.f111
 |112=>some Go.Proofs.Try.f112
 |113=>some Go.Proofs.Try.f113
 |114=>some Go.Proofs.Try.f114
 |115=>some Go.Proofs.Try.f115
 |116=>some Go.Proofs.Try.f116
 |117=>some Go.Proofs.Try.f117
 |118=>some Go.Proofs.Try.f118
 |119=>some Go.Proofs.Try.f119
 |120=>some Go.Proofs.Try.f120
 |121=>some Go.Proofs.Try.f121
 |122=>some Go.Proofs.Try.f122
 |157=>some Go.Proofs.Try.f157
 |162=>some Go.Proofs.Try.f162
 |163=>some Go.Proofs.Try.f163
 |164=>some Go.Proofs.Try.f164
 |181=>some Go.Proofs.Try.f181
 |188=>some Go.Proofs.Try.f188
 |232=>some Go.Proofs.Try.f232
 |233=>some Go.Proofs.Try.f233
 |235=>some Go.Proofs.Try.f235
 |237=>some Go.Proofs.Try.f237
 |238=>some Go.Proofs.Try.f238
 |239=>some Go.Proofs.Try.f239
 |240=>some Go.Proofs.Try.f240
 |241=>some Go.Proofs.Try.f241
 |244=>some Go.Proofs.Try.f244
 |245=>some Go.Proofs.Try.f245
 |246=>some Go.Proofs.Try.f246
 |247=>some Go.Proofs.Try.f247
 |248=>some Go.Proofs.Try.f248
 |249=>some Go.Proofs.Try.f249
 |250=>some Go.Proofs.Try.f250
 |251=>some Go.Proofs.Try.f251
 |252=>some Go.Proofs.Try.f252
 |253=>some Go.Proofs.Try.f253
 |255=>some Go.Proofs.Try.f255
 |259=>some Go.Proofs.Try.f259
 |282=>some Go.Proofs.Try.f282
 |309=>some Go.Proofs.Try.f309
 |310=>some Go.Proofs.Try.f310
 |313=>some Go.Proofs.Try.f313
 |335=>some Go.Proofs.Try.f335
 |_=>none
def Ky:List (FuncId×Nat×Nat):=[(254,2,16)]
def qc:List (FuncId×FuncId×Nat):=[(311,312,2)]
def nt:List FuncId:=[]
def nu:List FuncId:=[]
def HG:nv:=⟨Ky,qc,nt,nu⟩
noncomputable def C:aI:=⟨E,gb,code,nw HG⟩
theorem gC:Go.VS.Good C:=Dr (I:=HG) rfl
theorem Nk:C.E=E:=rfl
theorem E3:E 3=some {sz:=1,agg:=false,zero:=[AV.int IntKind.i64 0],bytes:=8,au:=UD.it IntKind.i64,kg:=true}:=rfl
theorem E4:E 4=some {sz:=1,agg:=false,zero:=[AV.bool false],bytes:=1,au:=UD.bl,kg:=true}:=rfl
theorem E5:E 5=some {sz:=1,agg:=false,zero:=[AV.int IntKind.u8 0],bytes:=1,au:=UD.it IntKind.u8,kg:=true}:=rfl
theorem Nl:E 22=some {sz:=1,agg:=false,zero:=[AV.nil],bytes:=24,au:=UD.sl 5,kg:=true}:=rfl
theorem Nn:E 23=some {sz:=1,agg:=false,zero:=[AV.nil],bytes:=24,au:=UD.sl 3,kg:=true}:=rfl
theorem Np:E 104=some {sz:=2,agg:=true,zero:=[AV.int IntKind.i64 0,AV.int IntKind.i64 0],bytes:=16,au:=UD.st [(0,3),(1,3)],kg:=true}:=rfl
theorem Nq:E 108=some {sz:=1,agg:=false,zero:=[AV.nil],bytes:=24,au:=UD.sl 104,kg:=true}:=rfl
theorem Nr:E 163=some {sz:=1,agg:=false,zero:=[AV.dt],bytes:=8,au:=UD.pt,kg:=true}:=rfl
theorem Ns:E 164=some {sz:=1,agg:=false,zero:=[AV.int IntKind.u64 0],bytes:=8,au:=UD.it IntKind.u64,kg:=true}:=rfl
theorem Nt:E 166=some {sz:=3,agg:=true,zero:=[AV.nil,AV.int IntKind.i64 0,AV.int IntKind.u64 0],bytes:=40,au:=UD.st [(0,22),(1,3),(2,164)],kg:=true}:=rfl
theorem Nu:E 209=some {sz:=1,agg:=false,zero:=[AV.undef],bytes:=8,au:=UD.ot,kg:=true}:=rfl
theorem Nv:E 210=some {sz:=1,agg:=false,zero:=[AV.undef],bytes:=8,au:=UD.ot,kg:=true}:=rfl
theorem Nw:E 263=some {sz:=1,agg:=false,zero:=[AV.nil],bytes:=24,au:=UD.sl 108,kg:=true}:=rfl
theorem EE:type_of% (And.intro @Nk<|And.intro @E3<|And.intro @E4<|And.intro @E5<|And.intro @Nl<|And.intro @Nn<|And.intro @Np<|And.intro @Nq<|And.intro @Nr<|And.intro @Ns<|And.intro @Nt<|And.intro @Nu<|And.intro @Nv @Nw):=And.intro @Nk<|And.intro @E3<|And.intro @E4<|And.intro @E5<|And.intro @Nl<|And.intro @Nn<|And.intro @Np<|And.intro @Nq<|And.intro @Nr<|And.intro @Ns<|And.intro @Nt<|And.intro @Nu<|And.intro @Nv @Nw
theorem Nx (x:DM):Po x= .agg [.fz (x.Code.map (AV.int .u8)),.int .i64 x.At,.int .u64 x.D4]:=rfl
theorem Ny (x:Span):Dy x= .agg [.int .i64 x.Dz,.int .i64 x.To]:=rfl
theorem EN:type_of% (And.intro @Nx<|And.intro @Ny<|And.intro @CY @uD):=And.intro @Nx<|And.intro @Ny<|And.intro @CY @uD
theorem Nz {a0:DM} {i0:Nat} {w0:Nat} {r:(Int×DM)} (h:HZ a0=some r) {F:List It} {H:J} (hS:aD H (⟨.ptr i0 w0 0 0,3,[.agg [.fz (a0.Code.map (AV.int .u8)),.int .i64 a0.At,.int .u64 a0.D4]]⟩::F)) {P:AV→J→Prop} (hP: ∀H',aD H' (⟨.ptr i0 w0 0 0,3,[.agg [.fz (r.2.Code.map (AV.int .u8)),.int .i64 r.2.At,.int .u64 r.2.D4]]⟩::F)→P (.int .i64 r.1) H'):aq C 282 [.ptr i0 w0 0 0] H P:=by
 refine B0 gC (res:=[.tmp 2]) (n:=62) rfl rfl rfl rfl fun K0 DA=> ?_;simp only [W,Nat.reduceSub,Nat.reduceAdd,List.replicate];unfold HZ at h;refine BD fun K1 DB=> ?_;refine BX gC ?_;try simp only [W,Nat.reduceAdd]
 refine BK DB ?_;refine BD fun K2 zB=> ?_;refine BX gC ?_;try simp only [W,Nat.reduceAdd]
 refine BK zB ?_;refine BD fun K3 DI=> ?_;refine BD fun K4 DG=> ?_;refine BZ gC (by kernel_rfl) ?_
 try simp only [W,EE,Nat.reduceAdd,Nat.reduceBEq,hS.var 0 rfl]
 refine BK DG ?_;obtain ⟨Pp,h,g7⟩:=Option.bind_eq_some_iff.1 h;refine Ch gC (fun s H=> ∃DE:Int,Pp=(DE)∧s=(.ptr i0 w0 0 0::u::u:: .int .i64 DE::u::u::u::u::u::u::u::u::u::u::u::u::u::u::u::u::u::u::u::u::u::u::u::u::u::u::u::u::u::u::u::u::u::u::u::u::u::u::u::u::u::u::u::u::u::u::u::u::u::u::u::u::u::u::u::u::u::u::[])∧aD H (⟨.ptr i0 w0 0 0,3,[.agg [.fz (a0.Code.map (AV.int .u8)),.int .i64 a0.At,.int .u64 a0.D4]]⟩::F)) (fun K8 Ea=> ?_) (fun s H hq=> ?_)
 ·refine BD fun K9 D3=> ?_;refine BI ?_;simp only [W];refine BW h (fun hc h=> ?_) (fun hc h=> ?_)
  ·refine BZ gC (by kernel_rfl) ?_
   try simp only [W,EE,Nat.reduceAdd,Nat.reduceBEq,hS.var 0 rfl]
   refine B7 rfl rfl rfl (fun _=>rfl) h fun Ef Hc h=> ?_;try simp only [W,EE]
   refine BK D3 ?_;refine C5 (s' :=(.ptr i0 w0 0 0::u::u:: .int .i64 (IntKind.i64.wrap Ef)::u::u::u::u::u::u::u::u::u::u::u::u::u::u::u::u::u::u::u::u::u::u::u::u::u::u::u::u::u::u::u::u::u::u::u::u::u::u::u::u::u::u::u::u::u::u::u::u::u::u::u::u::u::u::u::u::u::u::[])) rfl ?_
   exact Ci Ea ⟨_,(Option.some.inj h).symm,rfl,hS⟩
  ·refine BF ?_;refine BK D3 ?_;refine C5 (s' :=(.ptr i0 w0 0 0::u::u:: .int .i64 0::u::u::u::u::u::u::u::u::u::u::u::u::u::u::u::u::u::u::u::u::u::u::u::u::u::u::u::u::u::u::u::u::u::u::u::u::u::u::u::u::u::u::u::u::u::u::u::u::u::u::u::u::u::u::u::u::u::u::[])) rfl ?_
   exact Ci Ea ⟨_,(Option.some.inj h).symm,rfl,hS⟩
 ·obtain ⟨DE,DC,rfl,hS⟩:=hq;obtain rfl:=DC.symm;replace h:=g7;try dsimp only at h
  refine BK DI ?_;refine BD fun Gl Ep=> ?_;refine BX gC ?_;try simp only [W,EE,Nat.reduceAdd,Nat.reduceBEq,hS.var 0 rfl]
  refine B5 (a:= .int .i64 (IntKind.i64.wrap (a0.At+1))) (y' := .agg [.fz (a0.Code.map (AV.int .u8)),.int .i64 (IntKind.i64.wrap (a0.At+1)),.int .u64 a0.D4]) 0 hS rfl rfl rfl rfl rfl rfl rfl rfl fun H hS=> ?_
  try simp only [W]
  refine BK Ep ?_;refine BD fun Gm D6=> ?_;refine BX gC ?_;try simp only [W,EE,Nat.reduceAdd,Nat.reduceBEq,hS.var 0 rfl]
  refine B5 (a:= .int .u64 (IntKind.u64.wrap ((IntKind.u64.wrap ((IntKind.u64.wrap (a0.D4*6364136223846793005))+(IntKind.u64.wrap DE)))+1442695040888963407))) (y' := .agg [.fz (a0.Code.map (AV.int .u8)),.int .i64 (IntKind.i64.wrap (a0.At+1)),.int .u64 (IntKind.u64.wrap ((IntKind.u64.wrap ((IntKind.u64.wrap (a0.D4*6364136223846793005))+(IntKind.u64.wrap DE)))+1442695040888963407))]) 0 hS rfl rfl rfl rfl rfl rfl rfl rfl fun H hS=> ?_
  try simp only [W]
  refine BK D6 ?_;refine BD fun Gn Ez=> ?_;refine BD fun Hd EQ=> ?_;refine BZ gC (by kernel_rfl) ?_
  try simp only [W,EE,Nat.reduceAdd,Nat.reduceBEq,hS.var 0 rfl]
  refine BK EQ ?_;refine BI ?_;simp only [W];refine BW h (fun hc h=> ?_) (fun hc h=> ?_)
  ·refine BD fun Iz E1=> ?_;refine BX gC ?_;try simp only [W,Nat.reduceAdd]
   refine BK E1 ?_;refine BG ?_;refine BL Ez ?_;refine BT DA rfl ?_;try obtain rfl:=Option.some.inj h
   exact hP _ hS
  ·refine BF ?_;refine BK Ez ?_;refine BD fun F2 Eb=> ?_;refine BX gC ?_;try simp only [W,EE,Nat.reduceAdd,Nat.reduceBEq,hS.var 0 rfl]
   rw [Cl _ _ _ rfl,Option.map_some,sY];try simp only [W,EE]
   refine BK Eb ?_;refine BG ?_;refine BT DA rfl ?_;try obtain rfl:=Option.some.inj h
   exact hP _ hS
theorem GJ {a0:DM} {a1:Int} {i0:Nat} {w0:Nat} {r:(Int×DM)} (h:Fo a0 a1=some r) {F:List It} {H:J} (hS:aD H (⟨.ptr i0 w0 0 0,3,[.agg [.fz (a0.Code.map (AV.int .u8)),.int .i64 a0.At,.int .u64 a0.D4]]⟩::F)) {P:AV→J→Prop} (hP: ∀H',aD H' (⟨.ptr i0 w0 0 0,3,[.agg [.fz (r.2.Code.map (AV.int .u8)),.int .i64 r.2.At,.int .u64 r.2.D4]]⟩::F)→P (.int .i64 r.1) H'):aq C 162 [.ptr i0 w0 0 0,.int .i64 a1] H P:=by
 refine B0 gC (res:=[.tmp 4]) (n:=20) rfl rfl rfl rfl fun K0 DA=> ?_;simp only [W,Nat.reduceSub,Nat.reduceAdd,List.replicate];unfold Fo at h;refine BD fun K1 DB=> ?_;refine BX gC ?_;try simp only [W,Nat.reduceAdd]
 refine BK DB ?_;refine BD fun K2 zB=> ?_;refine BD fun K3 DI=> ?_;refine BX gC ?_;try simp only [W,EE,Nat.reduceAdd]
 refine BK DI ?_;refine BI ?_;simp only [W];refine BW h (fun hc h=> ?_) (fun hc h=> ?_)
 ·refine BD fun K4 DG=> ?_;refine BX gC ?_;try simp only [W,Nat.reduceAdd]
  refine BK DG ?_;refine BG ?_;refine BL zB ?_;refine BT DA rfl ?_;try obtain rfl:=Option.some.inj h
  exact hP _ hS
 ·refine BF ?_;refine BK zB ?_;refine BD fun K5 DR=> ?_;refine BX gC ?_;try simp only [W,Nat.reduceAdd]
  refine Cc h fun Ff Gp h=> ?_;obtain ⟨DK,DT⟩:=Ff;try dsimp only at h
  refine Nz Gp hS fun H hS=> ?_;try simp only [W]
  refine BK DR ?_;refine BD fun K9 D3=> ?_;refine BD fun F3 D7=> ?_;refine BX gC ?_;try simp only [W,EE,Nat.reduceAdd]
  refine BK D7 ?_;obtain ⟨LC,h,g16⟩:=Option.bind_eq_some_iff.1 h;refine Ch gC (fun s H=> ∃D5:Int,∃ET:List Int,∃DL:Int,∃EZ:Int,LC=(D5,ET,DL,EZ)∧s=[u,.int .i64 a1,u,u,u,.int .i64 D5,u,u,u,u,u,u,u,u,u,u,u,u,u,u]∧aD H (⟨.ptr i0 w0 0 0,3,[.agg [.fz (ET.map (AV.int .u8)),.int .i64 DL,.int .u64 EZ]]⟩::F)) (fun FM DY=> ?_) (fun s H hq=> ?_)
  ·refine BD fun FN D1=> ?_;refine BI ?_;simp only [W];refine BW h (fun hc h=> ?_) (fun hc h=> ?_)
   ·refine BX gC ?_;try simp only [W,EE,Nat.reduceAdd]
    refine Cc h fun E_ IA h=> ?_;obtain ⟨FW,DN⟩:=E_;try dsimp only at h
    refine Nz IA hS fun H hS=> ?_;try simp only [W,EE]
    refine BK D1 ?_;refine BJ ?_;exact Ci DY ⟨_,_,_,_,(Option.some.inj h).symm,rfl,hS⟩
   ·refine BF ?_;refine BK D1 ?_;refine BJ ?_;exact Ci DY ⟨_,_,_,_,(Option.some.inj h).symm,rfl,hS⟩
  ·obtain ⟨D5,ET,DL,EZ,rfl,rfl,hS⟩:=hq;replace h:=g16;try dsimp only at h
   refine BK D3 ?_;refine BD fun IB Fh=> ?_;refine BX gC ?_;try simp only [W,EE,Nat.reduceAdd]
   refine w_num _ h fun M3 UE h=> ?_;try simp only [W]
   refine BK Fh ?_;refine BG ?_;refine BT DA rfl ?_;try obtain rfl:=Option.some.inj h
   exact hP _ hS
theorem LD {a0:DM} {a1:Int} {i0:Nat} {w0:Nat} {r:(Bool×DM)} (h:G0 a0 a1=some r) {F:List It} {H:J} (hS:aD H (⟨.ptr i0 w0 0 0,3,[.agg [.fz (a0.Code.map (AV.int .u8)),.int .i64 a0.At,.int .u64 a0.D4]]⟩::F)) {P:AV→J→Prop} (hP: ∀H',aD H' (⟨.ptr i0 w0 0 0,3,[.agg [.fz (r.2.Code.map (AV.int .u8)),.int .i64 r.2.At,.int .u64 r.2.D4]]⟩::F)→P (.bool r.1) H'):aq C 188 [.ptr i0 w0 0 0,.int .i64 a1] H P:=by
 refine B0 gC (res:=[.tmp 4]) (n:=9) rfl rfl rfl rfl fun K0 DA=> ?_;simp only [W,Nat.reduceSub,Nat.reduceAdd,List.replicate];unfold G0 at h;refine BD fun K1 DB=> ?_;refine BX gC ?_;try simp only [W,Nat.reduceAdd]
 refine BK DB ?_;refine BD fun K2 zB=> ?_;refine BX gC ?_;try simp only [W,Nat.reduceAdd]
 refine Cc h fun b3 kH h=> ?_;obtain ⟨Eu,Fe⟩:=b3;try dsimp only at h
 refine GJ kH hS fun H hS=> ?_;try simp only [W,EE]
 refine BK zB ?_;refine BG ?_;refine BT DA rfl ?_;try obtain rfl:=Option.some.inj h
 exact hP _ hS
theorem Kz {a0:DM} {i0:Nat} {w0:Nat} {r:(List Span×DM)} (h:G4 a0=some r) {F:List It} {H:J} (hS:aD H (⟨.ptr i0 w0 0 0,3,[.agg [.fz (a0.Code.map (AV.int .u8)),.int .i64 a0.At,.int .u64 a0.D4]]⟩::F)) {P:AV→J→Prop} (hP: ∀v91:AV,bJ v91→ ∀H',aD H' (⟨v91,2,r.1.map Dy⟩::⟨.ptr i0 w0 0 0,3,[.agg [.fz (r.2.Code.map (AV.int .u8)),.int .i64 r.2.At,.int .u64 r.2.D4]]⟩::F)→P (v91) H'):aq C 240 [.ptr i0 w0 0 0] H P:=by
 refine B0 gC (res:=[.tmp 2]) (n:=51) rfl rfl rfl rfl fun K0 DA=> ?_;simp only [W,Nat.reduceSub,Nat.reduceAdd,List.replicate];unfold G4 at h;refine BD fun K1 DB=> ?_;refine BX gC ?_;try simp only [W,Nat.reduceAdd]
 refine BK DB ?_;refine BD fun K2 zB=> ?_;refine BX gC ?_;try simp only [W,Nat.reduceAdd]
 refine BK zB ?_;refine BD fun K3 DI=> ?_;refine BX gC ?_;try simp only [W,Nat.reduceAdd]
 refine Cc h fun Eu F4 h=> ?_;obtain ⟨Fe,Ff⟩:=Eu;try dsimp only at h
 refine GJ F4 hS fun H hS=> ?_;try simp only [W]
 refine BK DI ?_;refine BD fun K7 D8=> ?_;refine BD fun K8 Ea=> ?_;refine BX gC ?_;try simp only [W,Nat.reduceAdd]
 refine Cc h fun EV GK h=> ?_;obtain ⟨Ef,Eo⟩:=EV;try dsimp only at h
 refine LD GK hS fun H hS=> ?_;try simp only [W]
 refine BK Ea ?_;obtain ⟨LF,h,g17⟩:=Option.bind_eq_some_iff.1 h;refine Ch gC (fun s H=> ∃ET:Int,∃DL:List Int,∃EZ:Int,∃I1:Int,LF=(ET,DL,EZ,I1)∧s=[.ptr i0 w0 0 0,u,u,.nil,.int .i64 ET,u,u,u,u,u,u,u,u,u,u,u,u,u,u,u,u,u,u,u,u,u,u,u,u,u,u,u,u,u,u,u,u,u,u,u,u,u,u,u,u,u,u,u,u,u,u]∧aD H (⟨.ptr i0 w0 0 0,3,[.agg [.fz (DL.map (AV.int .u8)),.int .i64 EZ,.int .u64 I1]]⟩::F)) (fun FN D1=> ?_) (fun s H hq=> ?_)
 ·refine BD fun Gq Eh=> ?_;refine BI ?_;simp only [W];refine BW h (fun hc h=> ?_) (fun hc h=> ?_)
  ·refine BX gC ?_;try simp only [W,Nat.reduceAdd]
   refine Cc h fun FW LG h=> ?_;obtain ⟨DN,Ek⟩:=FW;try dsimp only at h
   refine GJ LG hS fun H hS=> ?_;try simp only [W,EE]
   refine BK Eh ?_;refine BJ ?_;exact Ci D1 ⟨_,_,_,_,(Option.some.inj h).symm,rfl,hS⟩
  ·refine BF ?_;refine BK Eh ?_;refine BJ ?_;exact Ci D1 ⟨_,_,_,_,(Option.some.inj h).symm,rfl,hS⟩
 ·obtain ⟨ET,DL,EZ,I1,rfl,rfl,hS⟩:=hq;replace h:=g17;try dsimp only at h
  refine BK D8 ?_;refine BD fun He EY=> ?_;refine BX gC ?_;try simp only [W,Nat.reduceAdd]
  refine Cc h fun DH JT h=> ?_;obtain ⟨E9,D9⟩:=DH;try dsimp only at h
  refine GJ JT hS fun H hS=> ?_;try simp only [W]
  refine BK EY ?_;refine BD fun IC Fi=> ?_;obtain ⟨Pq,Pr,Ps⟩:=Option.bind_eq_some_iff.1 h;refine Ch gC (fun s H=> ∃Ev:List Span,∃H4:List Int,∃H7:Int,∃EC:Int,Pq=(Ev,H4,H7,EC)∧ ∃v37:AV,bJ v37∧s=[.ptr i0 w0 0 0,u,u,v37,u,u,u,u,u,u,u,u,u,u,u,u,u,u,u,u,u,u,u,u,u,u,u,u,u,u,u,u,u,u,u,u,u,u,u,u,u,u,u,u,u,u,u,u,u,u,u]∧aD H (⟨v37,2,Ev.map Dy⟩::⟨.ptr i0 w0 0 0,3,[.agg [.fz (H4.map (AV.int .u8)),.int .i64 H7,.int .u64 EC]]⟩::F)) (fun NA HH=> ?_) (fun s H hq=> ?_)
  ·refine BE fun NB JU=> ?_;refine Cd gC Pr (fun x s H=>match x with|(DW,En,EG,Hm,Hn,Ge)=> ∃ER:AV,bJ ER∧s=[.ptr i0 w0 0 0,u,u,ER,.int .i64 En,.int .i64 EG,u,u,u,u,u,u,u,u,u,u,u,u,u,u,u,u,u,u,u,u,u,u,u,u,u,u,u,u,u,u,u,u,u,u,u,u,u,u,u,u,u,u,u,u,u]∧aD H (⟨ER,2,DW.map Dy⟩::⟨.ptr i0 w0 0 0,3,[.agg [.fz (Hm.map (AV.int .u8)),.int .i64 Hn,.int .u64 Ge]]⟩::F)) ⟨_,pP,rfl,(hS.z7 2)⟩ (fun x NC s H h Pt hi JV Ft=> ?_)
   obtain ⟨DW,En,EG,Hm,Hn,Ge⟩:=x;try dsimp only at hi
   obtain ⟨ER,FO,rfl,hS⟩:=hi;simp only [Ln] at h;refine BD fun LH Hf=> ?_;refine BD fun JW FP=> ?_;refine BX gC ?_;try simp only [W,EE,Nat.reduceAdd]
   refine BK FP ?_;refine BI ?_;simp only [W];refine BW h (fun hc h=> ?_) (fun hc h=> ?_)
   ·refine BF ?_;refine BK Hf ?_;refine BD fun JX FD=> ?_;refine BE fun Pu KA=> ?_;refine BD fun UF Pv=> ?_;refine BX gC ?_;try simp only [W,EE,Nat.reduceAdd]
    refine Cc h fun Pw Px h=> ?_;obtain ⟨Kl,Gf⟩:=Pw;try dsimp only at h
    refine GJ Px (hS.Cv 2 [1,0] (by decide)) fun H hS=> ?_
    try simp only [W,EE]
    refine BK Pv ?_;refine BD fun LI Hg=> ?_;refine BX gC ?_;try simp only [W,EE,Nat.reduceAdd]
    refine CA rfl rfl rfl rfl rfl ?_;try simp only [W]
    refine Cb (el:=([(⟨EG,(IntKind.i64.wrap ((IntKind.i64.wrap (EG+1))+Kl))⟩:Span)]:List Span).map Dy) hS rfl rfl rfl rfl rfl rfl rfl fun v58 H Py hS=> ?_;try simp only [W,EE]
    refine Cq (l:=DW) (c:=Dy) 2 hS rfl FO rfl rfl rfl (hS.ij 0 rfl Py) (fun _=>rfl) rfl h fun Pz H I0 LJ hm h hS=> ?_;try simp only [W]
    refine BK Hg ?_;refine BX gC ?_;try simp only [W,EE,Nat.reduceAdd]
    refine Cc h fun Ip PA h=> ?_;obtain ⟨Ho,G3⟩:=Ip;try dsimp only at h
    refine GJ PA (hS.Cv 3 [1,0,2] (by decide)) fun H hS=> ?_
    try simp only [W,EE]
    refine BO KA ?_;refine BK FD ?_;refine BX gC ?_;try simp only [W,EE,Nat.reduceAdd]
    exact Ce Ft h ⟨_,LJ,rfl,(hS.Cv 3 [2,0] (by decide))⟩
   ·refine BH ?_;refine BM Hf ?_;try obtain rfl:=Option.some.inj h
    obtain rfl:=Pt _ rfl;have h:(some (DW,Hm,Hn,Ge):Option ((List Span)×(List Int)×Int×Int))=some (DW,Hm,Hn,Ge):=rfl;refine Cf Ft ?_;refine BP JU ?_;exact Ci HH ⟨_,_,_,_,(Option.some.inj h).symm,_,FO,rfl,hS⟩
  ·obtain ⟨Ev,H4,H7,EC,rfl,v37,ID,rfl,hS⟩:=hq;replace h:=Ps;try dsimp only at h
   refine BK Fi ?_;refine BD fun UG PB=> ?_;refine BD fun PC LK=> ?_;obtain ⟨PD,h,PE⟩:=Option.bind_eq_some_iff.1 h;refine Ch gC (fun s H=> ∃G5:Bool,∃H9:List Int,∃H_:Int,∃Ia:Int,PD=(G5,H9,H_,Ia)∧s=[u,u,u,v37,u,u,u,u,u,u,u,u,u,u,u,u,u,u,u,u,u,u,u,u,u,u,u,u,u,u,u,u,u,u,u,u,u,u,u,u,u,u,.bool G5,u,u,u,u,u,u,u,u]∧aD H (⟨v37,2,Ev.map Dy⟩::⟨.ptr i0 w0 0 0,3,[.agg [.fz (H9.map (AV.int .u8)),.int .i64 H_,.int .u64 Ia]]⟩::F)) (fun UH ND=> ?_) (fun s H hq=> ?_)
   ·refine BD fun NE IE=> ?_;refine BX gC ?_;try simp only [W,EE,Nat.reduceAdd]
    refine B_ 0 hS rfl ID rfl ?_;try simp only [W,EE]
    refine Cz h (fun hc h=> ?_) (fun hc h=> ?_)
    ·try simp only [W,hc]
     refine Cc h fun Iq PF h=> ?_;obtain ⟨M4,H8⟩:=Iq;try dsimp only at h
     refine LD PF (hS.Cv 2 [1,0] (by decide)) fun H hS=> ?_
     try simp only [W,reduceIte]
     refine BK IE ?_;refine BJ ?_;exact Ci ND ⟨_,_,_,_,(Option.some.inj h).symm,rfl,(hS.Cv 2 [1,0] (by decide))⟩
    ·try simp only [W,hc]
     refine BK IE ?_;refine BJ ?_;exact Ci ND ⟨_,_,_,_,(Option.some.inj h).symm,rfl,hS⟩
   ·obtain ⟨G5,H9,H_,Ia,rfl,rfl,hS⟩:=hq;replace h:=PE;try dsimp only at h
    refine BK LK ?_;obtain ⟨PG,h,PH⟩:=Option.bind_eq_some_iff.1 h;refine Ch gC (fun s H=> ∃I2:List Span,PG=(I2)∧s=[u,u,u,v37,u,u,u,u,u,u,u,u,u,u,u,u,u,u,u,u,u,u,u,u,u,u,u,u,u,u,u,u,u,u,u,u,u,u,u,u,u,u,u,u,u,u,u,u,u,u,u]∧aD H (⟨v37,2,I2.map Dy⟩::⟨.ptr i0 w0 0 0,3,[.agg [.fz (H9.map (AV.int .u8)),.int .i64 H_,.int .u64 Ia]]⟩::F)) (fun UI NF=> ?_) (fun s H hq=> ?_)
    ·refine BD fun UJ NG=> ?_;refine BI ?_;simp only [W];refine BW h (fun hc h=> ?_) (fun hc h=> ?_)
     ·refine BX gC ?_;try simp only [W,EE,Nat.reduceAdd]
      refine B8 0 hS rfl rfl rfl rfl rfl h (fun GA UK UL UM PI h PJ=> ?_) ID.ne;obtain ⟨UN,PK,PM⟩:=hS.elem 0 rfl PJ PI;try simp only [W,EE,EN,Nat.reduceAdd,Nat.reduceBEq,PK,PM]
      refine B8 0 hS rfl rfl rfl rfl rfl h (fun Hp UO UP UQ KB h NH=> ?_) ID.ne;obtain ⟨UR,PN,US⟩:=hS.elem 0 rfl NH KB;try simp only [W,EE,Nat.reduceAdd,Nat.reduceBEq,PN]
      refine B9 (a:= .int .i64 (IntKind.i64.wrap (GA.To+3))) (y' :=(⟨Hp.Dz,(IntKind.i64.wrap (GA.To+3))⟩:Span)) 0 hS rfl NH KB rfl rfl rfl rfl rfl rfl rfl fun H hS=> ?_
      try simp only [W]
      refine BK NG ?_;refine BJ ?_;exact Ci NF ⟨_,(Option.some.inj h).symm,rfl,hS⟩
     ·refine BF ?_;refine BK NG ?_;refine BJ ?_;exact Ci NF ⟨_,(Option.some.inj h).symm,rfl,hS⟩
    ·obtain ⟨I2,DC,rfl,hS⟩:=hq;obtain rfl:=DC.symm;replace h:=PH;try dsimp only at h
     refine BK PB ?_;refine BD fun UT PO=> ?_;refine BX gC ?_;try simp only [W,Nat.reduceAdd]
     refine BK PO ?_;refine BG ?_;refine BT DA rfl ?_;try obtain rfl:=Option.some.inj h
     exact hP _ ID _ hS
theorem PP {a0:List Int} {r:(List Span×List Span)} (h:I3 a0=some r) {F:List It} {H:J} (hS:aD H (F)) {P:AV→J→Prop} (hP: ∀Fu:AV,bJ Fu→ ∀HI:AV,bJ HI→ ∀H',aD H' (⟨Fu,2,r.1.map Dy⟩::⟨HI,2,r.2.map Dy⟩::F)→P (.ay [Fu,HI]) H'):aq C 108 [.fz (a0.map (AV.int .u8))] H P:=by
 refine B0 gC (res:=[.tmp 2,.tmp 3]) (n:=12) rfl rfl rfl rfl fun K0 DA=> ?_;simp only [W,Nat.reduceSub,Nat.reduceAdd,List.replicate];unfold I3 at h;refine BD fun K1 DB=> ?_;refine BX gC ?_;try simp only [W,Nat.reduceAdd]
 refine BK DB ?_;refine BD fun K2 zB=> ?_;refine BX gC ?_;try simp only [W,EE,Nat.reduceAdd]
 refine CA rfl rfl rfl rfl rfl ?_;try simp only [W]
 refine B3 hS rfl rfl rfl rfl fun PQ PR H hS=> ?_;try simp only [W]
 refine BK zB ?_;refine BD fun K5 DR=> ?_;refine BX gC ?_;try simp only [W,Nat.reduceAdd]
 refine Cc h fun Ff Gp h=> ?_;obtain ⟨DK,DT⟩:=Ff;try dsimp only at h
 refine Kz Gp hS fun v9 Gr H hS=> ?_;try simp only [W]
 refine Cc h fun Eo FE h=> ?_;obtain ⟨Ew,ED⟩:=Eo;try dsimp only at h
 refine Kz FE (hS.Cv 2 [1,0] (by decide)) fun FQ F5 H hS=> ?_
 try simp only [W]
 refine BK DR ?_;refine BG ?_;refine BU DA rfl rfl ?_;try obtain rfl:=Option.some.inj h
 exact hP _ Gr _ F5 _ (hS.Cv 3 [2,0] (by decide))
theorem LL {a0:Span} {r:(Bool)} (h:Hq a0=some r) {F:List It} {H:J} (hS:aD H (F)) {P:AV→J→Prop} (hP: ∀H',aD H' (F)→P (.bool r) H'):aq C 233 [.agg [.int .i64 a0.Dz,.int .i64 a0.To]] H P:=by
 refine B0 gC (res:=[.tmp 2]) (n:=18) rfl rfl rfl rfl fun K0 DA=> ?_;simp only [W,Nat.reduceSub,Nat.reduceAdd,List.replicate];unfold Hq at h;refine BD fun K1 DB=> ?_;refine BX gC ?_;try simp only [W,Nat.reduceAdd]
 refine B3 hS rfl rfl rfl rfl fun DZ D0 H hS=> ?_;try simp only [W]
 refine BK DB ?_;refine BD fun K4 DG=> ?_;refine BX gC ?_;try simp only [W,EE,Nat.reduceAdd,Nat.reduceBEq,hS.var 0 rfl]
 refine Cz h (fun hc h=> ?_) (fun hc h=> ?_)
 ·try simp only [W,EE,reduceIte,Nat.reduceAdd,Nat.reduceBEq,hS.var 0 rfl,hc]
  refine Cz h (fun hc h=> ?_) (fun hc h=> ?_)
  ·try simp only [W,EE,reduceIte,Nat.reduceAdd,Nat.reduceBEq,hS.var 0 rfl,hc]
   refine BK DG ?_;refine BG ?_;refine BT DA rfl ?_;try obtain rfl:=Option.some.inj h
   exact hP _ (hS.Cv 1 [] (by decide))
  ·try simp only [W,hc]
   refine BK DG ?_;refine BG ?_;refine BT DA rfl ?_;try obtain rfl:=Option.some.inj h
   exact hP _ (hS.Cv 1 [] (by decide))
 ·try simp only [W,hc]
  refine BK DG ?_;refine BG ?_;refine BT DA rfl ?_;try obtain rfl:=Option.some.inj h
  exact hP _ (hS.Cv 1 [] (by decide))
theorem Gs {a0:List Span} {r:(Bool)} (h:Fp a0=some r) {F:List It} {H:J} (hS:aD H (F)) {P:AV→J→Prop} (hP: ∀H',aD H' (F)→P (.bool r) H'):aq C 237 [.fz (a0.map Dy)] H P:=by
 refine B0 gC (res:=[.tmp 2]) (n:=34) rfl rfl rfl rfl fun K0 DA=> ?_;simp only [W,Nat.reduceSub,Nat.reduceAdd,List.replicate];unfold Fp at h;refine BD fun K1 DB=> ?_;refine BX gC ?_;try simp only [W,Nat.reduceAdd]
 refine BK DB ?_;refine BD fun K2 zB=> ?_;refine BD fun K3 DI=> ?_;refine BX gC ?_;try simp only [W,EE,Nat.reduceAdd]
 refine BK DI ?_;refine BI ?_;simp only [W];refine BW h (fun hc h=> ?_) (fun hc h=> ?_)
 ·refine BD fun K4 DG=> ?_;refine BX gC ?_;try simp only [W,Nat.reduceAdd]
  refine BK DG ?_;refine BG ?_;refine BL zB ?_;refine BT DA rfl ?_;try obtain rfl:=Option.some.inj h
  exact hP _ hS
 ·refine BF ?_;refine BK zB ?_;refine BD fun K5 DR=> ?_;refine BD fun K6 ES=> ?_;refine BX gC ?_;try simp only [W,EE,Nat.reduceAdd]
  refine BK ES ?_;obtain ⟨F6,F7,g15⟩:=Option.bind_eq_some_iff.1 h;refine Ch gC (fun s H=>F6=LR.next ()∧s=[u,u,u,u,u,u,u,u,u,u,u,u,u,u,u,u,u,u,u,u,u,u,u,u,u,u,u,u,u,u,u,u,u,u]∧aD H (F)) (fun F3 D7=> ?_) (fun s H hq=> ?_)
  ·refine BE fun Gl Ep=> ?_;refine Cd gC F7 (fun x s H=>s=[.fz (a0.map Dy),u,u,u,u,u,u,u,.fz (a0.map Dy),.int .i64 (a0.length:Int),.int .i64 x,u,u,u,u,u,u,u,u,u,u,u,u,u,u,u,u,u,u,u,u,u,u,u]∧aD H (F)) ⟨rfl,hS⟩ (fun DO F8 s H h FF hi Gm D6=> ?_)
   skip
   try dsimp only at hi
   obtain ⟨rfl,hS⟩:=hi;simp only [I4] at h;refine BD fun F2 Eb=> ?_;refine BX gC ?_;try simp only [W,EE,Nat.reduceAdd]
   refine BK Eb ?_;refine BD fun FM DY=> ?_;refine BI ?_;simp only [W];refine BW h (fun hc h=> ?_) (fun hc h=> ?_)
   ·refine BF ?_;refine BK DY ?_;refine BD fun FN D1=> ?_;refine BE fun Gq Eh=> ?_;refine BD fun GL EA=> ?_;refine BX gC ?_;try simp only [W,EE,Nat.reduceAdd]
    refine B7 rfl rfl rfl (fun _=>rfl) h fun DN GM h=> ?_;try simp only [W,EE,EN,reduceIte,Nat.reduceAdd,Nat.reduceLeDiff]
    refine B4 hS rfl rfl fun NI NJ H hS=> ?_;try simp only [W]
    refine B5 (a:= .agg [.int .i64 DN.Dz,.int .i64 DN.To]) (y' := .agg [.int .i64 DN.Dz,.int .i64 DN.To]) 0 hS rfl rfl rfl rfl rfl rfl rfl rfl fun H hS=> ?_
    try simp only [W]
    refine BK EA ?_;refine BD fun F9 Ed=> ?_;obtain ⟨NK,h,LM⟩:=Option.bind_eq_some_iff.1 h;refine Ch gC (fun s H=> ∃I5:Bool,NK=(I5)∧s=[.fz (a0.map Dy),u,u,u,u,u,u,u,.fz (a0.map Dy),.int .i64 (a0.length:Int),.int .i64 DO,u,u,u,u,u,u,u,u,u,u,u,u,u,u,u,u,u,u,u,u,u,.bool I5,u]∧aD H (F)) (fun LN Gt=> ?_) (fun s H hq=> ?_)
    ·refine BD fun NL Hh=> ?_;refine BZ gC (by kernel_rfl) ?_
     try simp only [W,EE,reduceIte,Nat.reduceAdd,Nat.reduceLeDiff,hS.var 0 rfl]
     refine CO (cc:=[[.sc]]) (ys:=[.agg [.int .i64 DN.Dz,.int .i64 DN.To]]) h rfl (by rfl) fun G6 PS h=>⟨.bool G6,LL PS (aD.nil _) fun H hS=>CI rfl (CG rfl (CF rfl)),⟨rfl,rfl,fun _=>rfl⟩,?_⟩
     try simp only [W]
     refine Cz h (fun hc h=> ?_) (fun hc h=> ?_)
     ·try simp only [W,hc]
      refine BK Hh ?_;refine BJ ?_;exact Ci Gt ⟨_,(Option.some.inj h).symm,rfl,(hS.Cv 1 [] (by decide))⟩
     ·try simp only [W,EE,hc]
      refine Cz h (fun hc h=> ?_) (fun hc h=> ?_)
      ·try simp only [W,EE,Nat.reduceAdd,Nat.reduceBEq,hS.var 0 rfl,hc]
       refine B7 rfl rfl rfl (fun _=>rfl) h fun Gg KC h=> ?_;try simp only [W,EE,EN,reduceIte,Nat.reduceAdd,Nat.reduceBEq,Bool.false_eq_true]
       refine BK Hh ?_;refine BJ ?_;exact Ci Gt ⟨_,(Option.some.inj h).symm,rfl,(hS.Cv 1 [] (by decide))⟩
      ·try simp only [W,reduceIte,Bool.false_eq_true,hc]
       refine BK Hh ?_;refine BJ ?_;exact Ci Gt ⟨_,(Option.some.inj h).symm,rfl,(hS.Cv 1 [] (by decide))⟩
    ·obtain ⟨I5,DC,rfl,hS⟩:=hq;obtain rfl:=DC.symm;replace h:=LM;try dsimp only at h
     refine BK Ed ?_;refine BI ?_;simp only [W];refine BW h (fun hc h=> ?_) (fun hc h=> ?_)
     ·refine BD fun PT LO=> ?_;refine BX gC ?_;try simp only [W,Nat.reduceAdd]
      refine BK LO ?_;refine BG ?_;refine BR Eh ?_;refine BL D1 ?_;try obtain rfl:=Option.some.inj h
      obtain rfl:=FF _ rfl;have h:(some (LR.done false):Option (LR Unit (Bool)))=some (LR.done false):=rfl;refine Cg D6 ?_;refine BR Ep ?_;try obtain rfl:=Option.some.inj h
      obtain rfl:=Option.some.inj g15;have h:(some false:Option (Bool))=some false:=rfl;refine Cj D7 ?_;refine BL DR ?_;refine BT DA rfl ?_;try obtain rfl:=Option.some.inj h
      exact hP _ hS
     ·refine BF ?_;refine BO Eh ?_;refine BK D1 ?_;refine BX gC ?_;try simp only [W,EE,Nat.reduceAdd]
      exact Ce D6 h ⟨rfl,hS⟩
   ·refine BH ?_;refine BM DY ?_;try obtain rfl:=Option.some.inj h
    obtain rfl:=FF _ rfl;have h:(some (LR.next ()):Option (LR Unit (Bool)))=some (LR.next ()):=rfl
    refine Cf D6 ?_;refine BP Ep ?_;exact Ci D7 ⟨(Option.some.inj h).symm,rfl,hS⟩
  ·obtain ⟨rfl,rfl,hS⟩:=hq;replace h:=g15;try dsimp only at h
   refine BK DR ?_;refine BD fun KD Fv=> ?_;refine BX gC ?_;try simp only [W,Nat.reduceAdd]
   refine BK Fv ?_;refine BG ?_;refine BT DA rfl ?_;try obtain rfl:=Option.some.inj h
   exact hP _ hS
theorem PU {a1:Int} {r:(List Span)} (h:I6 a1=some r) {F:List It} {H:J} (hS:aD H (F)) {P:AV→J→Prop} (hP: ∀v25:AV,bJ v25→ ∀H',aD H' (⟨v25,2,r.map Dy⟩::F)→P (v25) H'):aq C 313 [.nil,.int .i64 a1] H P:=by
 refine B0 gC (res:=[.tmp 4]) (n:=27) rfl rfl rfl rfl fun K0 DA=> ?_;simp only [W,Nat.reduceSub,Nat.reduceAdd,List.replicate];unfold I6 at h;refine BD fun K1 DB=> ?_;refine BX gC ?_;try simp only [W,Nat.reduceAdd]
 refine BK DB ?_;refine BD fun K2 zB=> ?_;refine BD fun K3 DI=> ?_;refine BX gC ?_;try simp only [W,EE,Nat.reduceAdd]
 refine BK DI ?_;obtain ⟨PV,h,g5⟩:=Option.bind_eq_some_iff.1 h;refine Ch gC (fun s H=>PV=()∧s=[.nil,.int .i64 a1,u,u,u,u,u,u,u,u,u,u,u,u,u,u,u,u,u,u,u,u,u,u,u,u,u]∧aD H (F)) (fun K6 ES=> ?_) (fun s H hq=> ?_)
 ·refine BD fun K7 D8=> ?_;refine BI ?_;simp only [W];refine BW h (fun hc h=> ?_) (fun hc h=> ?_)
  ·refine BX gC ?_;try simp only [W,Nat.reduceAdd]
   exact absurd h (by simp)
  ·refine BF ?_;refine BK D8 ?_;refine BJ ?_;exact Ci ES ⟨(Option.some.inj h).symm,rfl,hS⟩
 ·obtain ⟨rfl,rfl,hS⟩:=hq;replace h:=g5;try dsimp only at h
  refine BK zB ?_;refine BD fun K8 Ea=> ?_;refine BD fun K9 D3=> ?_;refine BX gC ?_;try simp only [W,Nat.reduceAdd]
  refine CZ rfl rfl rfl ?_;try simp only [W,EE]
  refine BK D3 ?_;refine BD fun F3 D7=> ?_;refine BX gC ?_;try simp only [W,EE,Nat.reduceAdd]
  refine BK D7 ?_;obtain ⟨F8,h,g15⟩:=Option.bind_eq_some_iff.1 h;refine Ch gC (fun s H=> ∃D5:List Span,F8=(D5)∧ ∃v12:AV,bJ v12∧s=[v12,u,u,u,u,u,u,u,u,u,u,u,u,u,u,u,u,u,u,u,u,u,u,u,u,u,u]∧aD H (⟨v12,2,D5.map Dy⟩::F)) (fun F2 Eb=> ?_) (fun s H hq=> ?_)
  ·refine BD fun FM DY=> ?_;refine BI ?_;simp only [W];refine BW h (fun hc h=> ?_) (fun hc h=> ?_)
   ·refine BX gC ?_;try simp only [W,Nat.reduceAdd]
    refine CZ rfl rfl rfl ?_;try simp only [W,EE]
    refine C0 rfl rfl rfl rfl rfl ?_;try simp only [W,EE]
    refine C4 (c:=Dy) hS rfl rfl rfl rfl rfl rfl h fun HI H G7 HJ hm h hS=> ?_;try simp only [W,EE]
    refine Cp 0 hS rfl HJ rfl rfl rfl h fun v22 Ib HK UU h hS=> ?_;try simp only [W]
    refine BK DY ?_;refine BJ ?_;exact Ci Eb ⟨_,(Option.some.inj h).symm,_,HK,rfl,hS⟩
   ·refine BF ?_;refine BK DY ?_;refine BJ ?_;exact Ci Eb ⟨_,(Option.some.inj h).symm,_,pP,rfl,(hS.z7 2)⟩
  ·obtain ⟨D5,DC,v12,IF,rfl,hS⟩:=hq;obtain rfl:=DC.symm;replace h:=g15;try dsimp only at h
   refine BK Ea ?_;refine BD fun F9 Ed=> ?_;refine BX gC ?_;try simp only [W,Nat.reduceAdd]
   refine BK Ed ?_;refine BG ?_;refine BT DA rfl ?_;try obtain rfl:=Option.some.inj h
   exact hP _ IF _ hS
theorem PW {a0:List (List Span)} {r:(List Span)} (h:I9 a0=some r) {F:List It} {H:J} (hS:aD H (F)) {P:AV→J→Prop} (hP: ∀v66:AV,bJ v66→ ∀H',aD H' (⟨v66,2,r.map Dy⟩::F)→P (v66) H'):aq C 247 [.fz (a0.map (Ac Dy))] H P:=by
 refine B0 gC (res:=[.tmp 2]) (n:=36) rfl rfl rfl rfl fun K0 DA=> ?_;simp only [W,Nat.reduceSub,Nat.reduceAdd,List.replicate];unfold I9 at h;refine BD fun K1 DB=> ?_;refine BX gC ?_;try simp only [W,Nat.reduceAdd]
 refine BK DB ?_;refine BD fun K2 zB=> ?_;refine BX gC ?_;try simp only [W,Nat.reduceAdd]
 refine BK zB ?_;refine BD fun K3 DI=> ?_;refine BD fun K4 DG=> ?_;refine BX gC ?_;try simp only [W,EE,Nat.reduceAdd]
 refine BK DG ?_;obtain ⟨F6,F7,g15⟩:=Option.bind_eq_some_iff.1 h;refine Ch gC (fun s H=> ∃DO:Int,F6=(DO)∧s=[.fz (a0.map (Ac Dy)),u,u,.int .i64 DO,u,u,u,u,u,u,u,u,u,u,u,u,u,u,u,u,u,u,u,u,u,u,u,u,u,u,u,u,u,u,u,u]∧aD H (F)) (fun F3 D7=> ?_) (fun s H hq=> ?_)
 ·refine BE fun Gl Ep=> ?_;refine Cd gC F7 (fun x s H=>match x with|(DE,DF)=>s=[.fz (a0.map (Ac Dy)),u,u,.int .i64 DE,u,u,u,u,u,.fz (a0.map (Ac Dy)),.int .i64 (a0.length:Int),.int .i64 DF,u,u,u,u,u,u,u,u,u,u,u,u,u,u,u,u,u,u,u,u,u,u,u,u]∧aD H (F)) ⟨rfl,hS⟩ (fun x F8 s H h FF hi Gm D6=> ?_)
  obtain ⟨DE,DF⟩:=x;try dsimp only at hi
  obtain ⟨rfl,hS⟩:=hi;simp only [I7] at h;refine BD fun F2 Eb=> ?_;refine BX gC ?_;try simp only [W,EE,Nat.reduceAdd]
  refine BK Eb ?_;refine BD fun FM DY=> ?_;refine BI ?_;simp only [W];refine BW h (fun hc h=> ?_) (fun hc h=> ?_)
  ·refine BF ?_;refine BK DY ?_;refine BD fun FN D1=> ?_;obtain ⟨NM,h,g22⟩:=Option.bind_eq_some_iff.1 h;refine Ch gC (fun s H=> ∃G7:Int,NM=(G7)∧s=[.fz (a0.map (Ac Dy)),u,u,.int .i64 G7,u,u,u,u,u,.fz (a0.map (Ac Dy)),.int .i64 (a0.length:Int),.int .i64 DF,u,u,u,u,u,u,u,u,u,u,u,u,u,u,u,u,u,u,u,u,u,u,u,u]∧aD H (F)) (fun He EY=> ?_) (fun s H hq=> ?_)
   ·refine BE fun Gq Eh=> ?_;refine BD fun F9 Ed=> ?_;refine BX gC ?_;try simp only [W,EE,Nat.reduceAdd]
    refine B7 rfl rfl rfl (fun _=>rfl) h fun E9 IG h=> ?_;try simp only [W,EE,EN]
    refine BK Ed ?_;refine BD fun HL E2=> ?_;refine BX gC ?_;try simp only [W,EE,Nat.reduceAdd]
    refine BK E2 ?_;refine BD fun IC Fi=> ?_;refine BX gC ?_;try simp only [W,EE,Nat.reduceAdd]
    refine BK Fi ?_;obtain ⟨PX,h,PY⟩:=Option.bind_eq_some_iff.1 h;refine Ch gC (fun s H=>PX=()∧s=[.fz (a0.map (Ac Dy)),u,u,.int .i64 (IntKind.i64.wrap (DE+(E9.length:Int))),u,u,u,u,u,.fz (a0.map (Ac Dy)),.int .i64 (a0.length:Int),.int .i64 DF,u,u,u,u,u,u,u,u,u,u,u,u,u,u,u,u,u,u,u,u,u,u,u,u]∧aD H (F)) (fun KE Gu=> ?_) (fun s H hq=> ?_)
    ·refine BD fun KF GN=> ?_;refine BI ?_;simp only [W];refine BW h (fun hc h=> ?_) (fun hc h=> ?_)
     ·refine BX gC ?_;try simp only [W,Nat.reduceAdd]
      exact absurd h (by simp)
     ·refine BF ?_;refine BK GN ?_;refine BJ ?_;exact Ci Gu ⟨(Option.some.inj h).symm,rfl,hS⟩
    ·obtain ⟨rfl,rfl,hS⟩:=hq;replace h:=PY;try dsimp only at h
     refine BN Eh ?_;exact Ci EY ⟨_,(Option.some.inj h).symm,rfl,hS⟩
   ·obtain ⟨G7,DC,rfl,hS⟩:=hq;obtain rfl:=DC.symm;replace h:=g22;try dsimp only at h
    refine BK D1 ?_;refine BX gC ?_;try simp only [W,EE,Nat.reduceAdd]
    exact Ce D6 h ⟨rfl,hS⟩
  ·refine BH ?_;refine BM DY ?_;try obtain rfl:=Option.some.inj h
   obtain rfl:=FF _ rfl;have h:(some (DE):Option (Int))=some (DE):=rfl;refine Cf D6 ?_;refine BP Ep ?_;exact Ci D7 ⟨_,(Option.some.inj h).symm,rfl,hS⟩
 ·obtain ⟨DO,DC,rfl,hS⟩:=hq;obtain rfl:=DC.symm;replace h:=g15;try dsimp only at h
  refine BK DI ?_;refine BD fun KG Gv=> ?_;refine BX gC ?_;try simp only [W,Nat.reduceAdd]
  refine Cc h fun EL LP h=> ?_;refine PU LP hS fun PZ LQ H hS=> ?_;try simp only [W]
  refine BK Gv ?_;refine BD fun LS GP=> ?_;refine BD fun KD Fv=> ?_;refine BX gC ?_;try simp only [W,EE,Nat.reduceAdd]
  refine BK Fv ?_;obtain ⟨P0,P1,P2⟩:=Option.bind_eq_some_iff.1 h;refine Ch gC (fun s H=> ∃FX:List Span,P0=(FX)∧ ∃v45:AV,bJ v45∧s=[u,u,u,u,u,u,v45,u,u,u,u,u,u,u,u,u,u,u,u,u,u,u,u,u,u,u,u,u,u,u,u,u,u,u,u,u]∧aD H (⟨v45,2,FX.map Dy⟩::F)) (fun UW P3=> ?_) (fun s H hq=> ?_)
  ·refine BE fun LH Hf=> ?_;refine Cd gC P1 (fun x s H=>match x with|(EC,EU)=> ∃v41:AV,bJ v41∧s=[u,u,u,u,u,u,v41,u,u,u,u,u,u,u,u,u,u,u,u,u,u,u,u,u,u,.fz (a0.map (Ac Dy)),.int .i64 (a0.length:Int),.int .i64 EU,u,u,u,u,u,u,u,u]∧aD H (⟨v41,2,EC.map Dy⟩::F)) ⟨_,LQ,rfl,hS⟩ (fun x UX s H h P4 hi JW FP=> ?_)
   obtain ⟨EC,EU⟩:=x;try dsimp only at hi
   obtain ⟨v41,KH,rfl,hS⟩:=hi;simp only [I8] at h;refine BD fun P5 LU=> ?_;refine BX gC ?_;try simp only [W,EE,Nat.reduceAdd]
   refine BK LU ?_;refine BD fun KI FG=> ?_;refine BI ?_;simp only [W];refine BW h (fun hc h=> ?_) (fun hc h=> ?_)
   ·refine BF ?_;refine BK FG ?_;refine BD fun NN HM=> ?_;refine BE fun LI Hg=> ?_;refine BD fun NO IH=> ?_;refine BX gC ?_;try simp only [W,EE,Nat.reduceAdd]
    refine B7 rfl rfl rfl (fun _=>rfl) h fun Hr UY h=> ?_;try simp only [W,EE,EN]
    refine BK IH ?_;refine BX gC ?_;try simp only [W,EE,Nat.reduceAdd]
    refine Cq (l:=EC) (c:=Dy) 0 hS rfl KH rfl rfl rfl rfl (fun _=>rfl) rfl h fun Pz H I0 LJ hm h hS=> ?_;try simp only [W]
    refine BO Hg ?_;refine BK HM ?_;refine BX gC ?_;try simp only [W,EE,Nat.reduceAdd]
    exact Ce FP h ⟨_,LJ,rfl,hS⟩
   ·refine BH ?_;refine BM FG ?_;try obtain rfl:=Option.some.inj h
    obtain rfl:=P4 _ rfl;have h:(some (EC):Option ((List Span)))=some (EC):=rfl;refine Cf FP ?_;refine BP Hf ?_;exact Ci P3 ⟨_,(Option.some.inj h).symm,_,KH,rfl,hS⟩
  ·obtain ⟨FX,DC,v45,P6,rfl,hS⟩:=hq;obtain rfl:=DC.symm;replace h:=P2;try dsimp only at h
   refine BK GP ?_;refine BD fun NP II=> ?_;refine BX gC ?_;try simp only [W,Nat.reduceAdd]
   refine BK II ?_;refine BG ?_;refine BT DA rfl ?_;try obtain rfl:=Option.some.inj h
   exact hP _ P6 _ hS
theorem LV {a0:List Span} {r:List Span} (h:Hs a0=some r) {F:List It} {H:J} (hS:aD H F) {P:AV→J→Prop} (hP: ∀v0:AV,bJ v0→ ∀H',aD H' (⟨v0,2,r.map Dy⟩::F)→P v0 H'):aq C 254 [.fz (a0.map Dy)] H P:=
 Dt (I:=HG) rfl (sz:=2) (b:=16) (by simp [HG,Ky]) (fun _=>rfl) (by decide) h hS hP
theorem P7 {a0 r:List Span} (h:Lo a0=some r) {F:List It} {H:J} {m0:AV} (hS:aD H (⟨m0,2,a0.map Dy⟩::F)) (KJ:bJ m0) {P:AV→J→Prop} (hP: ∀H',aD H' (⟨m0,2,r.map Dy⟩::F)→P (.ay []) H'):aq C 311 [m0,.fn 312 []] H P:=
 Du (I:=HG) rfl (by simp [HG,qc]) (by decide) (fun _=>rfl) (fun _=>rfl) h hS KJ hP
theorem LW {a0:List Span} {r:(List Span)} (h:Gh a0=some r) {F:List It} {H:J} (hS:aD H (F)) {P:AV→J→Prop} (hP: ∀GQ:AV,bJ GQ→ ∀H',aD H' (⟨GQ,2,r.map Dy⟩::F)→P (GQ) H'):aq C 246 [.fz (a0.map Dy)] H P:=by
 refine B0 gC (res:=[.tmp 2]) (n:=52) rfl rfl rfl rfl fun K0 DA=> ?_;simp only [W,Nat.reduceSub,Nat.reduceAdd,List.replicate];unfold Gh at h;refine BD fun K1 DB=> ?_;refine BX gC ?_;try simp only [W,Nat.reduceAdd]
 refine BK DB ?_;refine BD fun K2 zB=> ?_;refine BX gC ?_;try simp only [W,Nat.reduceAdd]
 refine Cc h fun b3 kH h=> ?_;refine LV kH hS fun v4 LX H hS=> ?_;try simp only [W]
 refine Ca rfl rfl ?_;try simp only [W]
 refine BK zB ?_;refine BD fun K6 ES=> ?_;refine BX gC ?_;try simp only [W,Nat.reduceAdd]
 refine Cc h fun DK JY h=> ?_;refine P7 JY hS LX fun H hS=> ?_;try simp only [W]
 refine BK ES ?_;refine BD fun K8 Ea=> ?_;refine BD fun K9 D3=> ?_;refine BX gC ?_;try simp only [W,EE,Nat.reduceAdd]
 refine B_ 0 hS rfl LX rfl ?_;try simp only [W]
 refine BK D3 ?_;obtain ⟨LF,P8,g23⟩:=Option.bind_eq_some_iff.1 h;refine Ch gC (fun s H=> ∃EZ:List Span,LF=(EZ)∧ ∃HN:AV,bJ HN∧s=[u,u,u,u,HN,u,u,u,u,u,u,u,u,u,u,u,u,u,u,u,u,u,u,u,u,u,u,u,u,u,u,u,u,u,u,u,u,u,u,u,u,u,u,u,u,u,u,u,u,u,u,u]∧aD H (⟨HN,2,EZ.map Dy⟩::F)) (fun FN D1=> ?_) (fun s H hq=> ?_)
 ·refine BE fun Gq Eh=> ?_;refine Cd gC P8 (fun x s H=>match x with|(DJ,DL)=> ∃v11:AV,bJ v11∧s=[u,u,u,u,v11,u,u,u,u,u,u,u,u,v4,.int .i64 (DK.length:Int),.int .i64 DL,u,u,u,u,u,u,u,u,u,u,u,u,u,u,u,u,u,u,u,u,u,u,u,u,u,u,u,u,u,u,u,u,u,u,u,u]∧aD H (⟨v11,2,DJ.map Dy⟩::⟨v4,2,DK.map Dy⟩::F)) ⟨_,pQ,rfl,(hS.z8 2)⟩ (fun x UZ s H h P9 hi GL EA=> ?_)
  obtain ⟨DJ,DL⟩:=x;try dsimp only at hi
  obtain ⟨v11,E6,rfl,hS⟩:=hi;simp only [I_] at h;refine BD fun F9 Ed=> ?_;refine BX gC ?_;try simp only [W,EE,Nat.reduceAdd]
  refine BK Ed ?_;refine BD fun KK FH=> ?_;refine BI ?_;simp only [W];refine BW h (fun hc h=> ?_) (fun hc h=> ?_)
  ·refine BF ?_;refine BK FH ?_;refine BD fun HL E2=> ?_;obtain ⟨P_,h,Qa⟩:=Option.bind_eq_some_iff.1 h;refine Ch gC (fun s H=> ∃DW:List Span,P_=(DW)∧ ∃ER:AV,bJ ER∧s=[u,u,u,u,ER,u,u,u,u,u,u,u,u,v4,.int .i64 (DK.length:Int),.int .i64 DL,u,u,u,u,u,u,u,u,u,u,u,u,u,u,u,u,u,u,u,u,u,u,u,u,u,u,u,u,u,u,u,u,u,u,u,u]∧aD H (⟨ER,2,DW.map Dy⟩::⟨v4,2,DK.map Dy⟩::F)) (fun Qb JZ=> ?_) (fun s H hq=> ?_)
   ·refine BE fun IC Fi=> ?_;refine BD fun KG Gv=> ?_;refine BX gC ?_;try simp only [W,EE,Nat.reduceAdd]
    refine B8 1 hS rfl rfl rfl rfl rfl h (fun EL U0 U1 U2 LP h Qc=> ?_) LX.ne;obtain ⟨U3,Qd,Qe⟩:=hS.elem 1 rfl Qc LP;try simp only [W,EE,EN,reduceIte,Nat.reduceAdd,Nat.reduceLeDiff,Qd,Qe]
    refine B4 hS rfl rfl fun NQ NR H hS=> ?_;try simp only [W]
    refine B5 (a:= .agg [.int .i64 EL.Dz,.int .i64 EL.To]) (y' := .agg [.int .i64 EL.Dz,.int .i64 EL.To]) 0 hS rfl rfl rfl rfl rfl rfl rfl rfl fun H hS=> ?_
    try simp only [W]
    refine BK Gv ?_;refine BD fun KD Fv=> ?_;refine BD fun NS GR=> ?_;refine BX gC ?_;try simp only [W,EE,Nat.reduceAdd]
    refine B_ 1 hS rfl E6 rfl ?_;try simp only [W,EE]
    refine BK GR ?_;refine BD fun Qf KL=> ?_;obtain ⟨LY,h,LZ⟩:=Option.bind_eq_some_iff.1 h;refine Ch gC (fun s H=> ∃Fg:Bool,LY=(Fg)∧s=[u,u,u,u,v11,u,.ptr NQ NR 0 0,.int .i64 (IntKind.i64.wrap ((DJ.length:Int)-1)),u,u,u,u,u,v4,.int .i64 (DK.length:Int),.int .i64 DL,u,u,u,u,u,u,u,u,u,u,u,u,u,u,u,u,u,.bool Fg,u,u,u,u,u,u,u,u,u,u,u,u,u,u,u,u,u,u]∧aD H (⟨v11,2,DJ.map Dy⟩::⟨v4,2,DK.map Dy⟩::⟨.ptr NQ NR 0 0,2,[.agg [.int .i64 EL.Dz,.int .i64 EL.To]]⟩::F)) (fun JV Ft=> ?_) (fun s H hq=> ?_)
    ·refine BD fun NT Hi=> ?_;refine BZ gC (by kernel_rfl) ?_
     try simp only [W,EE,Nat.reduceAdd]
     refine Cz h (fun hc h=> ?_) (fun hc h=> ?_)
     ·try simp only [W,EE,Nat.reduceAdd,Nat.reduceBEq,hS.var 0 rfl,hc]
      refine B8 1 hS rfl rfl rfl rfl rfl h (fun M7 U4 U5 U6 Qg h Qh=> ?_) E6.ne;obtain ⟨U7,Qi,Qj⟩:=hS.elem 1 rfl Qh Qg;try simp only [W,EE,EN,reduceIte,Nat.reduceAdd,Nat.reduceBEq,Qi,Qj]
      refine BK Hi ?_;refine BJ ?_;exact Ci Ft ⟨_,(Option.some.inj h).symm,rfl,(hS.Cv 3 [1,2,0] (by decide))⟩
     ·try simp only [W,hc]
      refine BK Hi ?_;refine BJ ?_;exact Ci Ft ⟨_,(Option.some.inj h).symm,rfl,(hS.Cv 3 [1,2,0] (by decide))⟩
    ·obtain ⟨Fg,DC,rfl,hS⟩:=hq;obtain rfl:=DC.symm;replace h:=LZ;try dsimp only at h
     refine BK KL ?_;refine BI ?_;simp only [W];refine BW h (fun hc h=> ?_) (fun hc h=> ?_)
     ·refine BD fun LH Hf=> ?_;refine CB gC [(12,[])] (by kernel_rfl) rfl (by kernel_rfl) ?_
      try simp only [W,EE,reduceIte,Nat.reduceAdd,iT,ly,Nat.reduceEqDiff]
      refine B8 0 hS rfl rfl rfl rfl rfl h (fun Ht U8 U9 U_ Qk h Ql=> ?_) E6.ne;obtain ⟨Va,Qm,Qn⟩:=hS.elem 0 rfl Ql Qk;try simp only [W,EE,EN,Nat.reduceAdd,Nat.reduceBEq,hS.var 2 rfl,Qm,Qn]
      refine B8 0 hS rfl rfl rfl rfl rfl h (fun DU Vb Vc Vd KM h NU=> ?_) E6.ne;obtain ⟨Ve,Qo,Vf⟩:=hS.elem 0 rfl NU KM;try simp only [W,EE,Nat.reduceAdd,Nat.reduceBEq,Qo]
      refine B9 (a:= .int .i64 (if EL.To>Ht.To then EL.To else Ht.To)) (y' :=(⟨DU.Dz,(if EL.To>Ht.To then EL.To else Ht.To)⟩:Span)) 0 hS rfl NU KM rfl rfl rfl rfl rfl rfl rfl fun H hS=> ?_
      try simp only [W]
      refine BK Hf ?_;refine BH ?_;refine BM Fv ?_;refine BP Fi ?_;exact Ci JZ ⟨_,(Option.some.inj h).symm,_,E6,rfl,(hS.Cv 3 [0,1] (by decide))⟩
     ·refine BF ?_;refine BK Fv ?_;refine BX gC ?_;try simp only [W,EE,reduceIte,Nat.reduceAdd,Nat.reduceLeDiff,hS.var 2 rfl]
      refine Cb (el:=([EL]:List Span).map Dy) hS rfl rfl rfl rfl rfl rfl rfl fun v54 H Qp hS=> ?_;try simp only [W,EE]
      refine Cq (l:=DJ) (c:=Dy) 1 hS rfl E6 rfl rfl rfl (hS.ij 0 rfl Qp) (fun _=>rfl) rfl h fun Vg H M8 Qq hm h hS=> ?_;try simp only [W]
      refine BN Fi ?_;exact Ci JZ ⟨_,(Option.some.inj h).symm,_,Qq,rfl,(hS.Cv 4 [1,2] (by decide))⟩
   ·obtain ⟨DW,DC,ER,FO,rfl,hS⟩:=hq;obtain rfl:=DC.symm;replace h:=Qa;try dsimp only at h
    refine BK E2 ?_;refine BX gC ?_;try simp only [W,EE,Nat.reduceAdd]
    exact Ce EA h ⟨_,FO,rfl,hS⟩
  ·refine BH ?_;refine BM FH ?_;try obtain rfl:=Option.some.inj h
   obtain rfl:=P9 _ rfl;have h:(some (DJ):Option ((List Span)))=some (DJ):=rfl;refine Cf EA ?_;refine BP Eh ?_;exact Ci D1 ⟨_,(Option.some.inj h).symm,_,E6,rfl,(hS.Cv 2 [0] (by decide))⟩
 ·obtain ⟨EZ,DC,HN,HO,rfl,hS⟩:=hq;obtain rfl:=DC.symm;replace h:=g23;try dsimp only at h
  refine BK Ea ?_;refine BD fun NV IJ=> ?_;refine BX gC ?_;try simp only [W,Nat.reduceAdd]
  refine BK IJ ?_;refine BG ?_;refine BT DA rfl ?_;try obtain rfl:=Option.some.inj h
  exact hP _ HO _ hS
theorem J0 {a0:List Span} {m0:AV} {r:(List Span×Bool)} (h:Gi a0=some r) {F:List It} {H:J} (hS:aD H (⟨m0,2,a0.map Dy⟩::F)) (KJ:bJ m0) {P:AV→J→Prop} (hP: ∀v6:AV,bJ v6→ ∀H',aD H' (⟨v6,2,r.1.map Dy⟩::F)→P (.ay [v6,.bool r.2]) H'):aq C 238 [m0] H P:=by
 refine B0 gC (res:=[.tmp 2,.tmp 3]) (n:=8) rfl rfl rfl rfl fun K0 DA=> ?_;simp only [W,Nat.reduceSub,Nat.reduceAdd,List.replicate];unfold Gi at h;refine BD fun K1 DB=> ?_;refine BX gC ?_;try simp only [W,Nat.reduceAdd]
 refine BK DB ?_;refine BD fun K2 zB=> ?_;refine BD fun K3 DI=> ?_;refine BX gC ?_;try simp only [W,EE,Nat.reduceAdd]
 refine B_ 0 hS rfl KJ rfl ?_;try simp only [W,EE]
 refine BK DI ?_;refine BI ?_;simp only [W];refine BW h (fun hc h=> ?_) (fun hc h=> ?_)
 ·refine BD fun K4 DG=> ?_;refine BX gC ?_;try simp only [W,Nat.reduceAdd]
  refine BK DG ?_;refine BG ?_;refine BL zB ?_;refine BU DA rfl rfl ?_;try obtain rfl:=Option.some.inj h
  exact hP _ pP _ ((hS.z7 2).Cv 2 [0] (by decide))
 ·refine BF ?_;refine BK zB ?_;refine BD fun K5 DR=> ?_;refine BX gC ?_;try simp only [W,Nat.reduceAdd]
  refine BK DR ?_;refine BG ?_;refine BU DA rfl rfl ?_;try obtain rfl:=Option.some.inj h
  exact hP _ KJ _ hS
theorem Qr {a0:List Span} {a1:List Span} {r:(List Span×Bool)} (h:Ja a0 a1=some r) {F:List It} {H:J} (hS:aD H (F)) {P:AV→J→Prop} (hP: ∀v28:AV,bJ v28→ ∀H',aD H' (⟨v28,2,r.1.map Dy⟩::F)→P (.ay [v28,.bool r.2]) H'):aq C 109 [.fz (a0.map Dy),.fz (a1.map Dy)] H P:=by
 refine B0 gC (res:=[.tmp 4,.tmp 5]) (n:=22) rfl rfl rfl rfl fun K0 DA=> ?_;simp only [W,Nat.reduceSub,Nat.reduceAdd,List.replicate];unfold Ja at h;refine BD fun K1 DB=> ?_;refine BX gC ?_;try simp only [W,Nat.reduceAdd]
 refine BK DB ?_;refine BD fun K2 zB=> ?_;refine BD fun K3 DI=> ?_;obtain ⟨Ga,h,g6⟩:=Option.bind_eq_some_iff.1 h;refine Ch gC (fun s H=> ∃DP:Bool,Ga=(DP)∧s=[.fz (a0.map Dy),.fz (a1.map Dy),u,u,u,u,u,u,u,u,u,u,u,.bool DP,u,u,u,u,u,u,u,u]∧aD H (F)) (fun K7 D8=> ?_) (fun s H hq=> ?_)
 ·refine BD fun K8 Ea=> ?_;refine BX gC ?_;try simp only [W,Nat.reduceAdd]
  refine Cc h fun EV GK h=> ?_;refine Gs GK hS fun H hS=> ?_;try simp only [W]
  refine Cz h (fun hc h=> ?_) (fun hc h=> ?_)
  ·try simp only [W,hc]
   refine BK Ea ?_;refine BJ ?_;exact Ci D8 ⟨_,(Option.some.inj h).symm,rfl,hS⟩
  ·try simp only [W,hc]
   refine Cc h fun Ef Hc h=> ?_;refine Gs Hc hS fun H hS=> ?_;try simp only [W,reduceIte,Bool.false_eq_true]
   refine BK Ea ?_;refine BJ ?_;exact Ci D8 ⟨_,(Option.some.inj h).symm,rfl,hS⟩
 ·obtain ⟨DP,DC,rfl,hS⟩:=hq;obtain rfl:=DC.symm;replace h:=g6;try dsimp only at h
  refine BK DI ?_;refine BI ?_;simp only [W];refine BW h (fun hc h=> ?_) (fun hc h=> ?_)
  ·refine BD fun Gl Ep=> ?_;refine BX gC ?_;try simp only [W,Nat.reduceAdd]
   refine BK Ep ?_;refine BG ?_;refine BL zB ?_;refine BU DA rfl rfl ?_;try obtain rfl:=Option.some.inj h
   exact hP _ pP _ (hS.z7 2)
  ·refine BF ?_;refine BK zB ?_;refine BD fun Gm D6=> ?_;refine BX gC ?_;try simp only [W,Nat.reduceAdd,Nat.reduceBEq,List.contains_cons,Nat.reduceBEq,Bool.or_true,Bool.or_self]
   refine Cb (el:=([a0,a1]:List (List Span)).map (Ac Dy)) hS rfl rfl rfl rfl rfl rfl rfl fun Vh H Qs hS=> ?_;try simp only [W]
   refine CP (cc:=[[.sl [.sc,.sc]]]) (ys:=[.fz (([a0,a1]:List (List Span)).map (Ac Dy))]) h rfl (CE (CC hS 0 rfl Qs (fun _=>rfl)) CD) fun Eg L3 h=>⟨.own 2 (Eg.map Dy),PW L3 (aD.nil _) fun Fu J1 H hS=>CI rfl (CH 0 hS rfl J1 (fun _ _=>by simp [aY,aQ,cx,du,Dy]) fun H hS=>CF rfl),(CQ _ (fun _=>rfl) _),?_⟩
   refine CM ?_;refine CL hS (fun _ _=>rfl) (fun _=>rfl) fun HI H HJ hS=> ?_;refine CJ ?_;try simp only [List.headD_cons]
   try simp only [W]
   refine CP (cc:=[[.sl [.sc,.sc]]]) (ys:=[.fz (Eg.map Dy)]) h rfl (CE (CC hS 0 rfl HJ (fun _=>rfl)) CD) fun E_ IA h=>⟨.own 2 (E_.map Dy),LW IA (aD.nil _) fun v20 L4 H hS=>CI rfl (CH 0 hS rfl L4 (fun _ _=>by simp [aY,aQ,cx,du,Dy]) fun H hS=>CF rfl),(CQ _ (fun _=>rfl) _),?_⟩
   refine CM ?_;refine CL hS (fun _ _=>rfl) (fun _=>rfl) fun v22 H HK hS=> ?_;refine CJ ?_;try simp only [List.headD_cons]
   try simp only [W]
   refine Cc h fun FY NW h=> ?_;obtain ⟨DH,E9⟩:=FY;try dsimp only at h
   refine J0 NW hS HK fun v26 Qt H hS=> ?_;try simp only [W]
   refine BK D6 ?_;refine BG ?_;refine BU DA rfl rfl ?_;try obtain rfl:=Option.some.inj h
   exact hP _ Qt _ (hS.Cv 3 [0] (by decide))
theorem L5 {a0:Span} {r:(Bool)} (h:Ic a0=some r) {F:List It} {H:J} (hS:aD H (F)) {P:AV→J→Prop} (hP: ∀H',aD H' (F)→P (.bool r) H'):aq C 235 [.agg [.int .i64 a0.Dz,.int .i64 a0.To]] H P:=by
 refine B0 gC (res:=[.tmp 2]) (n:=18) rfl rfl rfl rfl fun K0 DA=> ?_;simp only [W,Nat.reduceSub,Nat.reduceAdd,List.replicate];unfold Ic at h;refine BD fun K1 DB=> ?_;refine BX gC ?_;try simp only [W,Nat.reduceAdd]
 refine B3 hS rfl rfl rfl rfl fun DZ D0 H hS=> ?_;try simp only [W]
 refine BK DB ?_;refine BD fun K4 DG=> ?_;refine BX gC ?_;try simp only [W,EE,Nat.reduceAdd,Nat.reduceBEq,hS.var 0 rfl]
 refine Cz h (fun hc h=> ?_) (fun hc h=> ?_)
 ·try simp only [W,EE,reduceIte,Nat.reduceAdd,Nat.reduceBEq,hS.var 0 rfl,hc]
  refine Cz h (fun hc h=> ?_) (fun hc h=> ?_)
  ·try simp only [W,EE,reduceIte,Nat.reduceAdd,Nat.reduceBEq,hS.var 0 rfl,hc]
   refine BK DG ?_;refine BG ?_;refine BT DA rfl ?_;try obtain rfl:=Option.some.inj h
   exact hP _ (hS.Cv 1 [] (by decide))
  ·try simp only [W,hc]
   refine BK DG ?_;refine BG ?_;refine BT DA rfl ?_;try obtain rfl:=Option.some.inj h
   exact hP _ (hS.Cv 1 [] (by decide))
 ·try simp only [W,hc]
  refine BK DG ?_;refine BG ?_;refine BT DA rfl ?_;try obtain rfl:=Option.some.inj h
  exact hP _ (hS.Cv 1 [] (by decide))
theorem IK {a0:List Span} {r:(Bool)} (h:Gj a0=some r) {F:List It} {H:J} (hS:aD H (F)) {P:AV→J→Prop} (hP: ∀H',aD H' (F)→P (.bool r) H'):aq C 114 [.fz (a0.map Dy)] H P:=by
 refine B0 gC (res:=[.tmp 2]) (n:=34) rfl rfl rfl rfl fun K0 DA=> ?_;simp only [W,Nat.reduceSub,Nat.reduceAdd,List.replicate];unfold Gj at h;refine BD fun K1 DB=> ?_;refine BX gC ?_;try simp only [W,Nat.reduceAdd]
 refine BK DB ?_;refine BD fun K2 zB=> ?_;refine BD fun K3 DI=> ?_;refine BX gC ?_;try simp only [W,EE,Nat.reduceAdd]
 refine BK DI ?_;obtain ⟨Ga,L6,g12⟩:=Option.bind_eq_some_iff.1 h;refine Ch gC (fun s H=>Ga=LR.next ()∧s=[.fz (a0.map Dy),u,u,u,u,u,u,u,u,u,u,u,u,u,u,u,u,u,u,u,u,u,u,u,u,u,u,u,u,u,u,u,u,u]∧aD H (F)) (fun K7 D8=> ?_) (fun s H hq=> ?_)
 ·refine BE fun K8 Ea=> ?_;refine Cd gC L6 (fun x s H=>s=[.fz (a0.map Dy),u,u,u,u,.fz (a0.map Dy),.int .i64 (a0.length:Int),.int .i64 x,u,u,u,u,u,u,u,u,u,u,u,u,u,u,u,u,u,u,u,u,u,u,u,u,u,u]∧aD H (F)) ⟨rfl,hS⟩ (fun DP J2 s H h J3 hi K9 D3=> ?_)
  skip
  try dsimp only at hi
  obtain ⟨rfl,hS⟩:=hi;simp only [Jb] at h;refine BD fun Gn Ez=> ?_;refine BX gC ?_;try simp only [W,EE,Nat.reduceAdd]
  refine BK Ez ?_;refine BD fun Hd EQ=> ?_;refine BI ?_;simp only [W];refine BW h (fun hc h=> ?_) (fun hc h=> ?_)
  ·refine BF ?_;refine BK EQ ?_;refine BD fun Iz E1=> ?_;refine BE fun F2 Eb=> ?_;refine BD fun FM DY=> ?_;refine BX gC ?_;try simp only [W,EE,Nat.reduceAdd]
   refine B7 rfl rfl rfl (fun _=>rfl) h fun D_ NX h=> ?_;try simp only [W,EE,EN,reduceIte,Nat.reduceAdd,Nat.reduceLeDiff]
   refine B4 hS rfl rfl fun Vi Vj H hS=> ?_;try simp only [W]
   refine B5 (a:= .agg [.int .i64 D_.Dz,.int .i64 D_.To]) (y' := .agg [.int .i64 D_.Dz,.int .i64 D_.To]) 0 hS rfl rfl rfl rfl rfl rfl rfl rfl fun H hS=> ?_
   try simp only [W]
   refine BK DY ?_;refine BD fun KN GS=> ?_;obtain ⟨Qu,h,g24⟩:=Option.bind_eq_some_iff.1 h;refine Ch gC (fun s H=> ∃Jc:Bool,Qu=(Jc)∧s=[.fz (a0.map Dy),u,u,u,u,.fz (a0.map Dy),.int .i64 (a0.length:Int),.int .i64 DP,u,u,u,u,u,u,u,u,u,u,u,u,u,u,u,u,u,u,u,u,u,.bool Jc,u,u,u,u]∧aD H (F)) (fun KK FH=> ?_) (fun s H hq=> ?_)
   ·refine BD fun HL E2=> ?_;refine BZ gC (by kernel_rfl) ?_
    try simp only [W,EE,reduceIte,Nat.reduceAdd,Nat.reduceLeDiff,hS.var 0 rfl]
    refine CO (cc:=[[.sc]]) (ys:=[.agg [.int .i64 D_.Dz,.int .i64 D_.To]]) h rfl (by rfl) fun DV KO h=>⟨.bool DV,L5 KO (aD.nil _) fun H hS=>CI rfl (CG rfl (CF rfl)),⟨rfl,rfl,fun _=>rfl⟩,?_⟩
    try simp only [W]
    refine Cz h (fun hc h=> ?_) (fun hc h=> ?_)
    ·try simp only [W,hc]
     refine BK E2 ?_;refine BJ ?_;exact Ci FH ⟨_,(Option.some.inj h).symm,rfl,(hS.Cv 1 [] (by decide))⟩
    ·try simp only [W,EE,hc]
     refine Cz h (fun hc h=> ?_) (fun hc h=> ?_)
     ·try simp only [W,EE,hc]
      refine B7 rfl rfl rfl (fun _=>rfl) h fun EM J4 h=> ?_;try simp only [W,EE,EN,reduceIte,Nat.reduceAdd,Nat.reduceBEq,Bool.false_eq_true,hS.var 0 rfl]
      refine BK E2 ?_;refine BJ ?_;exact Ci FH ⟨_,(Option.some.inj h).symm,rfl,(hS.Cv 1 [] (by decide))⟩
     ·try simp only [W,reduceIte,Bool.false_eq_true,hc]
      refine BK E2 ?_;refine BJ ?_;exact Ci FH ⟨_,(Option.some.inj h).symm,rfl,(hS.Cv 1 [] (by decide))⟩
   ·obtain ⟨Jc,DC,rfl,hS⟩:=hq;obtain rfl:=DC.symm;replace h:=g24;try dsimp only at h
    refine BK GS ?_;refine BI ?_;simp only [W];refine BW h (fun hc h=> ?_) (fun hc h=> ?_)
    ·refine BD fun NL Hh=> ?_;refine BX gC ?_;try simp only [W,Nat.reduceAdd]
     refine BK Hh ?_;refine BG ?_;refine BR Eb ?_;refine BL E1 ?_;try obtain rfl:=Option.some.inj h
     obtain rfl:=J3 _ rfl;have h:(some (LR.done false):Option (LR Unit (Bool)))=some (LR.done false):=rfl;refine Cg D3 ?_;refine BR Ea ?_;try obtain rfl:=Option.some.inj h
     obtain rfl:=Option.some.inj g12;have h:(some false:Option (Bool))=some false:=rfl;refine Cj D8 ?_;refine BL zB ?_;refine BT DA rfl ?_;try obtain rfl:=Option.some.inj h
     exact hP _ hS
    ·refine BF ?_;refine BO Eb ?_;refine BK E1 ?_;refine BX gC ?_;try simp only [W,EE,Nat.reduceAdd]
     exact Ce D3 h ⟨rfl,hS⟩
  ·refine BH ?_;refine BM EQ ?_;try obtain rfl:=Option.some.inj h
   obtain rfl:=J3 _ rfl;have h:(some (LR.next ()):Option (LR Unit (Bool)))=some (LR.next ()):=rfl
   refine Cf D3 ?_;refine BP Ea ?_;exact Ci D8 ⟨(Option.some.inj h).symm,rfl,hS⟩
 ·obtain ⟨rfl,rfl,hS⟩:=hq;replace h:=g12;try dsimp only at h
  refine BK zB ?_;refine BD fun L7 HP=> ?_;refine BX gC ?_;try simp only [W,EE,Nat.reduceAdd]
  refine BK HP ?_;refine BG ?_;refine BT DA rfl ?_;try obtain rfl:=Option.some.inj h
  exact hP _ hS
theorem NY {a0:List Span} {a1:List Span} {r:(Bool)} (h:Ie a0 a1=some r) {F:List It} {H:J} (hS:aD H (F)) {P:AV→J→Prop} (hP: ∀H',aD H' (F)→P (.bool r) H'):aq C 248 [.fz (a0.map Dy),.fz (a1.map Dy)] H P:=by
 refine B0 gC (res:=[.tmp 4]) (n:=11) rfl rfl rfl rfl fun K0 DA=> ?_;simp only [W,Nat.reduceSub,Nat.reduceAdd,List.replicate];unfold Ie at h;refine BD fun K1 DB=> ?_;refine BX gC ?_;try simp only [W,Nat.reduceAdd]
 refine BK DB ?_;refine BD fun K2 zB=> ?_;refine BX gC ?_;try simp only [W,Nat.reduceAdd]
 refine Cc h fun b3 kH h=> ?_;refine IK kH hS fun H hS=> ?_;try simp only [W]
 refine Cz h (fun hc h=> ?_) (fun hc h=> ?_)
 ·try simp only [W,hc]
  refine Cc h fun Eu F4 h=> ?_;refine IK F4 hS fun H hS=> ?_;try simp only [W,reduceIte]
  refine BK zB ?_;refine BG ?_;refine BT DA rfl ?_;try obtain rfl:=Option.some.inj h
  exact hP _ hS
 ·try simp only [W,hc]
  refine BK zB ?_;refine BG ?_;refine BT DA rfl ?_;try obtain rfl:=Option.some.inj h
  exact hP _ hS
theorem NZ {a0:Int} {a1:Int} {r:(Int)} (h:If a0 a1=some r) {F:List It} {H:J} (hS:aD H (F)) {P:AV→J→Prop} (hP: ∀H',aD H' (F)→P (.int .i64 r) H'):aq C 259 [.int .i64 a0,.int .i64 a1] H P:=by
 refine B0 gC (res:=[.tmp 4]) (n:=10) rfl rfl rfl rfl fun K0 DA=> ?_;simp only [W,Nat.reduceSub,Nat.reduceAdd,List.replicate];unfold If at h;refine BD fun K1 DB=> ?_;refine BX gC ?_;try simp only [W,Nat.reduceAdd]
 refine BK DB ?_;refine BD fun K2 zB=> ?_;refine BD fun K3 DI=> ?_;refine BX gC ?_;try simp only [W,EE,Nat.reduceAdd]
 refine BK DI ?_;refine BI ?_;simp only [W];refine BW h (fun hc h=> ?_) (fun hc h=> ?_)
 ·refine BD fun K4 DG=> ?_;refine BX gC ?_;try simp only [W,Nat.reduceAdd]
  refine BK DG ?_;refine BG ?_;refine BL zB ?_;refine BT DA rfl ?_;try obtain rfl:=Option.some.inj h
  exact hP _ hS
 ·refine BF ?_;refine BK zB ?_;refine BD fun K5 DR=> ?_;refine BX gC ?_;try simp only [W,Nat.reduceAdd]
  refine BK DR ?_;refine BG ?_;refine BT DA rfl ?_;try obtain rfl:=Option.some.inj h
  exact hP _ hS
theorem N0 {a0:Int} {a1:Int} {r:(Int)} (h:Ig a0 a1=some r) {F:List It} {H:J} (hS:aD H (F)) {P:AV→J→Prop} (hP: ∀H',aD H' (F)→P (.int .i64 r) H'):aq C 181 [.int .i64 a0,.int .i64 a1] H P:=by
 refine B0 gC (res:=[.tmp 4]) (n:=10) rfl rfl rfl rfl fun K0 DA=> ?_;simp only [W,Nat.reduceSub,Nat.reduceAdd,List.replicate];unfold Ig at h;refine BD fun K1 DB=> ?_;refine BX gC ?_;try simp only [W,Nat.reduceAdd]
 refine BK DB ?_;refine BD fun K2 zB=> ?_;refine BD fun K3 DI=> ?_;refine BX gC ?_;try simp only [W,EE,Nat.reduceAdd]
 refine BK DI ?_;refine BI ?_;simp only [W];refine BW h (fun hc h=> ?_) (fun hc h=> ?_)
 ·refine BD fun K4 DG=> ?_;refine BX gC ?_;try simp only [W,Nat.reduceAdd]
  refine BK DG ?_;refine BG ?_;refine BL zB ?_;refine BT DA rfl ?_;try obtain rfl:=Option.some.inj h
  exact hP _ hS
 ·refine BF ?_;refine BK zB ?_;refine BD fun K5 DR=> ?_;refine BX gC ?_;try simp only [W,Nat.reduceAdd]
  refine BK DR ?_;refine BG ?_;refine BT DA rfl ?_;try obtain rfl:=Option.some.inj h
  exact hP _ hS
theorem N1 {a0:List Span} {a1:Span} {r:(List Span)} (h:Ih a0 a1=some r) {F:List It} {H:J} (hS:aD H (F)) {P:AV→J→Prop} (hP: ∀v82:AV,bJ v82→ ∀H',aD H' (⟨v82,2,r.map Dy⟩::F)→P (v82) H'):aq C 255 [.fz (a0.map Dy),.agg [.int .i64 a1.Dz,.int .i64 a1.To]] H P:=by
 refine B0 gC (res:=[.tmp 4]) (n:=72) rfl rfl rfl rfl fun K0 DA=> ?_;simp only [W,Nat.reduceSub,Nat.reduceAdd,List.replicate];unfold Ih at h;refine BD fun K1 DB=> ?_;refine BX gC ?_;try simp only [W,Nat.reduceAdd]
 refine B3 hS rfl rfl rfl rfl fun DZ D0 H hS=> ?_;try simp only [W]
 refine BK DB ?_;refine BD fun K4 DG=> ?_;refine BX gC ?_;try simp only [W,Nat.reduceAdd]
 refine BK DG ?_;refine BD fun K5 DR=> ?_;refine BX gC ?_;try simp only [W,Nat.reduceAdd]
 refine BK DR ?_;refine BD fun K6 ES=> ?_;obtain ⟨F8,L8,g21⟩:=Option.bind_eq_some_iff.1 h;refine Ch gC (fun s H=> ∃D5:List Span,∃DL:Int,F8=(D5,DL)∧ ∃v12:AV,bJ v12∧s=(.fz (a0.map Dy)::u::u:: .ptr DZ D0 0 0::u::v12:: .int .i64 DL::u::u::u::u::u::u::u::u::u::u::u::u::u::u::u::u::u::u::u::u::u::u::u::u::u::u::u::u::u::u::u::u::u::u::u::u::u::u::u::u::u::u::u::u::u::u::u::u::u::u::u::u::u::u::u::u::u::u::u::u::u::u::u::u::u::[])∧aD H (⟨v12,2,D5.map Dy⟩::⟨.ptr DZ D0 0 0,2,[.agg [.int .i64 a1.Dz,.int .i64 a1.To]]⟩::F)) (fun F2 Eb=> ?_) (fun s H hq=> ?_)
 ·refine BE fun FM DY=> ?_;refine Cd gC L8 (fun x s H=>match x with|(DO,DJ)=> ∃GU:AV,bJ GU∧s=(.fz (a0.map Dy)::u::u:: .ptr DZ D0 0 0::u::GU:: .int .i64 DJ::u::u::u::u::u::u::u::u::u::u::u::u::u::u::u::u::u::u::u::u::u::u::u::u::u::u::u::u::u::u::u::u::u::u::u::u::u::u::u::u::u::u::u::u::u::u::u::u::u::u::u::u::u::u::u::u::u::u::u::u::u::u::u::u::u::[])∧aD H (⟨GU,2,DO.map Dy⟩::⟨.ptr DZ D0 0 0,2,[.agg [.int .i64 a1.Dz,.int .i64 a1.To]]⟩::F)) ⟨_,pP,rfl,(hS.z7 2)⟩ (fun x L9 s H h KP hi FN D1=> ?_)
  obtain ⟨DO,DJ⟩:=x;try dsimp only at hi
  obtain ⟨GU,KQ,rfl,hS⟩:=hi;simp only [Jd] at h;refine BD fun IB Fh=> ?_;refine BD fun He EY=> ?_;obtain ⟨Qv,h,Qw⟩:=Option.bind_eq_some_iff.1 h;refine Ch gC (fun s H=> ∃Je:Bool,Qv=(Je)∧s=(.fz (a0.map Dy)::u::u:: .ptr DZ D0 0 0::u::GU:: .int .i64 DJ::u::u::u::u::u::u::u::u::u::u::u::u::u:: .bool Je::u::u::u::u::u::u::u::u::u::u::u::u::u::u::u::u::u::u::u::u::u::u::u::u::u::u::u::u::u::u::u::u::u::u::u::u::u::u::u::u::u::u::u::u::u::u::u::u::u::u::u::[])∧aD H (⟨GU,2,DO.map Dy⟩::⟨.ptr DZ D0 0 0,2,[.agg [.int .i64 a1.Dz,.int .i64 a1.To]]⟩::F)) (fun IC Fi=> ?_) (fun s H hq=> ?_)
  ·refine BD fun LN Gt=> ?_;refine BZ gC (by kernel_rfl) ?_
   try simp only [W,EE,Nat.reduceAdd]
   refine Cz h (fun hc h=> ?_) (fun hc h=> ?_)
   ·try simp only [W,EE,hc]
    refine B7 rfl rfl rfl (fun _=>rfl) h fun G8 Vk h=> ?_;try simp only [W,EE,EN,reduceIte,Nat.reduceAdd,Nat.reduceBEq,hS.var 1 rfl]
    refine BK Gt ?_;refine C5 (s' :=(.fz (a0.map Dy)::u::u:: .ptr DZ D0 0 0::u::GU:: .int .i64 DJ::u::u::u::u::u::u::u::u::u::u::u::u::u:: .bool (decide (G8.To<a1.Dz))::u::u::u::u::u::u::u::u::u::u::u::u::u::u::u::u::u::u::u::u::u::u::u::u::u::u::u::u::u::u::u::u::u::u::u::u::u::u::u::u::u::u::u::u::u::u::u::u::u::u::u::[])) rfl ?_
    exact Ci Fi ⟨_,(Option.some.inj h).symm,rfl,hS⟩
   ·try simp only [W,hc]
    refine BK Gt ?_;refine C5 (s' :=(.fz (a0.map Dy)::u::u:: .ptr DZ D0 0 0::u::GU:: .int .i64 DJ::u::u::u::u::u::u::u::u::u::u::u::u::u:: .bool false::u::u::u::u::u::u::u::u::u::u::u::u::u::u::u::u::u::u::u::u::u::u::u::u::u::u::u::u::u::u::u::u::u::u::u::u::u::u::u::u::u::u::u::u::u::u::u::u::u::u::u::[])) rfl ?_
    exact Ci Fi ⟨_,(Option.some.inj h).symm,rfl,hS⟩
  ·obtain ⟨Je,DC,rfl,hS⟩:=hq;obtain rfl:=DC.symm;replace h:=Qw;try dsimp only at h
   refine BK EY ?_;refine BI ?_;simp only [W];refine BW h (fun hc h=> ?_) (fun hc h=> ?_)
   ·refine BF ?_;refine BK Fh ?_;refine BE fun KE Gu=> ?_;refine BD fun KF GN=> ?_;refine BX gC ?_;try simp only [W,EE,Nat.reduceAdd]
    refine B7 rfl rfl rfl (fun _=>rfl) h fun Hu Vl h=> ?_;try simp only [W,EE,EN,reduceIte,Nat.reduceAdd,Nat.reduceLeDiff]
    refine Cb (el:=([Hu]:List Span).map Dy) hS rfl rfl rfl rfl rfl rfl rfl fun v33 H J5 hS=> ?_;try simp only [W,EE]
    refine Cq (l:=DO) (c:=Dy) 1 hS rfl KQ rfl rfl rfl (hS.ij 0 rfl J5) (fun _=>rfl) rfl h fun PZ H Ge LQ hm h hS=> ?_;try simp only [W]
    refine BK GN ?_;refine BX gC ?_;try simp only [W,EE,Nat.reduceAdd]
    refine BO Gu ?_;exact Ce D1 h ⟨_,LQ,rfl,(hS.Cv 3 [1,2] (by decide))⟩
   ·refine BH ?_;refine BM Fh ?_;try obtain rfl:=Option.some.inj h
    obtain rfl:=KP _ rfl;have h:(some (DO,DJ):Option ((List Span)×Int))=some (DO,DJ):=rfl;refine Cf D1 ?_;refine BP DY ?_;exact Ci Eb ⟨_,_,(Option.some.inj h).symm,_,KQ,rfl,hS⟩
 ·obtain ⟨D5,DL,rfl,v12,IF,rfl,hS⟩:=hq;replace h:=g21;try dsimp only at h
  refine BK ES ?_;refine BD fun NS GR=> ?_;obtain ⟨NC,Qx,KR⟩:=Option.bind_eq_some_iff.1 h;refine Ch gC (fun s H=> ∃FX:Int,∃GC:Int,∃EW:Int,NC=(FX,GC,EW)∧s=(.fz (a0.map Dy)::u::u:: .ptr DZ D0 0 0::u::v12:: .int .i64 FX::u::u::u::u::u::u::u::u::u::u::u::u::u::u::u::u::u::u::u::u::u::u::u::u::u::u::u::u::u::u::u::u::u::u::u::u::u::u::u::u::u::u::u::u::u::u::u::u::u::u::u::u::u::u::u::u::u::u::u::u::u::u::u::u::u::[])∧aD H (⟨v12,2,D5.map Dy⟩::⟨.ptr DZ D0 0 0,2,[.agg [.int .i64 GC,.int .i64 EW]]⟩::F)) (fun LH Hf=> ?_) (fun s H hq=> ?_)
  ·refine BE fun JW FP=> ?_;refine Cd gC Qx (fun x s H=>match x with|(Fq,Fg,EU)=>s=(.fz (a0.map Dy)::u::u:: .ptr DZ D0 0 0::u::v12:: .int .i64 Fq::u::u::u::u::u::u::u::u::u::u::u::u::u::u::u::u::u::u::u::u::u::u::u::u::u::u::u::u::u::u::u::u::u::u::u::u::u::u::u::u::u::u::u::u::u::u::u::u::u::u::u::u::u::u::u::u::u::u::u::u::u::u::u::u::u::[])∧aD H (⟨v12,2,D5.map Dy⟩::⟨.ptr DZ D0 0 0,2,[.agg [.int .i64 Fg,.int .i64 EU]]⟩::F)) ⟨rfl,hS⟩ (fun x N2 s H h Qy hi JX FD=> ?_)
   obtain ⟨Fq,Fg,EU⟩:=x;try dsimp only at hi
   obtain ⟨rfl,hS⟩:=hi;simp only [Jf] at h;refine BD fun KI FG=> ?_;refine BD fun NN HM=> ?_;obtain ⟨Qz,h,QA⟩:=Option.bind_eq_some_iff.1 h;refine Ch gC (fun s H=> ∃Jh:Bool,Qz=(Jh)∧s=(.fz (a0.map Dy)::u::u:: .ptr DZ D0 0 0::u::v12:: .int .i64 Fq::u::u::u::u::u::u::u::u::u::u::u::u::u::u::u::u::u::u::u::u::u::u::u::u::u::u::u::u::u::u::u::u::u::u::u::u:: .bool Jh::u::u::u::u::u::u::u::u::u::u::u::u::u::u::u::u::u::u::u::u::u::u::u::u::u::u::u::u::[])∧aD H (⟨v12,2,D5.map Dy⟩::⟨.ptr DZ D0 0 0,2,[.agg [.int .i64 Fg,.int .i64 EU]]⟩::F)) (fun QB KS=> ?_) (fun s H hq=> ?_)
   ·refine BD fun NV IJ=> ?_;refine BZ gC (by kernel_rfl) ?_
    try simp only [W,EE,Nat.reduceAdd]
    refine Cz h (fun hc h=> ?_) (fun hc h=> ?_)
    ·try simp only [W,EE,hc]
     refine B7 rfl rfl rfl (fun _=>rfl) h fun Jg N3 h=> ?_;try simp only [W,EE,EN,reduceIte,Nat.reduceAdd,Nat.reduceBEq,hS.var 1 rfl]
     refine BK IJ ?_;refine C5 (s' :=(.fz (a0.map Dy)::u::u:: .ptr DZ D0 0 0::u::v12:: .int .i64 Fq::u::u::u::u::u::u::u::u::u::u::u::u::u::u::u::u::u::u::u::u::u::u::u::u::u::u::u::u::u::u::u::u::u::u::u::u:: .bool (decide (Jg.Dz≤EU))::u::u::u::u::u::u::u::u::u::u::u::u::u::u::u::u::u::u::u::u::u::u::u::u::u::u::u::u::[])) rfl ?_
     exact Ci KS ⟨_,(Option.some.inj h).symm,rfl,hS⟩
    ·try simp only [W,hc]
     refine BK IJ ?_;refine C5 (s' :=(.fz (a0.map Dy)::u::u:: .ptr DZ D0 0 0::u::v12:: .int .i64 Fq::u::u::u::u::u::u::u::u::u::u::u::u::u::u::u::u::u::u::u::u::u::u::u::u::u::u::u::u::u::u::u::u::u::u::u::u:: .bool false::u::u::u::u::u::u::u::u::u::u::u::u::u::u::u::u::u::u::u::u::u::u::u::u::u::u::u::u::[])) rfl ?_
     exact Ci KS ⟨_,(Option.some.inj h).symm,rfl,hS⟩
   ·obtain ⟨Jh,DC,rfl,hS⟩:=hq;obtain rfl:=DC.symm;replace h:=QA;try dsimp only at h
    refine BK HM ?_;refine BI ?_;simp only [W];refine BW h (fun hc h=> ?_) (fun hc h=> ?_)
    ·refine BF ?_;refine BK FG ?_;refine BE fun Vm QC=> ?_;refine BD fun N4 IL=> ?_;refine CB gC [(17,[])] (by kernel_rfl) rfl (by kernel_rfl) ?_
     try simp only [W,EE,reduceIte,Nat.reduceAdd,Nat.reduceBEq,hS.var 1 rfl,iT,ly,Nat.reduceEqDiff]
     refine B7 rfl rfl rfl (fun _=>rfl) h fun G3 Vn h=> ?_;try simp only [W,EE,EN,Nat.reduceAdd,Nat.reduceBEq]
     refine CO (cc:=[[.sc]]) (ys:=[.int .i64 Fg,.int .i64 G3.Dz]) h rfl (by rfl) fun GB L_ h=>⟨.int .i64 GB,NZ L_ (aD.nil _) fun H hS=>CI rfl (CG rfl (CF rfl)),⟨rfl,rfl,fun _=>rfl⟩,?_⟩
     try simp only [W,EE,Nat.reduceAdd,Nat.reduceBEq,hS.var 1 rfl]
     refine B7 rfl rfl rfl (fun _=>rfl) h fun G9 Vo h=> ?_;try simp only [W,EE,EN,Nat.reduceAdd,Nat.reduceBEq]
     refine CO (cc:=[[.sc]]) (ys:=[.int .i64 EU,.int .i64 G9.To]) h rfl (by rfl) fun Gk QD h=>⟨.int .i64 Gk,N0 QD (aD.nil _) fun H hS=>CI rfl (CG rfl (CF rfl)),⟨rfl,rfl,fun _=>rfl⟩,?_⟩
     try simp only [W,EE]
     refine CA rfl rfl rfl rfl rfl ?_;try simp only [W]
     refine B5 (a:= .agg [.int .i64 GB,.int .i64 Gk]) (y' := .agg [.int .i64 GB,.int .i64 Gk]) 1 hS rfl rfl rfl rfl rfl rfl rfl rfl fun H hS=> ?_
     try simp only [W]
     refine BK IL ?_;refine BX gC ?_;try simp only [W,EE,Nat.reduceAdd]
     refine BO QC ?_;exact Ce FD h ⟨rfl,hS⟩
    ·refine BH ?_;refine BM FG ?_;try obtain rfl:=Option.some.inj h
     obtain rfl:=Qy _ rfl;have h:(some (Fq,Fg,EU):Option (Int×Int×Int))=some (Fq,Fg,EU):=rfl;refine Cf FD ?_;refine BP FP ?_;exact Ci Hf ⟨_,_,_,(Option.some.inj h).symm,rfl,hS⟩
  ·obtain ⟨FX,GC,EW,rfl,rfl,hS⟩:=hq;replace h:=KR;try dsimp only at h
   refine BK GR ?_;refine BD fun Vp QE=> ?_;refine BX gC ?_;try simp only [W,EE,reduceIte,Nat.reduceAdd,Nat.reduceLeDiff,hS.var 1 rfl]
   refine Cb (el:=([(⟨GC,EW⟩:Span)]:List Span).map Dy) hS rfl rfl rfl rfl rfl rfl rfl fun v72 H QF hS=> ?_;try simp only [W,EE]
   refine Cq (l:=D5) (c:=Dy) 1 hS rfl IF rfl rfl rfl (hS.ij 0 rfl QF) (fun _=>rfl) rfl h fun v75 H Lp QH hm h hS=> ?_;try simp only [W]
   refine BK QE ?_;refine BD fun NE IE=> ?_;refine BX gC ?_;try simp only [W,EE,Nat.reduceAdd]
   refine Co rfl rfl rfl (fun _=>rfl) h fun M9 Vq h=> ?_;try simp only [W,EE]
   refine Cq (l:=Lp) (c:=Dy) 1 hS rfl QH rfl rfl rfl rfl (fun _=>rfl) rfl h fun v80 H M_ QI hm h hS=> ?_;try simp only [W]
   refine BK IE ?_;refine BG ?_;refine BT DA rfl ?_;try obtain rfl:=Option.some.inj h
   exact hP _ QI _ (hS.Cv 3 [1] (by decide))
theorem QJ {a0:List Span} {a1:List Span} {r:(List Span)} (h:Jj a0 a1=some r) {F:List It} {H:J} (hS:aD H (F)) {P:AV→J→Prop} (hP: ∀Ma:AV,bJ Ma→ ∀H',aD H' (⟨Ma,2,r.map Dy⟩::F)→P (Ma) H'):aq C 250 [.fz (a0.map Dy),.fz (a1.map Dy)] H P:=by
 refine B0 gC (res:=[.tmp 4]) (n:=22) rfl rfl rfl rfl fun K0 DA=> ?_;simp only [W,Nat.reduceSub,Nat.reduceAdd,List.replicate];unfold Jj at h;refine BD fun K1 DB=> ?_;refine BX gC ?_;try simp only [W,Nat.reduceAdd]
 refine BK DB ?_;refine BD fun K2 zB=> ?_;refine BX gC ?_;try simp only [W,Nat.reduceAdd]
 refine Ca rfl rfl ?_;try simp only [W,EE]
 have hS:=hS.z8 2;refine Cq (l:=([]:List Span)) (c:=Dy) 0 hS rfl pQ rfl rfl rfl rfl (fun _=>rfl) rfl h fun v5 H DP QK hm h hS=> ?_;try simp only [W]
 refine BK zB ?_;refine BD fun K7 D8=> ?_;refine BD fun K8 Ea=> ?_;refine BX gC ?_;try simp only [W,EE,Nat.reduceAdd]
 refine BK Ea ?_;obtain ⟨LC,QL,g22⟩:=Option.bind_eq_some_iff.1 h;refine Ch gC (fun s H=> ∃DL:List Span,LC=(DL)∧ ∃FQ:AV,bJ FQ∧s=[u,u,u,u,u,FQ,u,u,u,u,u,u,u,u,u,u,u,u,u,u,u,u]∧aD H (⟨FQ,2,DL.map Dy⟩::F)) (fun FM DY=> ?_) (fun s H hq=> ?_)
 ·refine BE fun FN D1=> ?_;refine Cd gC QL (fun x s H=>match x with|(DX,ET)=> ∃v10:AV,bJ v10∧s=[u,u,u,u,u,v10,u,u,u,u,u,.fz (a1.map Dy),.int .i64 (a1.length:Int),.int .i64 ET,u,u,u,u,u,u,u,u]∧aD H (⟨v10,2,DX.map Dy⟩::F)) ⟨_,QK,rfl,hS⟩ (fun x NM s H h QM hi Gq Eh=> ?_)
  obtain ⟨DX,ET⟩:=x;try dsimp only at hi
  obtain ⟨v10,Hj,rfl,hS⟩:=hi;simp only [Ji] at h;refine BD fun He EY=> ?_;refine BX gC ?_;try simp only [W,EE,Nat.reduceAdd]
  refine BK EY ?_;refine BD fun F9 Ed=> ?_;refine BI ?_;simp only [W];refine BW h (fun hc h=> ?_) (fun hc h=> ?_)
  ·refine BF ?_;refine BK Ed ?_;refine BD fun KK FH=> ?_;refine BE fun HL E2=> ?_;refine BD fun IC Fi=> ?_;refine BX gC ?_;try simp only [W,EE,Nat.reduceAdd]
   refine B7 rfl rfl rfl (fun _=>rfl) h fun EM J4 h=> ?_;try simp only [W,EE,EN,reduceIte,Nat.reduceAdd,Nat.reduceLeDiff]
   refine B4 hS rfl rfl fun Vr Vs H hS=> ?_;try simp only [W]
   refine B5 (a:= .agg [.int .i64 EM.Dz,.int .i64 EM.To]) (y' := .agg [.int .i64 EM.Dz,.int .i64 EM.To]) 0 hS rfl rfl rfl rfl rfl rfl rfl rfl fun H hS=> ?_
   try simp only [W]
   refine BK Fi ?_;refine BX gC ?_;try simp only [W,EE,reduceIte,Nat.reduceAdd,Nat.reduceLeDiff,Nat.reduceBEq,hS.var 0 rfl,List.contains_cons,Nat.reduceBEq,Bool.or_self]
   refine CP (cc:=[[.sl [.sc,.sc]]]) (ys:=[.fz (DX.map Dy),.agg [.int .i64 EM.Dz,.int .i64 EM.To]]) h rfl (CE (CC hS 1 rfl Hj (fun _=>rfl)) (CE rfl CD)) fun Gg KC h=>⟨.own 2 (Gg.map Dy),N1 KC (aD.nil _) fun v32 QN H hS=>CI rfl (CH 0 hS rfl QN (fun _ _=>by simp [aY,aQ,cx,du,Dy]) fun H hS=>CF rfl),(CQ _ (fun _=>rfl) _),?_⟩
   refine CM ?_;refine CL hS (fun _ _=>rfl) (fun _=>rfl) fun Vt H QO hS=> ?_;refine CJ ?_;try simp only [List.headD_cons]
   try simp only [W]
   refine BO E2 ?_;refine BK FH ?_;refine BX gC ?_;try simp only [W,EE,Nat.reduceAdd]
   exact Ce Eh h ⟨_,QO,rfl,(hS.Cv 3 [0] (by decide))⟩
  ·refine BH ?_;refine BM Ed ?_;try obtain rfl:=Option.some.inj h
   obtain rfl:=QM _ rfl;have h:(some (DX):Option ((List Span)))=some (DX):=rfl;refine Cf Eh ?_;refine BP D1 ?_;exact Ci DY ⟨_,(Option.some.inj h).symm,_,Hj,rfl,hS⟩
 ·obtain ⟨DL,DC,FQ,F5,rfl,hS⟩:=hq;obtain rfl:=DC.symm;replace h:=g22;try dsimp only at h
  refine BK D8 ?_;refine BD fun Mb HQ=> ?_;refine BX gC ?_;try simp only [W,Nat.reduceAdd]
  refine BK HQ ?_;refine BG ?_;refine BT DA rfl ?_;try obtain rfl:=Option.some.inj h
  exact hP _ F5 _ hS
theorem J6 {a0:List Span} {r:(List Span×Bool)} (h:GD a0=some r) {F:List It} {H:J} (hS:aD H (F)) {P:AV→J→Prop} (hP: ∀H',aD H' (F)→P (.ay [.fz (r.1.map Dy),.bool r.2]) H'):aq C 249 [.fz (a0.map Dy)] H P:=by
 refine B0 gC (res:=[.tmp 2,.tmp 3]) (n:=8) rfl rfl rfl rfl fun K0 DA=> ?_;simp only [W,Nat.reduceSub,Nat.reduceAdd,List.replicate];unfold GD at h;refine BD fun K1 DB=> ?_;refine BX gC ?_;try simp only [W,Nat.reduceAdd]
 refine BK DB ?_;refine BD fun K2 zB=> ?_;refine BD fun K3 DI=> ?_;refine BX gC ?_;try simp only [W,EE,Nat.reduceAdd]
 refine BK DI ?_;refine BI ?_;simp only [W];refine BW h (fun hc h=> ?_) (fun hc h=> ?_)
 ·refine BD fun K4 DG=> ?_;refine BD fun K5 DR=> ?_;refine BX gC ?_;try simp only [W,Nat.reduceAdd]
  refine BK DR ?_;refine Cu ?_;refine Ct rfl ?_;simp only [W];refine BK DG ?_;refine BG ?_;refine BL zB ?_;refine BU DA rfl rfl ?_;try obtain rfl:=Option.some.inj h
  exact hP _ hS
 ·refine BF ?_;refine BK zB ?_;refine BD fun K6 ES=> ?_;refine BX gC ?_;try simp only [W,Nat.reduceAdd]
  refine BK ES ?_;refine BG ?_;refine BU DA rfl rfl ?_;try obtain rfl:=Option.some.inj h
  exact hP _ hS
theorem QP {a0:List Span} {a1:List Span} {r:(List Span×Bool)} (h:Jk a0 a1=some r) {F:List It} {H:J} (hS:aD H (F)) {P:AV→J→Prop} (hP: ∀H',aD H' (F)→P (.ay [.fz (r.1.map Dy),.bool r.2]) H'):aq C 110 [.fz (a0.map Dy),.fz (a1.map Dy)] H P:=by
 refine B0 gC (res:=[.tmp 4,.tmp 5]) (n:=16) rfl rfl rfl rfl fun K0 DA=> ?_;simp only [W,Nat.reduceSub,Nat.reduceAdd,List.replicate];unfold Jk at h;refine BD fun K1 DB=> ?_;refine BX gC ?_;try simp only [W,Nat.reduceAdd]
 refine BK DB ?_;refine BD fun K2 zB=> ?_;refine BD fun K3 DI=> ?_;refine BX gC ?_;try simp only [W,Nat.reduceAdd]
 refine Cc h fun Eu F4 h=> ?_;refine NY F4 hS fun H hS=> ?_;try simp only [W]
 refine BK DI ?_;refine BI ?_;simp only [W];refine BW h (fun hc h=> ?_) (fun hc h=> ?_)
 ·refine BD fun K5 DR=> ?_;refine BD fun K6 ES=> ?_;refine BX gC ?_;try simp only [W,Nat.reduceAdd]
  refine BK ES ?_;refine Cu ?_;refine Ct rfl ?_;simp only [W];refine BK DR ?_;refine BG ?_;refine BL zB ?_;refine BU DA rfl rfl ?_;try obtain rfl:=Option.some.inj h
  exact hP _ hS
 ·refine BF ?_;refine BK zB ?_;refine BD fun K7 D8=> ?_;refine BY (fz:=[(3,[([12],[.sl [.sc,.sc]])])]) gC ?_;try simp only [W,Nat.reduceAdd,Nat.reduceBEq]
  refine Cc h fun DT J7 h=> ?_;refine QJ J7 hS fun v9 Gr H hS=> ?_;try simp only [W,Nat.reduceAdd]
  refine Cs 0 hS rfl Gr rfl (fun _ _=>by simp [aY,aQ,cx,du,Dy]) (fun _=>rfl) fun H rO hS=> ?_
  try simp only [W]
  refine Cc h fun Eo FE h=> ?_;obtain ⟨Ew,ED⟩:=Eo;try dsimp only at h
  refine J6 FE hS fun H hS=> ?_;try simp only [W,Nat.reduceAdd,Nat.reduceBEq]
  refine BK D8 ?_;refine BG ?_;refine BU DA rfl rfl ?_;try obtain rfl:=Option.some.inj h
  exact hP _ hS
theorem N5 {a0:List Span} {a1:List Span} {r:(List Span)} (h:Hv a0 a1=some r) {F:List It} {H:J} (hS:aD H (F)) {P:AV→J→Prop} (hP: ∀v80:AV,bJ v80→ ∀H',aD H' (⟨v80,2,r.map Dy⟩::F)→P (v80) H'):aq C 239 [.fz (a0.map Dy),.fz (a1.map Dy)] H P:=by
 refine B0 gC (res:=[.tmp 4]) (n:=48) rfl rfl rfl rfl fun K0 DA=> ?_;simp only [W,Nat.reduceSub,Nat.reduceAdd,List.replicate];unfold Hv at h;refine BD fun K1 DB=> ?_;refine BX gC ?_;try simp only [W,Nat.reduceAdd]
 refine BK DB ?_;refine BD fun K2 zB=> ?_;refine BX gC ?_;try simp only [W,Nat.reduceAdd]
 refine Ca rfl rfl ?_;try simp only [W]
 refine BK zB ?_;refine BD fun K3 DI=> ?_;refine BD fun K4 DG=> ?_;refine BX gC ?_;try simp only [W,EE,Nat.reduceAdd]
 refine BK DG ?_;obtain ⟨J2,Mc,g18⟩:=Option.bind_eq_some_iff.1 h;refine Ch gC (fun s H=> ∃DX:List Span,J2=(DX)∧ ∃v10:AV,bJ v10∧s=[u,u,u,u,u,v10,u,u,u,u,u,u,u,u,u,u,u,u,u,u,u,u,u,u,u,u,u,u,u,u,u,u,u,u,u,u,u,u,u,u,u,u,u,u,u,u,u,u]∧aD H (⟨v10,2,DX.map Dy⟩::F)) (fun Gn Ez=> ?_) (fun s H hq=> ?_)
 ·refine BE fun Hd EQ=> ?_;refine Cd gC Mc (fun x s H=>match x with|(DE,EF)=> ∃v6:AV,bJ v6∧s=[u,.fz (a1.map Dy),u,u,u,v6,u,u,u,u,u,u,.fz (a0.map Dy),.int .i64 (a0.length:Int),.int .i64 EF,u,u,u,u,u,u,u,u,u,u,u,u,u,u,u,u,u,u,u,u,u,u,u,u,u,u,u,u,u,u,u,u,u]∧aD H (⟨v6,2,DE.map Dy⟩::F)) ⟨_,pQ,rfl,(hS.z8 2)⟩ (fun x QQ s H h Md hi Iz E1=> ?_)
  obtain ⟨DE,EF⟩:=x;try dsimp only at hi
  obtain ⟨v6,HR,rfl,hS⟩:=hi;simp only [Jm] at h;refine BD fun Gq Eh=> ?_;refine BX gC ?_;try simp only [W,EE,Nat.reduceAdd]
  refine BK Eh ?_;refine BD fun GL EA=> ?_;refine BI ?_;simp only [W];refine BW h (fun hc h=> ?_) (fun hc h=> ?_)
  ·refine BF ?_;refine BK EA ?_;refine BD fun KN GS=> ?_;refine BE fun IB Fh=> ?_;refine BD fun He EY=> ?_;refine BX gC ?_;try simp only [W,EE,Nat.reduceAdd]
   refine B7 rfl rfl rfl (fun _=>rfl) h fun DH JT h=> ?_;try simp only [W,EE,EN,reduceIte,Nat.reduceAdd,Nat.reduceLeDiff]
   refine B4 hS rfl rfl fun FI FJ H hS=> ?_;try simp only [W]
   refine B5 (a:= .agg [.int .i64 DH.Dz,.int .i64 DH.To]) (y' := .agg [.int .i64 DH.Dz,.int .i64 DH.To]) 0 hS rfl rfl rfl rfl rfl rfl rfl rfl fun H hS=> ?_
   try simp only [W]
   refine BK EY ?_;refine BD fun IC Fi=> ?_;refine BX gC ?_;try simp only [W,EE,Nat.reduceAdd]
   refine BK Fi ?_;obtain ⟨Me,Mf,Mg⟩:=Option.bind_eq_some_iff.1 h;refine Ch gC (fun s H=> ∃EG:List Span,Me=(EG)∧ ∃v33:AV,bJ v33∧s=[u,.fz (a1.map Dy),u,u,u,v33,u,u,u,u,u,u,.fz (a0.map Dy),.int .i64 (a0.length:Int),.int .i64 EF,u,u,u,u,u,u,u,u,u,u,u,u,u,u,u,u,u,u,u,u,u,u,u,u,u,u,u,u,u,u,u,u,u]∧aD H (⟨v33,2,EG.map Dy⟩::F)) (fun L7 HP=> ?_) (fun s H hq=> ?_)
   ·refine BE fun Mb HQ=> ?_;refine Cd gC Mf (fun x s H=>match x with|(DW,En)=> ∃ER:AV,bJ ER∧s=[u,.fz (a1.map Dy),u,u,u,ER,u,.ptr FI FJ 0 0,u,u,u,u,.fz (a0.map Dy),.int .i64 (a0.length:Int),.int .i64 EF,u,u,u,.fz (a1.map Dy),.int .i64 (a1.length:Int),.int .i64 En,u,u,u,u,u,u,u,u,u,u,u,u,u,u,u,u,u,u,u,u,u,u,u,u,u,u,u]∧aD H (⟨ER,2,DW.map Dy⟩::⟨.ptr FI FJ 0 0,2,[.agg [.int .i64 DH.Dz,.int .i64 DH.To]]⟩::F)) ⟨_,HR,rfl,(hS.Cv 2 [1,0] (by decide))⟩ (fun x QR s H h Mh hi LS GP=> ?_)
    obtain ⟨DW,En⟩:=x;try dsimp only at hi
    obtain ⟨ER,FO,rfl,hS⟩:=hi;simp only [Ii] at h;refine BD fun N6 IM=> ?_;refine BX gC ?_;try simp only [W,EE,Nat.reduceAdd]
    refine BK IM ?_;refine BD fun NA HH=> ?_;refine BI ?_;simp only [W];refine BW h (fun hc h=> ?_) (fun hc h=> ?_)
    ·refine BF ?_;refine BK HH ?_;refine BD fun NB JU=> ?_;obtain ⟨Mi,h,Mj⟩:=Option.bind_eq_some_iff.1 h;refine Ch gC (fun s H=> ∃EW:List Span,Mi=(EW)∧ ∃Gw:AV,bJ Gw∧s=[u,.fz (a1.map Dy),u,u,u,Gw,u,.ptr FI FJ 0 0,u,u,u,u,.fz (a0.map Dy),.int .i64 (a0.length:Int),.int .i64 EF,u,u,u,.fz (a1.map Dy),.int .i64 (a1.length:Int),.int .i64 En,u,u,u,u,u,u,u,u,u,u,u,u,u,u,u,u,u,u,u,u,u,u,u,u,u,u,u]∧aD H (⟨Gw,2,EW.map Dy⟩::⟨.ptr FI FJ 0 0,2,[.agg [.int .i64 DH.Dz,.int .i64 DH.To]]⟩::F)) (fun JW FP=> ?_) (fun s H hq=> ?_)
     ·refine BE fun JV Ft=> ?_;refine BD fun JX FD=> ?_;refine BX gC ?_;try simp only [W,EE,Nat.reduceAdd]
      refine B7 rfl rfl rfl (fun _=>rfl) h fun DU KM h=> ?_;try simp only [W,EE,EN,reduceIte,Nat.reduceAdd,Nat.reduceLeDiff]
      refine B4 hS rfl rfl fun QS QT H hS=> ?_;try simp only [W]
      refine B5 (a:= .agg [.int .i64 DU.Dz,.int .i64 DU.To]) (y' := .agg [.int .i64 DU.Dz,.int .i64 DU.To]) 0 hS rfl rfl rfl rfl rfl rfl rfl rfl fun H hS=> ?_
      try simp only [W]
      refine BK FD ?_;refine BD fun KI FG=> ?_;refine BX gC ?_;try simp only [W,EE,Nat.reduceAdd,Nat.reduceBEq,hS.var 2 rfl,hS.var 0 rfl]
      refine CA rfl rfl rfl rfl rfl ?_;try simp only [W]
      refine B4 hS rfl rfl fun Vu Vv H hS=> ?_;try simp only [W]
      refine B5 (a:= .agg [.int .i64 (if DU.Dz>DH.Dz then DU.Dz else DH.Dz),.int .i64 (if DU.To<DH.To then DU.To else DH.To)]) (y' := .agg [.int .i64 (if DU.Dz>DH.Dz then DU.Dz else DH.Dz),.int .i64 (if DU.To<DH.To then DU.To else DH.To)]) 0 hS rfl rfl rfl rfl rfl rfl rfl rfl fun H hS=> ?_
      try simp only [W]
      refine BK FG ?_;refine BD fun NO IH=> ?_;refine BX gC ?_;try simp only [W,EE,Nat.reduceAdd,Nat.reduceBEq,hS.var 0 rfl]
      refine BK IH ?_;obtain ⟨QU,h,QV⟩:=Option.bind_eq_some_iff.1 h;refine Ch gC (fun s H=> ∃Jl:List Span,QU=(Jl)∧ ∃v60:AV,bJ v60∧s=[u,.fz (a1.map Dy),u,u,u,v60,u,.ptr FI FJ 0 0,u,u,u,u,.fz (a0.map Dy),.int .i64 (a0.length:Int),.int .i64 EF,u,u,u,.fz (a1.map Dy),.int .i64 (a1.length:Int),.int .i64 En,u,u,u,u,u,u,u,u,u,u,u,u,u,u,u,u,u,u,u,u,u,u,u,u,u,u,u]∧aD H (⟨v60,2,Jl.map Dy⟩::⟨.ptr FI FJ 0 0,2,[.agg [.int .i64 DH.Dz,.int .i64 DH.To]]⟩::F)) (fun N4 IL=> ?_) (fun s H hq=> ?_)
      ·refine BD fun NP II=> ?_;refine BI ?_;simp only [W];refine BW h (fun hc h=> ?_) (fun hc h=> ?_)
       ·refine BX gC ?_;try simp only [W,EE,reduceIte,Nat.reduceAdd,Nat.reduceLeDiff,hS.var 0 rfl]
        refine Cb (el:=([(⟨(if DU.Dz>DH.Dz then DU.Dz else DH.Dz),(if DU.To<DH.To then DU.To else DH.To)⟩:Span)]:List Span).map Dy) hS rfl rfl rfl rfl rfl rfl rfl fun v66 H QW hS=> ?_;try simp only [W,EE]
        refine Cq (l:=DW) (c:=Dy) 3 hS rfl FO rfl rfl rfl (hS.ij 0 rfl QW) (fun _=>rfl) rfl h fun Vw H Na QX hm h hS=> ?_;try simp only [W]
        refine BK II ?_;refine BJ ?_;exact Ci IL ⟨_,(Option.some.inj h).symm,_,QX,rfl,(hS.Cv 5 [3,4] (by decide))⟩
       ·refine BF ?_;refine BK II ?_;refine BJ ?_;exact Ci IL ⟨_,(Option.some.inj h).symm,_,FO,rfl,(hS.Cv 4 [2,3] (by decide))⟩
      ·obtain ⟨Jl,DC,v60,QY,rfl,hS⟩:=hq;obtain rfl:=DC.symm;replace h:=QV;try dsimp only at h
       refine BN Ft ?_;exact Ci FP ⟨_,(Option.some.inj h).symm,_,QY,rfl,hS⟩
     ·obtain ⟨EW,DC,Gw,J8,rfl,hS⟩:=hq;obtain rfl:=DC.symm;replace h:=Mj;try dsimp only at h
      refine BK JU ?_;refine BX gC ?_;try simp only [W,EE,Nat.reduceAdd]
      exact Ce GP h ⟨_,J8,rfl,hS⟩
    ·refine BH ?_;refine BM HH ?_;try obtain rfl:=Option.some.inj h
     obtain rfl:=Mh _ rfl;have h:(some (DW):Option ((List Span)))=some (DW):=rfl;refine Cf GP ?_;refine BP HQ ?_;exact Ci HP ⟨_,(Option.some.inj h).symm,_,FO,rfl,(hS.Cv 2 [0] (by decide))⟩
   ·obtain ⟨EG,DC,v33,J5,rfl,hS⟩:=hq;obtain rfl:=DC.symm;replace h:=Mg;try dsimp only at h
    refine BO Fh ?_;refine BK GS ?_;refine BX gC ?_;try simp only [W,EE,Nat.reduceAdd]
    exact Ce E1 h ⟨_,J5,rfl,hS⟩
  ·refine BH ?_;refine BM EA ?_;try obtain rfl:=Option.some.inj h
   obtain rfl:=Md _ rfl;have h:(some (DE):Option ((List Span)))=some (DE):=rfl;refine Cf E1 ?_;refine BP EQ ?_;exact Ci Ez ⟨_,(Option.some.inj h).symm,_,HR,rfl,hS⟩
 ·obtain ⟨DX,DC,v10,Hj,rfl,hS⟩:=hq;obtain rfl:=DC.symm;replace h:=g18;try dsimp only at h
  refine BK DI ?_;refine BD fun QZ Mk=> ?_;refine BX gC ?_;try simp only [W,Nat.reduceAdd,Nat.reduceBEq,List.contains_cons,Nat.reduceBEq,Bool.or_self]
  refine CP (cc:=[[.sl [.sc,.sc]]]) (ys:=[.fz (DX.map Dy)]) h rfl (CE (CC hS 0 rfl Hj (fun _=>rfl)) CD) fun Jn Ml h=>⟨.own 2 (Jn.map Dy),LW Ml (aD.nil _) fun v77 Q0 H hS=>CI rfl (CH 0 hS rfl Q0 (fun _ _=>by simp [aY,aQ,cx,du,Dy]) fun H hS=>CF rfl),(CQ _ (fun _=>rfl) _),?_⟩
  refine CM ?_;refine CL hS (fun _ _=>rfl) (fun _=>rfl) fun v79 H Q1 hS=> ?_;refine CJ ?_;try simp only [List.headD_cons]
  try simp only [W]
  refine BK Mk ?_;refine BG ?_;refine BT DA rfl ?_;try obtain rfl:=Option.some.inj h
  exact hP _ Q1 _ (hS.Cv 2 [0] (by decide))
theorem Q2 {a0:List Span} {a1:List Span} {r:(List Span×Bool)} (h:Jo a0 a1=some r) {F:List It} {H:J} (hS:aD H (F)) {P:AV→J→Prop} (hP: ∀v21:AV,bJ v21→ ∀H',aD H' (⟨v21,2,r.1.map Dy⟩::F)→P (.ay [v21,.bool r.2]) H'):aq C 101 [.fz (a0.map Dy),.fz (a1.map Dy)] H P:=by
 refine B0 gC (res:=[.tmp 4,.tmp 5]) (n:=20) rfl rfl rfl rfl fun K0 DA=> ?_;simp only [W,Nat.reduceSub,Nat.reduceAdd,List.replicate];unfold Jo at h;refine BD fun K1 DB=> ?_;refine BX gC ?_;try simp only [W,Nat.reduceAdd]
 refine BK DB ?_;refine BD fun K2 zB=> ?_;refine BD fun K3 DI=> ?_;obtain ⟨Ga,h,g6⟩:=Option.bind_eq_some_iff.1 h;refine Ch gC (fun s H=> ∃DP:Bool,Ga=(DP)∧s=[.fz (a0.map Dy),.fz (a1.map Dy),u,u,u,u,u,u,u,u,u,u,u,.bool DP,u,u,u,u,u,u]∧aD H (F)) (fun K7 D8=> ?_) (fun s H hq=> ?_)
 ·refine BD fun K8 Ea=> ?_;refine BX gC ?_;try simp only [W,Nat.reduceAdd]
  refine Cc h fun EV GK h=> ?_;refine Gs GK hS fun H hS=> ?_;try simp only [W]
  refine Cz h (fun hc h=> ?_) (fun hc h=> ?_)
  ·try simp only [W,hc]
   refine BK Ea ?_;refine BJ ?_;exact Ci D8 ⟨_,(Option.some.inj h).symm,rfl,hS⟩
  ·try simp only [W,hc]
   refine Cc h fun Ef Hc h=> ?_;refine Gs Hc hS fun H hS=> ?_;try simp only [W,reduceIte,Bool.false_eq_true]
   refine BK Ea ?_;refine BJ ?_;exact Ci D8 ⟨_,(Option.some.inj h).symm,rfl,hS⟩
 ·obtain ⟨DP,DC,rfl,hS⟩:=hq;obtain rfl:=DC.symm;replace h:=g6;try dsimp only at h
  refine BK DI ?_;refine BI ?_;simp only [W];refine BW h (fun hc h=> ?_) (fun hc h=> ?_)
  ·refine BD fun Gl Ep=> ?_;refine BX gC ?_;try simp only [W,Nat.reduceAdd]
   refine BK Ep ?_;refine BG ?_;refine BL zB ?_;refine BU DA rfl rfl ?_;try obtain rfl:=Option.some.inj h
   exact hP _ pP _ (hS.z7 2)
  ·refine BF ?_;refine BK zB ?_;refine BD fun Gm D6=> ?_;refine BX gC ?_;try simp only [W,Nat.reduceAdd]
   refine Cc h fun ED HS h=> ?_;refine N5 HS hS fun FQ F5 H hS=> ?_;try simp only [W]
   refine Cc h fun Fa J9 h=> ?_;obtain ⟨Fs,D_⟩:=Fa;try dsimp only at h
   refine J0 J9 hS F5 fun EI Fj H hS=> ?_;try simp only [W]
   refine BK D6 ?_;refine BG ?_;refine BU DA rfl rfl ?_;try obtain rfl:=Option.some.inj h
   exact hP _ Fj _ hS
theorem N7 {a0:List Span} {a1:List Span} {r:(List Span)} (h:Ik a0 a1=some r) {F:List It} {H:J} (hS:aD H (F)) {P:AV→J→Prop} (hP: ∀v78:AV,bJ v78→ ∀H',aD H' (⟨v78,2,r.map Dy⟩::F)→P (v78) H'):aq C 251 [.fz (a0.map Dy),.fz (a1.map Dy)] H P:=by
 refine B0 gC (res:=[.tmp 4]) (n:=46) rfl rfl rfl rfl fun K0 DA=> ?_;simp only [W,Nat.reduceSub,Nat.reduceAdd,List.replicate];unfold Ik at h;refine BD fun K1 DB=> ?_;refine BX gC ?_;try simp only [W,Nat.reduceAdd]
 refine BK DB ?_;refine BD fun K2 zB=> ?_;refine BX gC ?_;try simp only [W,Nat.reduceAdd]
 refine BK zB ?_;refine BD fun K3 DI=> ?_;refine BD fun K4 DG=> ?_;refine BX gC ?_;try simp only [W,EE,Nat.reduceAdd]
 refine BK DG ?_;obtain ⟨J2,Mc,g18⟩:=Option.bind_eq_some_iff.1 h;refine Ch gC (fun s H=> ∃DX:List Span,J2=(DX)∧ ∃v10:AV,bJ v10∧s=[u,u,u,u,u,v10,u,u,u,u,u,u,u,u,u,u,u,u,u,u,u,u,u,u,u,u,u,u,u,u,u,u,u,u,u,u,u,u,u,u,u,u,u,u,u,u]∧aD H (⟨v10,2,DX.map Dy⟩::F)) (fun Gn Ez=> ?_) (fun s H hq=> ?_)
 ·refine BE fun Hd EQ=> ?_;refine Cd gC Mc (fun x s H=>match x with|(DE,EF)=> ∃v6:AV,bJ v6∧s=[u,.fz (a1.map Dy),u,u,u,v6,u,u,u,u,u,.fz (a0.map Dy),.int .i64 (a0.length:Int),.int .i64 EF,u,u,u,u,u,u,u,u,u,u,u,u,u,u,u,u,u,u,u,u,u,u,u,u,u,u,u,u,u,u,u,u]∧aD H (⟨v6,2,DE.map Dy⟩::F)) ⟨_,pP,rfl,(hS.z7 2)⟩ (fun x QQ s H h Md hi Iz E1=> ?_)
  obtain ⟨DE,EF⟩:=x;try dsimp only at hi
  obtain ⟨v6,HR,rfl,hS⟩:=hi;simp only [Jp] at h;refine BD fun Gq Eh=> ?_;refine BX gC ?_;try simp only [W,EE,Nat.reduceAdd]
  refine BK Eh ?_;refine BD fun GL EA=> ?_;refine BI ?_;simp only [W];refine BW h (fun hc h=> ?_) (fun hc h=> ?_)
  ·refine BF ?_;refine BK EA ?_;refine BD fun KN GS=> ?_;refine BE fun IB Fh=> ?_;refine BD fun He EY=> ?_;refine BX gC ?_;try simp only [W,EE,Nat.reduceAdd]
   refine B7 rfl rfl rfl (fun _=>rfl) h fun DH JT h=> ?_;try simp only [W,EE,EN,reduceIte,Nat.reduceAdd,Nat.reduceLeDiff]
   refine B4 hS rfl rfl fun FI FJ H hS=> ?_;try simp only [W]
   refine B5 (a:= .agg [.int .i64 DH.Dz,.int .i64 DH.To]) (y' := .agg [.int .i64 DH.Dz,.int .i64 DH.To]) 0 hS rfl rfl rfl rfl rfl rfl rfl rfl fun H hS=> ?_
   try simp only [W]
   refine BK EY ?_;refine BD fun IC Fi=> ?_;refine BX gC ?_;try simp only [W,EE,Nat.reduceAdd]
   refine BK Fi ?_;obtain ⟨Me,Mf,Mg⟩:=Option.bind_eq_some_iff.1 h;refine Ch gC (fun s H=> ∃EG:List Span,Me=(EG)∧ ∃v33:AV,bJ v33∧s=[u,.fz (a1.map Dy),u,u,u,v33,u,u,u,u,u,.fz (a0.map Dy),.int .i64 (a0.length:Int),.int .i64 EF,u,u,u,u,u,u,u,u,u,u,u,u,u,u,u,u,u,u,u,u,u,u,u,u,u,u,u,u,u,u,u,u]∧aD H (⟨v33,2,EG.map Dy⟩::F)) (fun L7 HP=> ?_) (fun s H hq=> ?_)
   ·refine BE fun Mb HQ=> ?_;refine Cd gC Mf (fun x s H=>match x with|(DW,En)=> ∃ER:AV,bJ ER∧s=[u,.fz (a1.map Dy),u,u,u,ER,u,.ptr FI FJ 0 0,u,u,u,.fz (a0.map Dy),.int .i64 (a0.length:Int),.int .i64 EF,u,u,u,.fz (a1.map Dy),.int .i64 (a1.length:Int),.int .i64 En,u,u,u,u,u,u,u,u,u,u,u,u,u,u,u,u,u,u,u,u,u,u,u,u,u,u]∧aD H (⟨ER,2,DW.map Dy⟩::⟨.ptr FI FJ 0 0,2,[.agg [.int .i64 DH.Dz,.int .i64 DH.To]]⟩::F)) ⟨_,HR,rfl,(hS.Cv 2 [1,0] (by decide))⟩ (fun x QR s H h Mh hi LS GP=> ?_)
    obtain ⟨DW,En⟩:=x;try dsimp only at hi
    obtain ⟨ER,FO,rfl,hS⟩:=hi;simp only [Ij] at h;refine BD fun N6 IM=> ?_;refine BX gC ?_;try simp only [W,EE,Nat.reduceAdd]
    refine BK IM ?_;refine BD fun NA HH=> ?_;refine BI ?_;simp only [W];refine BW h (fun hc h=> ?_) (fun hc h=> ?_)
    ·refine BF ?_;refine BK HH ?_;refine BD fun NB JU=> ?_;obtain ⟨Mi,h,Mj⟩:=Option.bind_eq_some_iff.1 h;refine Ch gC (fun s H=> ∃EW:List Span,Mi=(EW)∧ ∃Gw:AV,bJ Gw∧s=[u,.fz (a1.map Dy),u,u,u,Gw,u,.ptr FI FJ 0 0,u,u,u,.fz (a0.map Dy),.int .i64 (a0.length:Int),.int .i64 EF,u,u,u,.fz (a1.map Dy),.int .i64 (a1.length:Int),.int .i64 En,u,u,u,u,u,u,u,u,u,u,u,u,u,u,u,u,u,u,u,u,u,u,u,u,u,u]∧aD H (⟨Gw,2,EW.map Dy⟩::⟨.ptr FI FJ 0 0,2,[.agg [.int .i64 DH.Dz,.int .i64 DH.To]]⟩::F)) (fun JW FP=> ?_) (fun s H hq=> ?_)
     ·refine BE fun JV Ft=> ?_;refine BD fun JX FD=> ?_;refine BX gC ?_;try simp only [W,EE,Nat.reduceAdd]
      refine B7 rfl rfl rfl (fun _=>rfl) h fun DU KM h=> ?_;try simp only [W,EE,EN,reduceIte,Nat.reduceAdd,Nat.reduceLeDiff]
      refine B4 hS rfl rfl fun QS QT H hS=> ?_;try simp only [W]
      refine B5 (a:= .agg [.int .i64 DU.Dz,.int .i64 DU.To]) (y' := .agg [.int .i64 DU.Dz,.int .i64 DU.To]) 0 hS rfl rfl rfl rfl rfl rfl rfl rfl fun H hS=> ?_
      try simp only [W]
      refine BK FD ?_;refine BD fun KI FG=> ?_;refine CB gC [(12,[])] (by kernel_rfl) rfl (by kernel_rfl) ?_
      try simp only [W,EE,reduceIte,Nat.reduceAdd,Nat.reduceBEq,hS.var 2 rfl,hS.var 0 rfl,iT,ly,Nat.reduceEqDiff]
      refine CO (cc:=[[.sc]]) (ys:=[.int .i64 DH.Dz,.int .i64 DU.Dz]) h rfl (by rfl) fun Gf Q3 h=>⟨.int .i64 Gf,N0 Q3 (aD.nil _) fun H hS=>CI rfl (CG rfl (CF rfl)),⟨rfl,rfl,fun _=>rfl⟩,?_⟩
      try simp only [W,EE,Nat.reduceAdd,Nat.reduceBEq,hS.var 2 rfl,hS.var 0 rfl]
      refine CO (cc:=[[.sc]]) (ys:=[.int .i64 DH.To,.int .i64 DU.To]) h rfl (by rfl) fun Hw Q4 h=>⟨.int .i64 Hw,NZ Q4 (aD.nil _) fun H hS=>CI rfl (CG rfl (CF rfl)),⟨rfl,rfl,fun _=>rfl⟩,?_⟩
      try simp only [W,EE]
      refine CA rfl rfl rfl rfl rfl ?_;try simp only [W]
      refine B4 hS rfl rfl fun Vx Vy H hS=> ?_;try simp only [W]
      refine B5 (a:= .agg [.int .i64 Gf,.int .i64 Hw]) (y' := .agg [.int .i64 Gf,.int .i64 Hw]) 0 hS rfl rfl rfl rfl rfl rfl rfl rfl fun H hS=> ?_
      try simp only [W]
      refine BK FG ?_;refine BD fun QB KS=> ?_;refine BX gC ?_;try simp only [W,EE,Nat.reduceAdd,Nat.reduceBEq,hS.var 0 rfl]
      refine BK KS ?_;obtain ⟨Q5,h,Q6⟩:=Option.bind_eq_some_iff.1 h;refine Ch gC (fun s H=> ∃G_:List Span,Q5=(G_)∧ ∃GQ:AV,bJ GQ∧s=[u,.fz (a1.map Dy),u,u,u,GQ,u,.ptr FI FJ 0 0,u,u,u,.fz (a0.map Dy),.int .i64 (a0.length:Int),.int .i64 EF,u,u,u,.fz (a1.map Dy),.int .i64 (a1.length:Int),.int .i64 En,u,u,u,u,u,u,u,u,u,u,u,u,u,u,u,u,u,u,u,u,u,u,u,u,u,u]∧aD H (⟨GQ,2,G_.map Dy⟩::⟨.ptr FI FJ 0 0,2,[.agg [.int .i64 DH.Dz,.int .i64 DH.To]]⟩::F)) (fun Vz N8=> ?_) (fun s H hq=> ?_)
      ·refine BD fun VA N9=> ?_;refine BI ?_;simp only [W];refine BW h (fun hc h=> ?_) (fun hc h=> ?_)
       ·refine BX gC ?_;try simp only [W,EE,reduceIte,Nat.reduceAdd,Nat.reduceLeDiff,hS.var 0 rfl]
        refine Cb (el:=([(⟨Gf,Hw⟩:Span)]:List Span).map Dy) hS rfl rfl rfl rfl rfl rfl rfl fun VB H Q7 hS=> ?_;try simp only [W,EE]
        refine Cq (l:=DW) (c:=Dy) 3 hS rfl FO rfl rfl rfl (hS.ij 0 rfl Q7) (fun _=>rfl) rfl h fun VC H G5 Q8 hm h hS=> ?_;try simp only [W]
        refine BK N9 ?_;refine BJ ?_;exact Ci N8 ⟨_,(Option.some.inj h).symm,_,Q8,rfl,(hS.Cv 5 [3,4] (by decide))⟩
       ·refine BF ?_;refine BK N9 ?_;refine BJ ?_;exact Ci N8 ⟨_,(Option.some.inj h).symm,_,FO,rfl,(hS.Cv 4 [2,3] (by decide))⟩
      ·obtain ⟨G_,DC,GQ,Mm,rfl,hS⟩:=hq;obtain rfl:=DC.symm;replace h:=Q6;try dsimp only at h
       refine BN Ft ?_;exact Ci FP ⟨_,(Option.some.inj h).symm,_,Mm,rfl,hS⟩
     ·obtain ⟨EW,DC,Gw,J8,rfl,hS⟩:=hq;obtain rfl:=DC.symm;replace h:=Mj;try dsimp only at h
      refine BK JU ?_;refine BX gC ?_;try simp only [W,EE,Nat.reduceAdd]
      exact Ce GP h ⟨_,J8,rfl,hS⟩
    ·refine BH ?_;refine BM HH ?_;try obtain rfl:=Option.some.inj h
     obtain rfl:=Mh _ rfl;have h:(some (DW):Option ((List Span)))=some (DW):=rfl;refine Cf GP ?_;refine BP HQ ?_;exact Ci HP ⟨_,(Option.some.inj h).symm,_,FO,rfl,(hS.Cv 2 [0] (by decide))⟩
   ·obtain ⟨EG,DC,v33,J5,rfl,hS⟩:=hq;obtain rfl:=DC.symm;replace h:=Mg;try dsimp only at h
    refine BO Fh ?_;refine BK GS ?_;refine BX gC ?_;try simp only [W,EE,Nat.reduceAdd]
    exact Ce E1 h ⟨_,J5,rfl,hS⟩
  ·refine BH ?_;refine BM EA ?_;try obtain rfl:=Option.some.inj h
   obtain rfl:=Md _ rfl;have h:(some (DE):Option ((List Span)))=some (DE):=rfl;refine Cf E1 ?_;refine BP EQ ?_;exact Ci Ez ⟨_,(Option.some.inj h).symm,_,HR,rfl,hS⟩
 ·obtain ⟨DX,DC,v10,Hj,rfl,hS⟩:=hq;obtain rfl:=DC.symm;replace h:=g18;try dsimp only at h
  refine BK DI ?_;refine BD fun NE IE=> ?_;refine BX gC ?_;try simp only [W,Nat.reduceAdd]
  refine BK IE ?_;refine BG ?_;refine BT DA rfl ?_;try obtain rfl:=Option.some.inj h
  exact hP _ Hj _ hS
theorem Q9 {a0:List Span} {a1:List Span} {r:(List Span×Bool)} (h:Jq a0 a1=some r) {F:List It} {H:J} (hS:aD H (F)) {P:AV→J→Prop} (hP: ∀H',aD H' (F)→P (.ay [.fz (r.1.map Dy),.bool r.2]) H'):aq C 111 [.fz (a0.map Dy),.fz (a1.map Dy)] H P:=by
 refine B0 gC (res:=[.tmp 4,.tmp 5]) (n:=16) rfl rfl rfl rfl fun K0 DA=> ?_;simp only [W,Nat.reduceSub,Nat.reduceAdd,List.replicate];unfold Jq at h;refine BD fun K1 DB=> ?_;refine BX gC ?_;try simp only [W,Nat.reduceAdd]
 refine BK DB ?_;refine BD fun K2 zB=> ?_;refine BD fun K3 DI=> ?_;refine BX gC ?_;try simp only [W,Nat.reduceAdd]
 refine Cc h fun Eu F4 h=> ?_;refine NY F4 hS fun H hS=> ?_;try simp only [W]
 refine BK DI ?_;refine BI ?_;simp only [W];refine BW h (fun hc h=> ?_) (fun hc h=> ?_)
 ·refine BD fun K5 DR=> ?_;refine BD fun K6 ES=> ?_;refine BX gC ?_;try simp only [W,Nat.reduceAdd]
  refine BK ES ?_;refine Cu ?_;refine Ct rfl ?_;simp only [W];refine BK DR ?_;refine BG ?_;refine BL zB ?_;refine BU DA rfl rfl ?_;try obtain rfl:=Option.some.inj h
  exact hP _ hS
 ·refine BF ?_;refine BK zB ?_;refine BD fun K7 D8=> ?_;refine BY (fz:=[(3,[([12],[.sl [.sc,.sc]])])]) gC ?_;try simp only [W,Nat.reduceAdd,Nat.reduceBEq]
  refine Cc h fun DT J7 h=> ?_;refine N7 J7 hS fun v9 Gr H hS=> ?_;try simp only [W,Nat.reduceAdd]
  refine Cs 0 hS rfl Gr rfl (fun _ _=>by simp [aY,aQ,cx,du,Dy]) (fun _=>rfl) fun H rO hS=> ?_
  try simp only [W]
  refine Cc h fun Eo FE h=> ?_;obtain ⟨Ew,ED⟩:=Eo;try dsimp only at h
  refine J6 FE hS fun H hS=> ?_;try simp only [W,Nat.reduceAdd,Nat.reduceBEq]
  refine BK D8 ?_;refine BG ?_;refine BU DA rfl rfl ?_;try obtain rfl:=Option.some.inj h
  exact hP _ hS
theorem IN {a0:List Span} {a1:List Span} {r:(Bool)} (h:F0 a0 a1=some r) {F:List It} {H:J} (hS:aD H (F)) {P:AV→J→Prop} (hP: ∀H',aD H' (F)→P (.bool r) H'):aq C 112 [.fz (a0.map Dy),.fz (a1.map Dy)] H P:=by
 refine B0 gC (res:=[.tmp 4]) (n:=26) rfl rfl rfl rfl fun K0 DA=> ?_;simp only [W,Nat.reduceSub,Nat.reduceAdd,List.replicate];unfold F0 at h;refine BD fun K1 DB=> ?_;refine BX gC ?_;try simp only [W,Nat.reduceAdd]
 refine BK DB ?_;refine BD fun K2 zB=> ?_;refine BD fun K3 DI=> ?_;refine BX gC ?_;try simp only [W,EE,Nat.reduceAdd]
 refine BK DI ?_;refine BI ?_;simp only [W];refine BW h (fun hc h=> ?_) (fun hc h=> ?_)
 ·refine BD fun K4 DG=> ?_;refine BX gC ?_;try simp only [W,Nat.reduceAdd]
  refine BK DG ?_;refine BG ?_;refine BL zB ?_;refine BT DA rfl ?_;try obtain rfl:=Option.some.inj h
  exact hP _ hS
 ·refine BF ?_;refine BK zB ?_;refine BD fun K5 DR=> ?_;refine BD fun K6 ES=> ?_;refine BX gC ?_;try simp only [W,EE,Nat.reduceAdd]
  refine BK ES ?_;obtain ⟨F6,F7,g15⟩:=Option.bind_eq_some_iff.1 h;refine Ch gC (fun s H=>F6=LR.next ()∧s=[u,u,u,u,u,u,u,u,u,u,u,u,u,u,u,u,u,u,u,u,u,u,u,u,u,u]∧aD H (F)) (fun F3 D7=> ?_) (fun s H hq=> ?_)
  ·refine BE fun Gl Ep=> ?_;refine Cd gC F7 (fun x s H=>s=[.fz (a0.map Dy),.fz (a1.map Dy),u,u,u,u,u,u,u,u,u,u,.int .i64 (a0.length:Int),.int .i64 x,u,u,u,u,u,u,u,u,u,u,u,u]∧aD H (F)) ⟨rfl,hS⟩ (fun DO F8 s H h FF hi Gm D6=> ?_)
   skip
   try dsimp only at hi
   obtain ⟨rfl,hS⟩:=hi;simp only [Jr] at h;refine BD fun F2 Eb=> ?_;refine BX gC ?_;try simp only [W,EE,Nat.reduceAdd]
   refine BK Eb ?_;refine BD fun FM DY=> ?_;refine BI ?_;simp only [W];refine BW h (fun hc h=> ?_) (fun hc h=> ?_)
   ·refine BF ?_;refine BK DY ?_;refine BD fun FN D1=> ?_;refine BE fun Gq Eh=> ?_;refine BD fun GL EA=> ?_;refine BX gC ?_;try simp only [W,Nat.reduceAdd]
    refine BK EA ?_;refine BD fun KN GS=> ?_;refine BZ gC (by kernel_rfl) ?_
    try simp only [W,EE,Nat.reduceAdd]
    refine B7 rfl rfl rfl (fun _=>rfl) h fun Ek N_ h=> ?_;try simp only [W,EE,EN,reduceIte,Nat.reduceAdd,Nat.reduceLeDiff]
    refine B7 rfl rfl rfl (fun _=>rfl) h fun FY NW h=> ?_;try simp only [W,EE,EN,reduceIte,Nat.reduceAdd,Nat.reduceLeDiff]
    refine BK GS ?_;refine BI ?_;simp only [W];refine BW h (fun hc h=> ?_) (fun hc h=> ?_)
    ·refine BD fun F9 Ed=> ?_;refine BX gC ?_;try simp only [W,Nat.reduceAdd]
     refine BK Ed ?_;refine BG ?_;refine BR Eh ?_;refine BL D1 ?_;try obtain rfl:=Option.some.inj h
     obtain rfl:=FF _ rfl;have h:(some (LR.done false):Option (LR Unit (Bool)))=some (LR.done false):=rfl;refine Cg D6 ?_;refine BR Ep ?_;try obtain rfl:=Option.some.inj h
     obtain rfl:=Option.some.inj g15;have h:(some false:Option (Bool))=some false:=rfl;refine Cj D7 ?_;refine BL DR ?_;refine BT DA rfl ?_;try obtain rfl:=Option.some.inj h
     exact hP _ hS
    ·refine BF ?_;refine BO Eh ?_;refine BK D1 ?_;refine BX gC ?_;try simp only [W,EE,Nat.reduceAdd]
     exact Ce D6 h ⟨rfl,hS⟩
   ·refine BH ?_;refine BM DY ?_;try obtain rfl:=Option.some.inj h
    obtain rfl:=FF _ rfl;have h:(some (LR.next ()):Option (LR Unit (Bool)))=some (LR.next ()):=rfl
    refine Cf D6 ?_;refine BP Ep ?_;exact Ci D7 ⟨(Option.some.inj h).symm,rfl,hS⟩
  ·obtain ⟨rfl,rfl,hS⟩:=hq;replace h:=g15;try dsimp only at h
   refine BK DR ?_;refine BD fun KF GN=> ?_;refine BX gC ?_;try simp only [W,Nat.reduceAdd]
   refine BK GN ?_;refine BG ?_;refine BT DA rfl ?_;try obtain rfl:=Option.some.inj h
   exact hP _ hS
theorem J_ {a0:List Span} {r:(Bool)} (h:Fz a0=some r) {F:List It} {H:J} (hS:aD H (F)) {P:AV→J→Prop} (hP: ∀H',aD H' (F)→P (.bool r) H'):aq C 113 [.fz (a0.map Dy)] H P:=by
 refine B0 gC (res:=[.tmp 2]) (n:=5) rfl rfl rfl rfl fun K0 DA=> ?_;simp only [W,Nat.reduceSub,Nat.reduceAdd,List.replicate];unfold Fz at h;refine BD fun K1 DB=> ?_;refine BX gC ?_;try simp only [W,Nat.reduceAdd]
 refine BK DB ?_;refine BD fun K2 zB=> ?_;refine BX gC ?_;try simp only [W,Nat.reduceAdd]
 refine Cc h fun b3 kH h=> ?_;refine Gs kH hS fun H hS=> ?_;try simp only [W]
 refine BK zB ?_;refine BG ?_;refine BT DA rfl ?_;try obtain rfl:=Option.some.inj h
 exact hP _ hS
theorem Mn {a0:List Span} {r:(Int)} (h:Hy a0=some r) {F:List It} {H:J} (hS:aD H (F)) {P:AV→J→Prop} (hP: ∀H',aD H' (F)→P (.int .i64 r) H'):aq C 244 [.fz (a0.map Dy)] H P:=by
 refine B0 gC (res:=[.tmp 2]) (n:=21) rfl rfl rfl rfl fun K0 DA=> ?_;simp only [W,Nat.reduceSub,Nat.reduceAdd,List.replicate];unfold Hy at h;refine BD fun K1 DB=> ?_;refine BX gC ?_;try simp only [W,Nat.reduceAdd]
 refine BK DB ?_;refine BD fun K2 zB=> ?_;refine BX gC ?_;try simp only [W,Nat.reduceAdd]
 refine BK zB ?_;refine BD fun K3 DI=> ?_;refine BD fun K4 DG=> ?_;refine BX gC ?_;try simp only [W,EE,Nat.reduceAdd]
 refine BK DG ?_;obtain ⟨F6,F7,g15⟩:=Option.bind_eq_some_iff.1 h;refine Ch gC (fun s H=> ∃DO:Int,F6=(DO)∧s=[u,u,u,.int .i64 DO,u,u,u,u,u,u,u,u,u,u,u,u,u,u,u,u,u]∧aD H (F)) (fun F3 D7=> ?_) (fun s H hq=> ?_)
 ·refine BE fun Gl Ep=> ?_;refine Cd gC F7 (fun x s H=>match x with|(DE,DF)=>s=[u,u,u,.int .i64 DE,u,u,.fz (a0.map Dy),.int .i64 (a0.length:Int),.int .i64 DF,u,u,u,u,u,u,u,u,u,u,u,u]∧aD H (F)) ⟨rfl,hS⟩ (fun x F8 s H h FF hi Gm D6=> ?_)
  obtain ⟨DE,DF⟩:=x;try dsimp only at hi
  obtain ⟨rfl,hS⟩:=hi;simp only [Js] at h;refine BD fun F2 Eb=> ?_;refine BX gC ?_;try simp only [W,EE,Nat.reduceAdd]
  refine BK Eb ?_;refine BD fun FM DY=> ?_;refine BI ?_;simp only [W];refine BW h (fun hc h=> ?_) (fun hc h=> ?_)
  ·refine BF ?_;refine BK DY ?_;refine BD fun FN D1=> ?_;refine BE fun Gq Eh=> ?_;refine BD fun GL EA=> ?_;refine BX gC ?_;try simp only [W,EE,Nat.reduceAdd]
   refine B7 rfl rfl rfl (fun _=>rfl) h fun DN GM h=> ?_;try simp only [W,EE,EN,reduceIte,Nat.reduceAdd,Nat.reduceLeDiff]
   refine B4 hS rfl rfl fun NI NJ H hS=> ?_;try simp only [W]
   refine B5 (a:= .agg [.int .i64 DN.Dz,.int .i64 DN.To]) (y' := .agg [.int .i64 DN.Dz,.int .i64 DN.To]) 0 hS rfl rfl rfl rfl rfl rfl rfl rfl fun H hS=> ?_
   try simp only [W]
   refine BK EA ?_;refine BX gC ?_;try simp only [W,EE,Nat.reduceAdd,Nat.reduceBEq,hS.var 0 rfl]
   refine BO Eh ?_;refine BK D1 ?_;refine BX gC ?_;try simp only [W,EE,Nat.reduceAdd]
   exact Ce D6 h ⟨rfl,(hS.Cv 1 [] (by decide))⟩
  ·refine BH ?_;refine BM DY ?_;try obtain rfl:=Option.some.inj h
   obtain rfl:=FF _ rfl;have h:(some (DE):Option (Int))=some (DE):=rfl;refine Cf D6 ?_;refine BP Ep ?_;exact Ci D7 ⟨_,(Option.some.inj h).symm,rfl,hS⟩
 ·obtain ⟨DO,DC,rfl,hS⟩:=hq;obtain rfl:=DC.symm;replace h:=g15;try dsimp only at h
  refine BK DI ?_;refine BD fun HL E2=> ?_;refine BX gC ?_;try simp only [W,Nat.reduceAdd]
  refine BK E2 ?_;refine BG ?_;refine BT DA rfl ?_;try obtain rfl:=Option.some.inj h
  exact hP _ hS
theorem KT {a0:List Span} {r:(Int×Bool)} (h:FA a0=some r) {F:List It} {H:J} (hS:aD H (F)) {P:AV→J→Prop} (hP: ∀H',aD H' (F)→P (.ay [.int .i64 r.1,.bool r.2]) H'):aq C 106 [.fz (a0.map Dy)] H P:=by
 refine B0 gC (res:=[.tmp 2,.tmp 3]) (n:=9) rfl rfl rfl rfl fun K0 DA=> ?_;simp only [W,Nat.reduceSub,Nat.reduceAdd,List.replicate];unfold FA at h;refine BD fun K1 DB=> ?_;refine BX gC ?_;try simp only [W,Nat.reduceAdd]
 refine BK DB ?_;refine BD fun K2 zB=> ?_;refine BD fun K3 DI=> ?_;refine BX gC ?_;try simp only [W,Nat.reduceAdd]
 refine Cc h fun Eu F4 h=> ?_;refine Gs F4 hS fun H hS=> ?_;try simp only [W]
 refine BK DI ?_;refine BI ?_;simp only [W];refine BW h (fun hc h=> ?_) (fun hc h=> ?_)
 ·refine BD fun K5 DR=> ?_;refine BX gC ?_;try simp only [W,Nat.reduceAdd]
  refine BK DR ?_;refine BG ?_;refine BL zB ?_;refine BU DA rfl rfl ?_;try obtain rfl:=Option.some.inj h
  exact hP _ hS
 ·refine BF ?_;refine BK zB ?_;refine BD fun K6 ES=> ?_;refine BX gC ?_;try simp only [W,Nat.reduceAdd]
  refine Cc h fun DK JY h=> ?_;refine Mn JY hS fun H hS=> ?_;try simp only [W]
  refine BK ES ?_;refine BG ?_;refine BU DA rfl rfl ?_;try obtain rfl:=Option.some.inj h
  exact hP _ hS
theorem Oa {a0:List Int} {r:(Int)} (h:Il a0=some r) {F:List It} {H:J} (hS:aD H (F)) {P:AV→J→Prop} (hP: ∀H',aD H' (F)→P (.int .i64 r) H'):aq C 88 [.fz (a0.map (AV.int .u8))] H P:=by
 refine B0 gC (res:=[.tmp 2]) (n:=20) rfl rfl rfl rfl fun K0 DA=> ?_;simp only [W,Nat.reduceSub,Nat.reduceAdd,List.replicate];unfold Il at h;refine BD fun K1 DB=> ?_;refine BX gC ?_;try simp only [W,Nat.reduceAdd]
 refine BK DB ?_;refine BD fun K2 zB=> ?_;refine BX gC ?_;try simp only [W,Nat.reduceAdd]
 refine BK zB ?_;refine BD fun K3 DI=> ?_;refine BD fun K4 DG=> ?_;refine BX gC ?_;try simp only [W,EE,Nat.reduceAdd]
 refine BK DG ?_;obtain ⟨F6,F7,g15⟩:=Option.bind_eq_some_iff.1 h;refine Ch gC (fun s H=> ∃DO:Int,F6=(DO)∧s=[u,u,u,.int .i64 DO,u,u,u,u,u,u,u,u,u,u,u,u,u,u,u,u]∧aD H (F)) (fun F3 D7=> ?_) (fun s H hq=> ?_)
 ·refine BE fun Gl Ep=> ?_;refine Cd gC F7 (fun x s H=>match x with|(DE,DF)=>s=[u,u,u,.int .i64 DE,u,u,.fz (a0.map (AV.int .u8)),.int .i64 (a0.length:Int),.int .i64 DF,u,u,u,u,u,u,u,u,u,u,u]∧aD H (F)) ⟨rfl,hS⟩ (fun x F8 s H h FF hi Gm D6=> ?_)
  obtain ⟨DE,DF⟩:=x;try dsimp only at hi
  obtain ⟨rfl,hS⟩:=hi;simp only [Km] at h;refine BD fun F2 Eb=> ?_;refine BX gC ?_;try simp only [W,EE,Nat.reduceAdd]
  refine BK Eb ?_;refine BD fun FM DY=> ?_;refine BI ?_;simp only [W];refine BW h (fun hc h=> ?_) (fun hc h=> ?_)
  ·refine BF ?_;refine BK DY ?_;refine BD fun FN D1=> ?_;refine BE fun Gq Eh=> ?_;refine BD fun GL EA=> ?_;refine BX gC ?_;try simp only [W,EE,Nat.reduceAdd]
   refine B7 rfl rfl rfl (fun _=>rfl) h fun DN GM h=> ?_;try simp only [W,EE]
   refine BK EA ?_;refine BX gC ?_;try simp only [W,EE,Nat.reduceAdd]
   rw [B1 _ _ rfl,Option.map_some,sY];try simp only [W]
   refine BO Eh ?_;refine BK D1 ?_;refine BX gC ?_;try simp only [W,EE,Nat.reduceAdd]
   exact Ce D6 h ⟨rfl,hS⟩
  ·refine BH ?_;refine BM DY ?_;try obtain rfl:=Option.some.inj h
   obtain rfl:=FF _ rfl;have h:(some (DE):Option (Int))=some (DE):=rfl;refine Cf D6 ?_;refine BP Ep ?_;exact Ci D7 ⟨_,(Option.some.inj h).symm,rfl,hS⟩
 ·obtain ⟨DO,DC,rfl,hS⟩:=hq;obtain rfl:=DC.symm;replace h:=g15;try dsimp only at h
  refine BK DI ?_;refine BD fun F9 Ed=> ?_;refine BX gC ?_;try simp only [W,Nat.reduceAdd]
  refine BK Ed ?_;refine BG ?_;refine BT DA rfl ?_;try obtain rfl:=Option.some.inj h
  exact hP _ hS
theorem Q_ {a0:Span} {a1:Int} {i1:Nat} {w1:Nat} {r:(Bool)} (h:Kn a0 a1=some r) {F:List It} {H:J} (Ob:⟨.ptr i1 w1 0 0,1,[.int .i64 a1]⟩∈F) (hS:aD H (F)) {P:AV→J→Prop} (hP: ∀H',aD H' (F)→P (.bool r) H'):aq C 310 [.agg [.int .i64 a0.Dz,.int .i64 a0.To],.ptr i1 w1 0 0] H P:=by
 refine B0 gC (res:=[.tmp 3]) (n:=14) rfl rfl rfl rfl fun K0 DA=> ?_;simp only [W,Nat.reduceSub,Nat.reduceAdd,List.replicate];unfold Kn at h;refine BD fun K1 DB=> ?_;refine BX gC ?_;try simp only [W,Nat.reduceAdd]
 refine B3 hS rfl rfl rfl rfl fun DZ D0 H hS=> ?_;try simp only [W]
 refine BK DB ?_;refine BD fun K4 DG=> ?_;refine BX gC ?_;try simp only [W,EE,Nat.reduceAdd,Nat.reduceBEq,hS.Cr (List.mem_cons_of_mem _ (Ob)),hS.var 0 rfl]
 refine Cz h (fun hc h=> ?_) (fun hc h=> ?_)
 ·try simp only [W,EE,reduceIte,Nat.reduceAdd,Nat.reduceBEq,hS.Cr (List.mem_cons_of_mem _ (Ob)),hS.var 0 rfl,hc]
  refine BK DG ?_;refine BG ?_;refine BT DA rfl ?_;try obtain rfl:=Option.some.inj h
  exact hP _ (hS.Cv 1 [] (by decide))
 ·try simp only [W,hc]
  refine BK DG ?_;refine BG ?_;refine BT DA rfl ?_;try obtain rfl:=Option.some.inj h
  exact hP _ (hS.Cv 1 [] (by decide))
theorem Ra {a0:List Span} {g1:Span→Option Bool} {f1:FuncId} {c1:List AV} {r:(Int)} (h:Jt a0 g1=some r) {F:List It} {H:J} (cF: ∀{x0:Span} {r:Bool},g1 x0=some r→ ∀(L:List It) (n:Nat),L.drop n=F→ ∀(H:J),aD H L→ ∀(P:AV→J→Prop),(∀H',aD H' L→P (.bool r) H')→aq C f1 ([.agg [.int .i64 x0.Dz,.int .i64 x0.To]] ++ c1) H P) (hS:aD H (F)) {P:AV→J→Prop} (hP: ∀H',aD H' (F)→P (.int .i64 r) H'):aq C 335 [.fz (a0.map Dy),.fn f1 c1] H P:=by
 refine B0 gC (res:=[.tmp 4]) (n:=19) rfl rfl rfl rfl fun K0 DA=> ?_;simp only [W,Nat.reduceSub,Nat.reduceAdd,List.replicate];unfold Jt at h;refine BD fun K1 DB=> ?_;refine BX gC ?_;try simp only [W,Nat.reduceAdd]
 refine BK DB ?_;refine BD fun K2 zB=> ?_;refine BD fun K3 DI=> ?_;refine BX gC ?_;try simp only [W,EE,Nat.reduceAdd]
 refine BK DI ?_;obtain ⟨Ga,L6,g12⟩:=Option.bind_eq_some_iff.1 h;refine Ch gC (fun s H=>Ga=LR.next ()∧s=[u,u,u,u,u,u,u,u,u,u,u,u,u,u,u,u,u,u,u]∧aD H (F)) (fun K7 D8=> ?_) (fun s H hq=> ?_)
 ·refine BE fun K8 Ea=> ?_;refine Cd gC L6 (fun x s H=>s=[.fz (a0.map Dy),.fn f1 c1,u,u,u,u,u,.int .i64 (a0.length:Int),.int .i64 x,u,u,u,u,u,u,u,u,u,u]∧aD H (F)) ⟨rfl,hS⟩ (fun DP J2 s H h J3 hi K9 D3=> ?_)
  skip
  try dsimp only at hi
  obtain ⟨rfl,hS⟩:=hi;simp only [Lq] at h;refine BD fun Gn Ez=> ?_;refine BX gC ?_;try simp only [W,EE,Nat.reduceAdd]
  refine BK Ez ?_;refine BD fun Hd EQ=> ?_;refine BI ?_;simp only [W];refine BW h (fun hc h=> ?_) (fun hc h=> ?_)
  ·refine BF ?_;refine BK EQ ?_;refine BD fun Iz E1=> ?_;refine BE fun F2 Eb=> ?_;refine BD fun FM DY=> ?_;refine BX gC ?_;try simp only [W,Nat.reduceAdd]
   refine BK DY ?_;refine BD fun FN D1=> ?_;refine BX gC ?_;try simp only [W,EE,Nat.reduceAdd]
   refine B7 rfl rfl rfl (fun _=>rfl) h fun E_ IA h=> ?_;try simp only [W,EE,EN,reduceIte,Nat.reduceAdd,Nat.reduceLeDiff]
   refine Cc h fun FW LG h=> ?_;refine cF LG _ 0 rfl _ hS _ fun H hS=> ?_;try simp only [W]
   refine BK D1 ?_;refine BI ?_;simp only [W];refine BW h (fun hc h=> ?_) (fun hc h=> ?_)
   ·refine BD fun KN GS=> ?_;refine BX gC ?_;try simp only [W,Nat.reduceAdd]
    refine BK GS ?_;refine BG ?_;refine BR Eb ?_;refine BL E1 ?_;try obtain rfl:=Option.some.inj h
    obtain rfl:=J3 _ rfl;have h:(some (LR.done DP):Option (LR Unit (Int)))=some (LR.done DP):=rfl;refine Cg D3 ?_;refine BR Ea ?_;try obtain rfl:=Option.some.inj h
    obtain rfl:=Option.some.inj g12;have h:(some DP:Option (Int))=some DP:=rfl;refine Cj D8 ?_;refine BL zB ?_;refine BT DA rfl ?_;try obtain rfl:=Option.some.inj h
    exact hP _ hS
   ·refine BF ?_;refine BO Eb ?_;refine BK E1 ?_;refine BX gC ?_;try simp only [W,EE,Nat.reduceAdd]
    exact Ce D3 h ⟨rfl,hS⟩
  ·refine BH ?_;refine BM EQ ?_;try obtain rfl:=Option.some.inj h
   obtain rfl:=J3 _ rfl;have h:(some (LR.next ()):Option (LR Unit (Int)))=some (LR.next ()):=rfl
   refine Cf D3 ?_;refine BP Ea ?_;exact Ci D8 ⟨(Option.some.inj h).symm,rfl,hS⟩
 ·obtain ⟨rfl,rfl,hS⟩:=hq;replace h:=g12;try dsimp only at h
  refine BK zB ?_;refine BD fun LN Gt=> ?_;refine BX gC ?_;try simp only [W,Nat.reduceAdd]
  refine BK Gt ?_;refine BG ?_;refine BT DA rfl ?_;try obtain rfl:=Option.some.inj h
  exact hP _ hS
theorem Rb {a0:List Span} {g1:Span→Option Bool} {f1:FuncId} {c1:List AV} {r:(Bool)} (h:Ju a0 g1=some r) {F:List It} {H:J} (cF: ∀{x0:Span} {r:Bool},g1 x0=some r→ ∀(L:List It) (n:Nat),L.drop n=F→ ∀(H:J),aD H L→ ∀(P:AV→J→Prop),(∀H',aD H' L→P (.bool r) H')→aq C f1 ([.agg [.int .i64 x0.Dz,.int .i64 x0.To]] ++ c1) H P) (hS:aD H (F)) {P:AV→J→Prop} (hP: ∀H',aD H' (F)→P (.bool r) H'):aq C 309 [.fz (a0.map Dy),.fn f1 c1] H P:=by
 refine B0 gC (res:=[.tmp 4]) (n:=9) rfl rfl rfl rfl fun K0 DA=> ?_;simp only [W,Nat.reduceSub,Nat.reduceAdd,List.replicate];unfold Ju at h;refine BD fun K1 DB=> ?_;refine BX gC ?_;try simp only [W,Nat.reduceAdd]
 refine BK DB ?_;refine BD fun K2 zB=> ?_;refine BX gC ?_;try simp only [W,Nat.reduceAdd]
 refine Cc h fun b3 kH h=> ?_;refine Ra kH cF hS fun H hS=> ?_;try simp only [W,EE]
 refine BK zB ?_;refine BG ?_;refine BT DA rfl ?_;try obtain rfl:=Option.some.inj h
 exact hP _ hS
theorem Rc {a0:List Span} {a1:Int} {r:(Bool)} (h:Jv a0 a1=some r) {F:List It} {H:J} (hS:aD H (F)) {P:AV→J→Prop} (hP: ∀H',aD H' (F)→P (.bool r) H'):aq C 241 [.fz (a0.map Dy),.int .i64 a1] H P:=by
 refine B0 gC (res:=[.tmp 4]) (n:=8) rfl rfl rfl rfl fun K0 DA=> ?_;simp only [W,Nat.reduceSub,Nat.reduceAdd,List.replicate];unfold Jv at h;refine BD fun K1 DB=> ?_;refine BX gC ?_;try simp only [W,Nat.reduceAdd]
 refine B3 hS rfl rfl rfl rfl fun DZ D0 H hS=> ?_;try simp only [W]
 refine BK DB ?_;refine BD fun K4 DG=> ?_;refine BX gC ?_;try simp only [W,Nat.reduceAdd]
 refine Cc h fun Fe Mo h=> ?_;refine Rb Mo (fun h _ n hL _ hS _ hP=>Q_ h (Cw hL (List.mem_of_getElem? (i:=0) rfl)) hS hP) hS fun H hS=> ?_;try simp only [W]
 refine BK DG ?_;refine BG ?_;refine BT DA rfl ?_;try obtain rfl:=Option.some.inj h
 exact hP _ (hS.Cv 1 [] (by decide))
theorem IP {a0:List Span} {a1:Int} {r:(Bool×Bool)} (h:E0 a0 a1=some r) {F:List It} {H:J} (hS:aD H (F)) {P:AV→J→Prop} (hP: ∀H',aD H' (F)→P (.ay [.bool r.1,.bool r.2]) H'):aq C 103 [.fz (a0.map Dy),.int .i64 a1] H P:=by
 refine B0 gC (res:=[.tmp 4,.tmp 5]) (n:=12) rfl rfl rfl rfl fun K0 DA=> ?_;simp only [W,Nat.reduceSub,Nat.reduceAdd,List.replicate];unfold E0 at h;refine BD fun K1 DB=> ?_;refine BX gC ?_;try simp only [W,Nat.reduceAdd]
 refine BK DB ?_;refine BD fun K2 zB=> ?_;refine BD fun K3 DI=> ?_;refine BX gC ?_;try simp only [W,Nat.reduceAdd]
 refine Cc h fun Eu F4 h=> ?_;refine Gs F4 hS fun H hS=> ?_;try simp only [W]
 refine BK DI ?_;refine BI ?_;simp only [W];refine BW h (fun hc h=> ?_) (fun hc h=> ?_)
 ·refine BD fun K5 DR=> ?_;refine BX gC ?_;try simp only [W,Nat.reduceAdd]
  refine BK DR ?_;refine BG ?_;refine BL zB ?_;refine BU DA rfl rfl ?_;try obtain rfl:=Option.some.inj h
  exact hP _ hS
 ·refine BF ?_;refine BK zB ?_;refine BD fun K6 ES=> ?_;refine BX gC ?_;try simp only [W,Nat.reduceAdd]
  refine Cc h fun DK JY h=> ?_;refine Rc JY hS fun H hS=> ?_;try simp only [W]
  refine BK ES ?_;refine BG ?_;refine BU DA rfl rfl ?_;try obtain rfl:=Option.some.inj h
  exact hP _ hS
theorem Mp {a0:DM} {a1:List Int} {i0:Nat} {w0:Nat} {r:(Int×DM)} (h:Ha a0 a1=some r) {F:List It} {H:J} (hS:aD H (⟨.ptr i0 w0 0 0,3,[.agg [.fz (a0.Code.map (AV.int .u8)),.int .i64 a0.At,.int .u64 a0.D4]]⟩::F)) {P:AV→J→Prop} (hP: ∀H',aD H' (⟨.ptr i0 w0 0 0,3,[.agg [.fz (r.2.Code.map (AV.int .u8)),.int .i64 r.2.At,.int .u64 r.2.D4]]⟩::F)→P (.int .i64 r.1) H'):aq C 163 [.ptr i0 w0 0 0,.fz (a1.map (AV.int .i64))] H P:=by
 refine B0 gC (res:=[.tmp 4]) (n:=12) rfl rfl rfl rfl fun K0 DA=> ?_;simp only [W,Nat.reduceSub,Nat.reduceAdd,List.replicate];unfold Ha at h;refine BD fun K1 DB=> ?_;refine BX gC ?_;try simp only [W,Nat.reduceAdd]
 refine BK DB ?_;refine BD fun K2 zB=> ?_;refine BX gC ?_;try simp only [W,EE,Nat.reduceAdd]
 refine Cc h fun b3 kH h=> ?_;obtain ⟨Eu,Fe⟩:=b3;try dsimp only at h
 refine GJ kH hS fun H hS=> ?_;try simp only [W,EE]
 refine B7 rfl rfl rfl (fun _=>rfl) h fun Ff Gp h=> ?_;try simp only [W,EE]
 refine BK zB ?_;refine BG ?_;refine BT DA rfl ?_;try obtain rfl:=Option.some.inj h
 exact hP _ hS
theorem Re {a0:List Int} {r:(List Span×Int)} (h:Jw a0=some r) {F:List It} {H:J} (hS:aD H (F)) {P:AV→J→Prop} (hP: ∀Fu:AV,bJ Fu→ ∀H',aD H' (⟨Fu,2,r.1.map Dy⟩::F)→P (.ay [Fu,.int .i64 r.2]) H'):aq C 115 [.fz (a0.map (AV.int .u8))] H P:=by
 refine B0 gC (res:=[.tmp 2,.tmp 3]) (n:=13) rfl rfl rfl rfl fun K0 DA=> ?_;simp only [W,Nat.reduceSub,Nat.reduceAdd,List.replicate];unfold Jw at h;refine BD fun K1 DB=> ?_;refine BX gC ?_;try simp only [W,Nat.reduceAdd]
 refine BK DB ?_;refine BD fun K2 zB=> ?_;refine BX gC ?_;try simp only [W,EE,Nat.reduceAdd]
 refine CA rfl rfl rfl rfl rfl ?_;try simp only [W]
 refine B3 hS rfl rfl rfl rfl fun PQ PR H hS=> ?_;try simp only [W]
 refine BK zB ?_;refine BD fun K5 DR=> ?_;refine BY (fz:=[(4,[([11],[.sl [.sc]])])]) gC ?_;try simp only [W,Nat.reduceAdd,Nat.reduceBEq]
 refine Cc h fun Ff Gp h=> ?_;obtain ⟨DK,DT⟩:=Ff;try dsimp only at h
 refine Kz Gp hS fun v9 Gr H hS=> ?_;try simp only [W,Nat.reduceAdd,Nat.reduceBEq]
 refine Cb (el:=([-1,0,5,20,40,1000000,1000001]:List Int).map (AV.int .i64)) hS rfl rfl rfl rfl rfl rfl rfl fun v11 H E6 hS=> ?_;try simp only [W,Nat.reduceAdd]
 refine Cs 0 hS rfl E6 rfl (fun _ _=>by simp [aY,aQ,du]) (fun _=>rfl) fun H rO hS=> ?_
 try simp only [W]
 refine Cc h fun ED HS h=> ?_;obtain ⟨EO,Eg⟩:=ED;try dsimp only at h
 refine Mp HS (hS.Cv 2 [1,0] (by decide)) fun H hS=> ?_
 try simp only [W,Nat.reduceAdd,Nat.reduceBEq]
 refine BK DR ?_;refine BG ?_;refine BU DA rfl rfl ?_;try obtain rfl:=Option.some.inj h
 exact hP _ Gr _ (hS.Cv 2 [1] (by decide))
theorem Rf {a0:Int} {a1:Int} {a2:Int} {r:(Bool)} (h:Jx a0 a1 a2=some r) {F:List It} {H:J} (hS:aD H (F)) {P:AV→J→Prop} (hP: ∀H',aD H' (F)→P (.bool r) H'):aq C 157 [.int .i64 a0,.int .i64 a1,.int .i64 a2] H P:=by
 refine B0 gC (res:=[.tmp 6]) (n:=15) rfl rfl rfl rfl fun K0 DA=> ?_;simp only [W,Nat.reduceSub,Nat.reduceAdd,List.replicate];unfold Jx at h;refine BD fun K1 DB=> ?_;refine BX gC ?_;try simp only [W,Nat.reduceAdd]
 refine BK DB ?_;refine BD fun K2 zB=> ?_;refine BX gC ?_;try simp only [W,EE,Nat.reduceAdd]
 refine Cz h (fun hc h=> ?_) (fun hc h=> ?_)
 ·try simp only [W,EE,reduceIte,hc]
  refine BK zB ?_;refine BG ?_;refine BT DA rfl ?_;try obtain rfl:=Option.some.inj h
  exact hP _ hS
 ·try simp only [W,hc]
  refine BK zB ?_;refine BG ?_;refine BT DA rfl ?_;try obtain rfl:=Option.some.inj h
  exact hP _ hS
theorem Oc {a0:List Span} {a1:Int} {r:(List Span)} (h:Im a0 a1=some r) {F:List It} {H:J} (hS:aD H (F)) {P:AV→J→Prop} (hP: ∀v55:AV,bJ v55→ ∀H',aD H' (⟨v55,2,r.map Dy⟩::F)→P (v55) H'):aq C 252 [.fz (a0.map Dy),.int .i64 a1] H P:=by
 refine B0 gC (res:=[.tmp 4]) (n:=42) rfl rfl rfl rfl fun K0 DA=> ?_;simp only [W,Nat.reduceSub,Nat.reduceAdd,List.replicate];unfold Im at h;refine BD fun K1 DB=> ?_;refine BX gC ?_;try simp only [W,Nat.reduceAdd]
 refine BK DB ?_;refine BD fun K2 zB=> ?_;refine BX gC ?_;try simp only [W,Nat.reduceAdd]
 refine Ca rfl rfl ?_;try simp only [W]
 refine BK zB ?_;refine BD fun K3 DI=> ?_;refine BD fun K4 DG=> ?_;refine BX gC ?_;try simp only [W,Nat.reduceAdd]
 refine Cc h fun Fe Mo h=> ?_;refine LV Mo hS fun v6 HR H hS=> ?_;try simp only [W,EE]
 refine CA rfl rfl rfl rfl rfl ?_;try simp only [W]
 refine Cb (el:=([(⟨a1,a1⟩:Span)]:List Span).map Dy) hS rfl rfl rfl rfl rfl rfl rfl fun GU H KQ hS=> ?_;try simp only [W,EE]
 refine Cq (l:=Fe) (c:=Dy) 1 hS rfl HR rfl rfl rfl (hS.ij 0 rfl KQ) (fun _=>rfl) rfl h fun v11 H DJ E6 hm h hS=> ?_;try simp only [W,EE]
 refine B_ 1 hS rfl E6 rfl ?_;try simp only [W]
 refine BK DG ?_;obtain ⟨L9,Rg,LM⟩:=Option.bind_eq_some_iff.1 h;refine Ch gC (fun s H=> ∃Jz:List Span,L9=(Jz)∧ ∃EI:AV,bJ EI∧s=[u,u,u,u,u,EI,u,u,u,u,u,u,u,u,u,u,u,u,u,u,u,u,u,u,u,u,u,u,u,u,u,u,u,u,u,u,u,u,u,u,u,u]∧aD H (⟨EI,2,Jz.map Dy⟩::F)) (fun IB Fh=> ?_) (fun s H hq=> ?_)
 ·refine BE fun He EY=> ?_;refine Cd gC Rg (fun x s H=>match x with|(DL,GF,Hz)=> ∃FQ:AV,bJ FQ∧s=[u,.int .i64 a1,u,u,u,FQ,.int .i64 GF,u,u,u,u,u,u,u,u,u,u,v11,.int .i64 (DJ.length:Int),.int .i64 Hz,u,u,u,u,u,u,u,u,u,u,u,u,u,u,u,u,u,u,u,u,u,u]∧aD H (⟨FQ,2,DL.map Dy⟩::⟨v11,2,DJ.map Dy⟩::F)) ⟨_,pQ,rfl,((hS.z8 2).Cv 3 [0,2] (by decide))⟩ (fun x NK s H h Rh hi F9 Ed=> ?_)
  obtain ⟨DL,GF,Hz⟩:=x;try dsimp only at hi
  obtain ⟨FQ,F5,rfl,hS⟩:=hi;simp only [Jy] at h;refine BD fun LN Gt=> ?_;refine BX gC ?_;try simp only [W,EE,Nat.reduceAdd]
  refine BK Gt ?_;refine BD fun NL Hh=> ?_;refine BI ?_;simp only [W];refine BW h (fun hc h=> ?_) (fun hc h=> ?_)
  ·refine BF ?_;refine BK Hh ?_;refine BD fun KE Gu=> ?_;refine BE fun KF GN=> ?_;refine BD fun PT LO=> ?_;refine BX gC ?_;try simp only [W,EE,Nat.reduceAdd]
   refine B8 1 hS rfl rfl rfl rfl rfl h (fun EX VD VE VF Ri h Rj=> ?_) E6.ne;obtain ⟨VG,Rk,Rl⟩:=hS.elem 1 rfl Rj Ri;try simp only [W,EE,EN,reduceIte,Nat.reduceAdd,Nat.reduceLeDiff,Rk,Rl]
   refine B4 hS rfl rfl fun Od Oe H hS=> ?_;try simp only [W]
   refine B5 (a:= .agg [.int .i64 EX.Dz,.int .i64 EX.To]) (y' := .agg [.int .i64 EX.Dz,.int .i64 EX.To]) 0 hS rfl rfl rfl rfl rfl rfl rfl rfl fun H hS=> ?_
   try simp only [W]
   refine BK LO ?_;refine BD fun Mb HQ=> ?_;refine BD fun LS GP=> ?_;refine BX gC ?_;try simp only [W,EE,Nat.reduceAdd,Nat.reduceBEq,hS.var 0 rfl]
   refine BK GP ?_;refine BD fun KD Fv=> ?_;refine BX gC ?_;try simp only [W,EE,Nat.reduceAdd]
   refine BK Fv ?_;obtain ⟨LY,h,LZ⟩:=Option.bind_eq_some_iff.1 h;refine Ch gC (fun s H=> ∃EC:List Span,LY=(EC)∧ ∃v41:AV,bJ v41∧s=[u,.int .i64 a1,u,u,u,v41,.int .i64 GF,u,.ptr Od Oe 0 0,u,u,u,u,u,u,u,u,v11,.int .i64 (DJ.length:Int),.int .i64 Hz,u,u,u,u,u,u,u,u,u,u,u,u,u,u,u,u,u,u,u,u,u,u]∧aD H (⟨v41,2,EC.map Dy⟩::⟨v11,2,DJ.map Dy⟩::⟨.ptr Od Oe 0 0,2,[.agg [.int .i64 EX.Dz,.int .i64 EX.To]]⟩::F)) (fun JV Ft=> ?_) (fun s H hq=> ?_)
   ·refine BD fun NT Hi=> ?_;refine BI ?_;simp only [W];refine BW h (fun hc h=> ?_) (fun hc h=> ?_)
    ·refine BX gC ?_;try simp only [W,EE,Nat.reduceAdd]
     refine CA rfl rfl rfl rfl rfl ?_;try simp only [W]
     refine Cb (el:=([(⟨GF,(if a1<EX.Dz then a1 else EX.Dz)⟩:Span)]:List Span).map Dy) hS rfl rfl rfl rfl rfl rfl rfl fun Gw H J8 hS=> ?_;try simp only [W,EE]
     refine Cq (l:=DL) (c:=Dy) 2 hS rfl F5 rfl rfl rfl (hS.ij 0 rfl J8) (fun _=>rfl) rfl h fun v50 H Nb Rm hm h hS=> ?_;try simp only [W]
     refine BK Hi ?_;refine BJ ?_;exact Ci Ft ⟨_,(Option.some.inj h).symm,_,Rm,rfl,(hS.Cv 4 [2,3,1] (by decide))⟩
    ·refine BF ?_;refine BK Hi ?_;refine BJ ?_;exact Ci Ft ⟨_,(Option.some.inj h).symm,_,F5,rfl,(hS.Cv 3 [1,2,0] (by decide))⟩
   ·obtain ⟨EC,DC,v41,KH,rfl,hS⟩:=hq;obtain rfl:=DC.symm;replace h:=LZ;try dsimp only at h
    refine BK HQ ?_;refine BX gC ?_;try simp only [W,EE,Nat.reduceAdd,Nat.reduceBEq,hS.var 2 rfl]
    refine BO GN ?_;refine BK Gu ?_;refine BX gC ?_;try simp only [W,EE,Nat.reduceAdd]
    exact Ce Ed h ⟨_,KH,rfl,(hS.Cv 3 [0,1] (by decide))⟩
  ·refine BH ?_;refine BM Hh ?_;try obtain rfl:=Option.some.inj h
   obtain rfl:=Rh _ rfl;have h:(some (DL):Option ((List Span)))=some (DL):=rfl;refine Cf Ed ?_;refine BP EY ?_;exact Ci Fh ⟨_,(Option.some.inj h).symm,_,F5,rfl,(hS.Cv 2 [0] (by decide))⟩
 ·obtain ⟨Jz,DC,EI,Fj,rfl,hS⟩:=hq;obtain rfl:=DC.symm;replace h:=LM;try dsimp only at h
  refine BK DI ?_;refine BD fun P5 LU=> ?_;refine BX gC ?_;try simp only [W,Nat.reduceAdd]
  refine BK LU ?_;refine BG ?_;refine BT DA rfl ?_;try obtain rfl:=Option.some.inj h
  exact hP _ Fj _ hS
theorem Rn {a0:List Span} {a1:Int} {r:(List Span×Bool)} (h:JA a0 a1=some r) {F:List It} {H:J} (hS:aD H (F)) {P:AV→J→Prop} (hP: ∀v21:AV,bJ v21→ ∀H',aD H' (⟨v21,2,r.1.map Dy⟩::F)→P (.ay [v21,.bool r.2]) H'):aq C 116 [.fz (a0.map Dy),.int .i64 a1] H P:=by
 refine B0 gC (res:=[.tmp 4,.tmp 5]) (n:=20) rfl rfl rfl rfl fun K0 DA=> ?_;simp only [W,Nat.reduceSub,Nat.reduceAdd,List.replicate];unfold JA at h;refine BD fun K1 DB=> ?_;refine BX gC ?_;try simp only [W,Nat.reduceAdd]
 refine BK DB ?_;refine BD fun K2 zB=> ?_;refine BD fun K3 DI=> ?_;obtain ⟨Ga,h,g6⟩:=Option.bind_eq_some_iff.1 h;refine Ch gC (fun s H=> ∃DP:Bool,Ga=(DP)∧s=[.fz (a0.map Dy),.int .i64 a1,u,u,u,u,u,u,u,u,u,u,u,.bool DP,u,u,u,u,u,u]∧aD H (F)) (fun K7 D8=> ?_) (fun s H hq=> ?_)
 ·refine BD fun K8 Ea=> ?_;refine BX gC ?_;try simp only [W,Nat.reduceAdd]
  refine Cc h fun EV GK h=> ?_;refine Gs GK hS fun H hS=> ?_;try simp only [W]
  refine Cz h (fun hc h=> ?_) (fun hc h=> ?_)
  ·try simp only [W,hc]
   refine BK Ea ?_;refine BJ ?_;exact Ci D8 ⟨_,(Option.some.inj h).symm,rfl,hS⟩
  ·try simp only [W,hc]
   refine Cc h fun Ef Hc h=> ?_;refine Rf Hc hS fun H hS=> ?_;try simp only [W,reduceIte,Bool.false_eq_true]
   refine BK Ea ?_;refine BJ ?_;exact Ci D8 ⟨_,(Option.some.inj h).symm,rfl,hS⟩
 ·obtain ⟨DP,DC,rfl,hS⟩:=hq;obtain rfl:=DC.symm;replace h:=g6;try dsimp only at h
  refine BK DI ?_;refine BI ?_;simp only [W];refine BW h (fun hc h=> ?_) (fun hc h=> ?_)
  ·refine BD fun Gl Ep=> ?_;refine BX gC ?_;try simp only [W,Nat.reduceAdd]
   refine BK Ep ?_;refine BG ?_;refine BL zB ?_;refine BU DA rfl rfl ?_;try obtain rfl:=Option.some.inj h
   exact hP _ pP _ (hS.z7 2)
  ·refine BF ?_;refine BK zB ?_;refine BD fun Gm D6=> ?_;refine BX gC ?_;try simp only [W,Nat.reduceAdd]
   refine Cc h fun ED HS h=> ?_;refine Oc HS hS fun FQ F5 H hS=> ?_;try simp only [W]
   refine Cc h fun Fa J9 h=> ?_;obtain ⟨Fs,D_⟩:=Fa;try dsimp only at h
   refine J0 J9 hS F5 fun EI Fj H hS=> ?_;try simp only [W]
   refine BK D6 ?_;refine BG ?_;refine BU DA rfl rfl ?_;try obtain rfl:=Option.some.inj h
   exact hP _ Fj _ hS
theorem Ro {a0:Int} {a1:Int} {a2:Int} {r:(Bool)} (h:JB a0 a1 a2=some r) {F:List It} {H:J} (hS:aD H (F)) {P:AV→J→Prop} (hP: ∀H',aD H' (F)→P (.bool r) H'):aq C 164 [.int .i64 a0,.int .i64 a1,.int .i64 a2] H P:=by
 refine B0 gC (res:=[.tmp 6]) (n:=15) rfl rfl rfl rfl fun K0 DA=> ?_;simp only [W,Nat.reduceSub,Nat.reduceAdd,List.replicate];unfold JB at h;refine BD fun K1 DB=> ?_;refine BX gC ?_;try simp only [W,Nat.reduceAdd]
 refine BK DB ?_;refine BD fun K2 zB=> ?_;refine BX gC ?_;try simp only [W,EE,Nat.reduceAdd]
 refine Cz h (fun hc h=> ?_) (fun hc h=> ?_)
 ·try simp only [W,EE,reduceIte,hc]
  refine BK zB ?_;refine BG ?_;refine BT DA rfl ?_;try obtain rfl:=Option.some.inj h
  exact hP _ hS
 ·try simp only [W,hc]
  refine BK zB ?_;refine BG ?_;refine BT DA rfl ?_;try obtain rfl:=Option.some.inj h
  exact hP _ hS
theorem Og {a0:List Span} {a1:Int} {r:(List Span)} (h:Io a0 a1=some r) {F:List It} {H:J} (hS:aD H (F)) {P:AV→J→Prop} (hP: ∀Mq:AV,bJ Mq→ ∀H',aD H' (⟨Mq,2,r.map Dy⟩::F)→P (Mq) H'):aq C 253 [.fz (a0.map Dy),.int .i64 a1] H P:=by
 refine B0 gC (res:=[.tmp 4]) (n:=43) rfl rfl rfl rfl fun K0 DA=> ?_;simp only [W,Nat.reduceSub,Nat.reduceAdd,List.replicate];unfold Io at h;refine BD fun K1 DB=> ?_;refine BX gC ?_;try simp only [W,Nat.reduceAdd]
 refine BK DB ?_;refine BD fun K2 zB=> ?_;refine BX gC ?_;try simp only [W,Nat.reduceAdd]
 refine BK zB ?_;refine BD fun K3 DI=> ?_;refine BX gC ?_;try simp only [W,Nat.reduceAdd]
 refine BK DI ?_;refine BD fun K4 DG=> ?_;refine BD fun K5 DR=> ?_;refine BX gC ?_;try simp only [W,EE,Nat.reduceAdd]
 refine BK DR ?_;obtain ⟨F8,L8,g21⟩:=Option.bind_eq_some_iff.1 h;refine Ch gC (fun s H=> ∃D5:List Span,∃DL:Int,F8=(D5,DL)∧ ∃v12:AV,bJ v12∧s=[u,.int .i64 a1,u,u,u,v12,.int .i64 DL,u,u,u,u,u,u,u,u,u,u,u,u,u,u,u,u,u,u,u,u,u,u,u,u,u,u,u,u,u,u,u,u,u,u,u,u]∧aD H (⟨v12,2,D5.map Dy⟩::F)) (fun F2 Eb=> ?_) (fun s H hq=> ?_)
 ·refine BE fun FM DY=> ?_;refine Cd gC L8 (fun x s H=>match x with|(DF,DX,DJ)=> ∃KU:AV,bJ KU∧s=[u,.int .i64 a1,u,u,u,KU,.int .i64 DX,u,u,.fz (a0.map Dy),.int .i64 (a0.length:Int),.int .i64 DJ,u,u,u,u,u,u,u,u,u,u,u,u,u,u,u,u,u,u,u,u,u,u,u,u,u,u,u,u,u,u,u]∧aD H (⟨KU,2,DF.map Dy⟩::F)) ⟨_,pP,rfl,(hS.z7 2)⟩ (fun x L9 s H h KP hi FN D1=> ?_)
  obtain ⟨DF,DX,DJ⟩:=x;try dsimp only at hi
  obtain ⟨KU,KV,rfl,hS⟩:=hi;simp only [JC] at h;refine BD fun IB Fh=> ?_;refine BX gC ?_;try simp only [W,EE,Nat.reduceAdd]
  refine BK Fh ?_;refine BD fun He EY=> ?_;refine BI ?_;simp only [W];refine BW h (fun hc h=> ?_) (fun hc h=> ?_)
  ·refine BF ?_;refine BK EY ?_;refine BD fun F9 Ed=> ?_;refine BE fun KK FH=> ?_;refine BD fun HL E2=> ?_;refine BX gC ?_;try simp only [W,EE,Nat.reduceAdd]
   refine B7 rfl rfl rfl (fun _=>rfl) h fun DV KO h=> ?_;try simp only [W,EE,EN,reduceIte,Nat.reduceAdd,Nat.reduceLeDiff]
   refine B4 hS rfl rfl fun Oh Oi H hS=> ?_;try simp only [W]
   refine B5 (a:= .agg [.int .i64 DV.Dz,.int .i64 DV.To]) (y' := .agg [.int .i64 DV.Dz,.int .i64 DV.To]) 0 hS rfl rfl rfl rfl rfl rfl rfl rfl fun H hS=> ?_
   try simp only [W]
   refine BK E2 ?_;refine BD fun KE Gu=> ?_;refine BD fun KF GN=> ?_;refine BX gC ?_;try simp only [W,EE,Nat.reduceAdd,Nat.reduceBEq,hS.var 0 rfl]
   refine BK GN ?_;refine BI ?_;simp only [W];refine BW h (fun hc h=> ?_) (fun hc h=> ?_)
   ·refine BH ?_;refine BM Gu ?_;refine BQ FH (by decide) ?_
    refine BM Ed ?_;try obtain rfl:=Option.some.inj h
    obtain rfl:=KP _ rfl;have h:(some (DF,DX):Option ((List Span)×Int))=some (DF,DX):=rfl;refine Cf D1 ?_;refine BP DY ?_;exact Ci Eb ⟨_,_,(Option.some.inj h).symm,_,KV,rfl,(hS.Cv 2 [1] (by decide))⟩
   ·refine BF ?_;refine BK Gu ?_;refine BD fun KG Gv=> ?_;refine BD fun Oj Ka=> ?_;refine BX gC ?_;try simp only [W,EE,Nat.reduceAdd,Nat.reduceBEq,hS.var 0 rfl]
    refine BK Ka ?_;obtain ⟨Rp,h,Rq⟩:=Option.bind_eq_some_iff.1 h;refine Ch gC (fun s H=> ∃Ev:List Span,Rp=(Ev)∧ ∃v37:AV,bJ v37∧s=[u,.int .i64 a1,u,u,u,v37,u,u,.ptr Oh Oi 0 0,.fz (a0.map Dy),.int .i64 (a0.length:Int),.int .i64 DJ,u,u,u,u,u,u,u,u,u,u,u,u,u,u,u,u,u,u,u,u,u,u,u,u,u,u,u,u,u,u,u]∧aD H (⟨v37,2,Ev.map Dy⟩::⟨.ptr Oh Oi 0 0,2,[.agg [.int .i64 DV.Dz,.int .i64 DV.To]]⟩::F)) (fun Qf KL=> ?_) (fun s H hq=> ?_)
    ·refine BD fun N6 IM=> ?_;refine BI ?_;simp only [W];refine BW h (fun hc h=> ?_) (fun hc h=> ?_)
     ·refine BX gC ?_;try simp only [W,EE,Nat.reduceAdd,Nat.reduceBEq,hS.var 0 rfl]
      refine CA rfl rfl rfl rfl rfl ?_;try simp only [W]
      refine Cb (el:=([(⟨DX,DV.Dz⟩:Span)]:List Span).map Dy) hS rfl rfl rfl rfl rfl rfl rfl fun VH H Rr hS=> ?_;try simp only [W,EE]
      refine Cq (l:=DF) (c:=Dy) 2 hS rfl KV rfl rfl rfl (hS.ij 0 rfl Rr) (fun _=>rfl) rfl h fun v46 H GC Rs hm h hS=> ?_;try simp only [W]
      refine BK IM ?_;refine BJ ?_;exact Ci KL ⟨_,(Option.some.inj h).symm,_,Rs,rfl,(hS.Cv 3 [2,1] (by decide))⟩
     ·refine BF ?_;refine BK IM ?_;refine BJ ?_;exact Ci KL ⟨_,(Option.some.inj h).symm,_,KV,rfl,(hS.Cv 2 [1,0] (by decide))⟩
    ·obtain ⟨Ev,DC,v37,ID,rfl,hS⟩:=hq;obtain rfl:=DC.symm;replace h:=Rq;try dsimp only at h
     refine BK Gv ?_;refine BX gC ?_;try simp only [W,EE,Nat.reduceAdd,Nat.reduceBEq,hS.var 1 rfl]
     refine BO FH ?_;refine BK Ed ?_;refine BX gC ?_;try simp only [W,EE,Nat.reduceAdd]
     exact Ce D1 h ⟨_,ID,rfl,(hS.Cv 2 [0] (by decide))⟩
  ·refine BH ?_;refine BM EY ?_;try obtain rfl:=Option.some.inj h
   obtain rfl:=KP _ rfl;have h:(some (DF,DX):Option ((List Span)×Int))=some (DF,DX):=rfl;refine Cf D1 ?_;refine BP DY ?_;exact Ci Eb ⟨_,_,(Option.some.inj h).symm,_,KV,rfl,hS⟩
 ·obtain ⟨D5,DL,rfl,v12,IF,rfl,hS⟩:=hq;replace h:=g21;try dsimp only at h
  refine BK DG ?_;refine BD fun JW FP=> ?_;refine BD fun JX FD=> ?_;refine BX gC ?_;try simp only [W,EE,Nat.reduceAdd]
  refine BK FD ?_;obtain ⟨Rt,h,Ru⟩:=Option.bind_eq_some_iff.1 h;refine Ch gC (fun s H=> ∃JD:List Span,Rt=(JD)∧ ∃v53:AV,bJ v53∧s=[u,u,u,u,u,v53,u,u,u,u,u,u,u,u,u,u,u,u,u,u,u,u,u,u,u,u,u,u,u,u,u,u,u,u,u,u,u,u,u,u,u,u,u]∧aD H (⟨v53,2,JD.map Dy⟩::F)) (fun LI Hg=> ?_) (fun s H hq=> ?_)
  ·refine BD fun NO IH=> ?_;refine BI ?_;simp only [W];refine BW h (fun hc h=> ?_) (fun hc h=> ?_)
   ·refine BX gC ?_;try simp only [W,EE,Nat.reduceAdd]
    refine CA rfl rfl rfl rfl rfl ?_;try simp only [W]
    refine Cb (el:=([(⟨DL,a1⟩:Span)]:List Span).map Dy) hS rfl rfl rfl rfl rfl rfl rfl fun v59 H Rv hS=> ?_;try simp only [W,EE]
    refine Cq (l:=D5) (c:=Dy) 1 hS rfl IF rfl rfl rfl (hS.ij 0 rfl Rv) (fun _=>rfl) rfl h fun GQ H G_ Mm hm h hS=> ?_;try simp only [W]
    refine BK IH ?_;refine BJ ?_;exact Ci Hg ⟨_,(Option.some.inj h).symm,_,Mm,rfl,(hS.Cv 2 [1] (by decide))⟩
   ·refine BF ?_;refine BK IH ?_;refine BJ ?_;exact Ci Hg ⟨_,(Option.some.inj h).symm,_,IF,rfl,hS⟩
  ·obtain ⟨JD,DC,v53,Rw,rfl,hS⟩:=hq;obtain rfl:=DC.symm;replace h:=Ru;try dsimp only at h
   refine BK FP ?_;refine BD fun N4 IL=> ?_;refine BX gC ?_;try simp only [W,Nat.reduceAdd]
   refine BK IL ?_;refine BG ?_;refine BT DA rfl ?_;try obtain rfl:=Option.some.inj h
   exact hP _ Rw _ hS
theorem Rx {a0:List Span} {a1:Int} {r:(List Span×Bool)} (h:JE a0 a1=some r) {F:List It} {H:J} (hS:aD H (F)) {P:AV→J→Prop} (hP: ∀H',aD H' (F)→P (.ay [.fz (r.1.map Dy),.bool r.2]) H'):aq C 117 [.fz (a0.map Dy),.int .i64 a1] H P:=by
 refine B0 gC (res:=[.tmp 4,.tmp 5]) (n:=20) rfl rfl rfl rfl fun K0 DA=> ?_;simp only [W,Nat.reduceSub,Nat.reduceAdd,List.replicate];unfold JE at h;refine BD fun K1 DB=> ?_;refine BX gC ?_;try simp only [W,Nat.reduceAdd]
 refine BK DB ?_;refine BD fun K2 zB=> ?_;refine BD fun K3 DI=> ?_;obtain ⟨Ga,h,g6⟩:=Option.bind_eq_some_iff.1 h;refine Ch gC (fun s H=> ∃DP:Bool,Ga=(DP)∧s=[.fz (a0.map Dy),.int .i64 a1,u,u,u,u,u,u,u,u,u,u,u,.bool DP,u,u,u,u,u,u]∧aD H (F)) (fun K7 D8=> ?_) (fun s H hq=> ?_)
 ·refine BD fun K8 Ea=> ?_;refine BX gC ?_;try simp only [W,Nat.reduceAdd]
  refine Cc h fun EV GK h=> ?_;refine IK GK hS fun H hS=> ?_;try simp only [W]
  refine Cz h (fun hc h=> ?_) (fun hc h=> ?_)
  ·try simp only [W,hc]
   refine BK Ea ?_;refine BJ ?_;exact Ci D8 ⟨_,(Option.some.inj h).symm,rfl,hS⟩
  ·try simp only [W,hc]
   refine Cc h fun Ef Hc h=> ?_;refine Ro Hc hS fun H hS=> ?_;try simp only [W,reduceIte,Bool.false_eq_true]
   refine BK Ea ?_;refine BJ ?_;exact Ci D8 ⟨_,(Option.some.inj h).symm,rfl,hS⟩
 ·obtain ⟨DP,DC,rfl,hS⟩:=hq;obtain rfl:=DC.symm;replace h:=g6;try dsimp only at h
  refine BK DI ?_;refine BI ?_;simp only [W];refine BW h (fun hc h=> ?_) (fun hc h=> ?_)
  ·refine BD fun Gl Ep=> ?_;refine BD fun Gm D6=> ?_;refine BX gC ?_;try simp only [W,Nat.reduceAdd]
   refine BK D6 ?_;refine Cu ?_;refine Ct rfl ?_;simp only [W];refine BK Ep ?_;refine BG ?_;refine BL zB ?_;refine BU DA rfl rfl ?_;try obtain rfl:=Option.some.inj h
   exact hP _ hS
  ·refine BF ?_;refine BK zB ?_;refine BD fun Gn Ez=> ?_;refine BY (fz:=[(3,[([16],[.sl [.sc,.sc]])])]) gC ?_;try simp only [W,Nat.reduceAdd,Nat.reduceBEq]
   refine Cc h fun EO Mr h=> ?_;refine Og Mr hS fun HN HO H hS=> ?_;try simp only [W,Nat.reduceAdd]
   refine Cs 0 hS rfl HO rfl (fun _ _=>by simp [aY,aQ,cx,du,Dy]) (fun _=>rfl) fun H rO hS=> ?_
   try simp only [W]
   refine Cc h fun Fs Kb h=> ?_;obtain ⟨D_,E_⟩:=Fs;try dsimp only at h
   refine J6 Kb hS fun H hS=> ?_;try simp only [W,Nat.reduceAdd,Nat.reduceBEq]
   refine BK Ez ?_;refine BG ?_;refine BU DA rfl rfl ?_;try obtain rfl:=Option.some.inj h
   exact hP _ hS
theorem Ry {a0:DM} {i0:Nat} {w0:Nat} {r:(Span×DM)} (h:JF a0=some r) {F:List It} {H:J} (hS:aD H (⟨.ptr i0 w0 0 0,3,[.agg [.fz (a0.Code.map (AV.int .u8)),.int .i64 a0.At,.int .u64 a0.D4]]⟩::F)) {P:AV→J→Prop} (hP: ∀H',aD H' (⟨.ptr i0 w0 0 0,3,[.agg [.fz (r.2.Code.map (AV.int .u8)),.int .i64 r.2.At,.int .u64 r.2.D4]]⟩::F)→P (.agg [.int .i64 r.1.Dz,.int .i64 r.1.To]) H'):aq C 232 [.ptr i0 w0 0 0] H P:=by
 refine B0 gC (res:=[.cell 2 104]) (n:=22) rfl rfl rfl rfl fun K0 DA=> ?_;simp only [W,Nat.reduceSub,Nat.reduceAdd,List.replicate];unfold JF at h;refine BD fun K1 DB=> ?_;refine BX gC ?_;try simp only [W,Nat.reduceAdd]
 refine B4 hS rfl rfl fun DZ D0 H hS=> ?_;try simp only [W]
 refine BK DB ?_;refine BD fun K4 DG=> ?_;refine BD fun K5 DR=> ?_;refine BX gC ?_;try simp only [W,Nat.reduceAdd]
 refine Cc h fun Ff Gp h=> ?_;obtain ⟨DK,DT⟩:=Ff;try dsimp only at h
 refine LD Gp (hS.Cv 2 [1,0] (by decide)) fun H hS=> ?_
 try simp only [W]
 refine BK DR ?_;refine BI ?_;simp only [W];refine BW h (fun hc h=> ?_) (fun hc h=> ?_)
 ·refine BD fun K9 D3=> ?_;refine BY (fz:=[(2,[([7],[.sl [.sc]])]),(5,[([10],[.sl [.sc]])])]) gC ?_;try simp only [W,Nat.reduceAdd,Nat.reduceBEq]
  refine Cb (el:=([-1,5,999999]:List Int).map (AV.int .i64)) hS rfl rfl rfl rfl rfl rfl rfl fun v10 H Hj hS=> ?_;try simp only [W,Nat.reduceAdd]
  refine Cs 0 hS rfl Hj rfl (fun _ _=>by simp [aY,aQ,du]) (fun _=>rfl) fun H rO hS=> ?_
  try simp only [W]
  refine Cc h fun Ew GV h=> ?_;obtain ⟨ED,EO⟩:=Ew;try dsimp only at h
  refine Mp GV hS fun H hS=> ?_;try simp only [W,Nat.reduceAdd,Nat.reduceBEq]
  refine Cb (el:=([0,5,1000000,1000001]:List Int).map (AV.int .i64)) hS rfl rfl rfl rfl rfl rfl rfl fun HN H HO hS=> ?_;try simp only [W,Nat.reduceAdd,Nat.reduceBEq]
  refine Cs 0 hS rfl HO rfl (fun _ _=>by simp [aY,aQ,du]) (fun _=>rfl) fun H rO hS=> ?_
  try simp only [W]
  refine Cc h fun Fs Kb h=> ?_;obtain ⟨D_,E_⟩:=Fs;try dsimp only at h
  refine Mp Kb hS fun H hS=> ?_;try simp only [W,EE,Nat.reduceAdd,Nat.reduceBEq]
  refine CA rfl rfl rfl rfl rfl ?_;try simp only [W,Nat.reduceAdd,Nat.reduceBEq]
  refine B5 (a:= .agg [.int .i64 ED,.int .i64 D_]) (y' := .agg [.int .i64 ED,.int .i64 D_]) 1 hS rfl rfl rfl rfl rfl rfl rfl rfl fun H hS=> ?_
  try simp only [W,Nat.reduceAdd]
  refine BK D3 ?_;refine BG ?_;refine BL DG ?_;refine BS DA (Cx rfl rfl (hS.var 1 rfl) rfl rfl) ?_;try obtain rfl:=Option.some.inj h
  exact hP _ (hS.Cv 2 [0] (by decide))
 ·refine BF ?_;refine BK DG ?_;refine BD fun GL EA=> ?_;refine BX gC ?_;try simp only [W,Nat.reduceAdd]
  refine Cc h fun DN GM h=> ?_;obtain ⟨Ek,FY⟩:=DN;try dsimp only at h
  refine GJ GM hS fun H hS=> ?_;try simp only [W]
  refine BK EA ?_;refine BD fun F9 Ed=> ?_;refine BX gC ?_;try simp only [W,EE,Nat.reduceAdd]
  refine Cc h fun E9 IG h=> ?_;obtain ⟨D9,DV⟩:=E9;try dsimp only at h
  refine GJ IG hS fun H hS=> ?_;try simp only [W,EE]
  refine CA rfl rfl rfl rfl rfl ?_;try simp only [W]
  refine B5 (a:= .agg [.int .i64 Ek,.int .i64 (IntKind.i64.wrap ((IntKind.i64.wrap (Ek+1))+D9))]) (y' := .agg [.int .i64 Ek,.int .i64 (IntKind.i64.wrap ((IntKind.i64.wrap (Ek+1))+D9))]) 1 hS rfl rfl rfl rfl rfl rfl rfl rfl fun H hS=> ?_
  try simp only [W]
  refine BK Ed ?_;refine BG ?_;refine BS DA (Cx rfl rfl (hS.var 1 rfl) rfl rfl) ?_;try obtain rfl:=Option.some.inj h
  exact hP _ (hS.Cv 2 [0] (by decide))
theorem Rz {a0:List Int} {r:(List Span×Span)} (h:JG a0=some r) {F:List It} {H:J} (hS:aD H (F)) {P:AV→J→Prop} (hP: ∀Fu:AV,bJ Fu→ ∀H',aD H' (⟨Fu,2,r.1.map Dy⟩::F)→P (.ay [Fu,.agg [.int .i64 r.2.Dz,.int .i64 r.2.To]]) H'):aq C 118 [.fz (a0.map (AV.int .u8))] H P:=by
 refine B0 gC (res:=[.tmp 2,.cell 3 104]) (n:=12) rfl rfl rfl rfl fun K0 DA=> ?_;simp only [W,Nat.reduceSub,Nat.reduceAdd,List.replicate];unfold JG at h;refine BD fun K1 DB=> ?_;refine BX gC ?_;try simp only [W,Nat.reduceAdd]
 refine B4 hS rfl rfl fun DZ D0 H hS=> ?_;try simp only [W]
 refine BK DB ?_;refine BD fun K4 DG=> ?_;refine BX gC ?_;try simp only [W,EE,Nat.reduceAdd]
 refine CA rfl rfl rfl rfl rfl ?_;try simp only [W]
 refine B3 hS rfl rfl rfl rfl fun VI VJ H hS=> ?_;try simp only [W]
 refine BK DG ?_;refine BD fun K7 D8=> ?_;refine BX gC ?_;try simp only [W,Nat.reduceAdd]
 refine Cc h fun DT J7 h=> ?_;obtain ⟨EV,Ef⟩:=DT;try dsimp only at h
 refine Kz J7 hS fun v11 E6 H hS=> ?_;try simp only [W]
 refine Cc h fun ED HS h=> ?_;obtain ⟨EO,Eg⟩:=ED;try dsimp only at h
 refine Ry HS (hS.Cv 3 [1,0,2] (by decide)) fun H hS=> ?_
 try simp only [W]
 refine B5 (a:= .agg [.int .i64 EO.Dz,.int .i64 EO.To]) (y' := .agg [.int .i64 EO.Dz,.int .i64 EO.To]) 2 hS rfl rfl rfl rfl rfl rfl rfl rfl fun H hS=> ?_
 try simp only [W]
 refine BK D8 ?_;refine BG ?_;refine BS DA (Cy rfl (Cx rfl rfl (hS.var 2 rfl) rfl rfl)) ?_;try obtain rfl:=Option.some.inj h
 exact hP _ E6 _ (hS.Cv 3 [1] (by decide))
theorem RA {a0:List Span} {a1:Span} {r:(List Span×Int×Bool)} (h:JH a0 a1=some r) {F:List It} {H:J} (hS:aD H (F)) {P:AV→J→Prop} (hP: ∀v39:AV,bJ v39→ ∀H',aD H' (⟨v39,2,r.1.map Dy⟩::F)→P (.ay [v39,.int .i64 r.2.1,.bool r.2.2]) H'):aq C 119 [.fz (a0.map Dy),.agg [.int .i64 a1.Dz,.int .i64 a1.To]] H P:=by
 refine B0 gC (res:=[.tmp 4,.tmp 5,.tmp 6]) (n:=35) rfl rfl rfl rfl fun K0 DA=> ?_;simp only [W,Nat.reduceSub,Nat.reduceAdd,List.replicate];unfold JH at h;refine BD fun K1 DB=> ?_;refine BX gC ?_;try simp only [W,Nat.reduceAdd]
 refine B3 hS rfl rfl rfl rfl fun DZ D0 H hS=> ?_;try simp only [W]
 refine BK DB ?_;refine BD fun K4 DG=> ?_;refine BD fun K5 DR=> ?_;obtain ⟨HT,h,g8⟩:=Option.bind_eq_some_iff.1 h;refine Ch gC (fun s H=> ∃DF:Bool,HT=(DF)∧s=[.fz (a0.map Dy),u,u,.ptr DZ D0 0 0,u,u,u,u,u,u,u,u,u,u,u,u,.bool DF,u,u,u,u,u,u,u,u,u,u,u,u,u,u,u,u,u,u]∧aD H (⟨.ptr DZ D0 0 0,2,[.agg [.int .i64 a1.Dz,.int .i64 a1.To]]⟩::F)) (fun K9 D3=> ?_) (fun s H hq=> ?_)
 ·refine BD fun F3 D7=> ?_;refine BX gC ?_;try simp only [W,Nat.reduceAdd]
  refine Cc h fun Eo FE h=> ?_;refine Gs FE hS fun H hS=> ?_;try simp only [W]
  refine Cz h (fun hc h=> ?_) (fun hc h=> ?_)
  ·try simp only [W,hc]
   refine BK D7 ?_;refine BJ ?_;exact Ci D3 ⟨_,(Option.some.inj h).symm,rfl,hS⟩
  ·try simp only [W,EE,reduceIte,Nat.reduceAdd,Nat.reduceLeDiff,hS.var 0 rfl,hc]
   refine Cc h fun Ew GV h=> ?_;refine LL GV hS fun H hS=> ?_;try simp only [W,reduceIte,Bool.false_eq_true]
   refine BK D7 ?_;refine BJ ?_;exact Ci D3 ⟨_,(Option.some.inj h).symm,rfl,hS⟩
 ·obtain ⟨DF,DC,rfl,hS⟩:=hq;obtain rfl:=DC.symm;replace h:=g8;try dsimp only at h
  refine BK DR ?_;refine BI ?_;simp only [W];refine BW h (fun hc h=> ?_) (fun hc h=> ?_)
  ·refine BD fun Gn Ez=> ?_;refine BX gC ?_;try simp only [W,Nat.reduceAdd]
   refine BK Ez ?_;refine BG ?_;refine BL DG ?_;refine BV DA rfl rfl rfl ?_;try obtain rfl:=Option.some.inj h
   exact hP _ pP _ ((hS.z7 2).Cv 2 [0] (by decide))
  ·refine BF ?_;refine BK DG ?_;refine BD fun Hd EQ=> ?_;refine CB gC [(4,[]),(6,[])] (by kernel_rfl) rfl (by kernel_rfl) ?_
   try simp only [W,reduceIte,Nat.reduceAdd,Nat.reduceBEq,iT,ly,Nat.reduceEqDiff,List.contains_cons,Nat.reduceBEq,Bool.or_true,Bool.or_self]
   refine CP (cc:=[[.sl [.sc,.sc]]]) (ys:=[.fz (a0.map Dy)]) h rfl (by rfl) fun Eg L3 h=>⟨.own 2 (Eg.map Dy),LV L3 (aD.nil _) fun Fu J1 H hS=>CI rfl (CH 0 hS rfl J1 (fun _ _=>by simp [aY,aQ,cx,du,Dy]) fun H hS=>CF rfl),(CQ _ (fun _=>rfl) _),?_⟩
   refine CM ?_;refine CL hS (fun _ _=>rfl) (fun _=>rfl) fun HI H HJ hS=> ?_;refine CJ ?_;try simp only [List.headD_cons]
   try simp only [W,EE,reduceIte,Nat.reduceAdd,Nat.reduceLeDiff,hS.var 1 rfl]
   refine Cb (el:=([a1]:List Span).map Dy) hS rfl rfl rfl rfl rfl rfl rfl fun EI H Fj hS=> ?_;try simp only [W,EE]
   refine Cq (l:=Eg) (c:=Dy) 1 hS rfl HJ rfl rfl rfl (hS.ij 0 rfl Fj) (fun _=>rfl) rfl h fun v22 H Ib HK hm h hS=> ?_;try simp only [W]
   refine CP (cc:=[[.sl [.sc,.sc]]]) (ys:=[.fz (Ib.map Dy)]) h rfl (CE (CC hS 1 rfl HK (fun _=>rfl)) CD) fun DH JT h=>⟨.own 2 (DH.map Dy),LW JT (aD.nil _) fun v25 Ms H hS=>CI rfl (CH 0 hS rfl Ms (fun _ _=>by simp [aY,aQ,cx,du,Dy]) fun H hS=>CF rfl),(CQ _ (fun _=>rfl) _),?_⟩
   refine CM ?_;refine CL hS (fun _ _=>rfl) (fun _=>rfl) fun VK H RB hS=> ?_;refine CJ ?_;try simp only [List.headD_cons]
   try simp only [W]
   refine Cc h fun EM J4 h=> ?_;obtain ⟨G8,G6⟩:=EM;try dsimp only at h
   refine J0 J4 hS RB fun v31 Ol H hS=> ?_;try simp only [W]
   refine BK EQ ?_;refine BD fun Qb JZ=> ?_;refine BD fun KG Gv=> ?_;refine BX gC ?_;try simp only [W,Nat.reduceAdd]
   refine BK Gv ?_;refine BI ?_;simp only [W];refine BW h (fun hc h=> ?_) (fun hc h=> ?_)
   ·refine BD fun Oj Ka=> ?_;refine BX gC ?_;try simp only [W,Nat.reduceAdd]
    refine BK Ka ?_;refine BG ?_;refine BL JZ ?_;refine BV DA rfl rfl rfl ?_;try obtain rfl:=Option.some.inj h
    exact hP _ pP _ ((hS.z7 2).Cv 5 [0] (by decide))
   ·refine BF ?_;refine BK JZ ?_;refine BD fun L7 HP=> ?_;refine BX gC ?_;try simp only [W,Nat.reduceAdd]
    refine CO (cc:=[[.sc]]) (ys:=[.fz (G8.map Dy)]) h rfl (CE (CC hS 0 rfl Ol (fun _=>rfl)) CD) fun Lr RC h=>⟨.int .i64 Lr,Mn RC (aD.nil _) fun H hS=>CI rfl (CG rfl (CF rfl)),⟨rfl,rfl,fun _=>rfl⟩,?_⟩;try simp only [W]
    refine Cc h fun Nc RD h=> ?_;refine Mn RD hS fun H hS=> ?_;try simp only [W,EE]
    refine BK HP ?_;refine BG ?_;refine BV DA rfl rfl rfl ?_;try obtain rfl:=Option.some.inj h
    exact hP _ Ol _ (hS.Cv 4 [0] (by decide))
theorem Om {a0:List Span} {r:(Int)} (h:JI a0=some r) {F:List It} {H:J} (hS:aD H (F)) {P:AV→J→Prop} (hP: ∀H',aD H' (F)→P (.int .i64 r) H'):aq C 245 [.fz (a0.map Dy)] H P:=by
 refine B0 gC (res:=[.tmp 2]) (n:=21) rfl rfl rfl rfl fun K0 DA=> ?_;simp only [W,Nat.reduceSub,Nat.reduceAdd,List.replicate];unfold JI at h;refine BD fun K1 DB=> ?_;refine BX gC ?_;try simp only [W,Nat.reduceAdd]
 refine BK DB ?_;refine BD fun K2 zB=> ?_;refine BX gC ?_;try simp only [W,Nat.reduceAdd]
 refine BK zB ?_;refine BD fun K3 DI=> ?_;refine BD fun K4 DG=> ?_;refine BX gC ?_;try simp only [W,EE,Nat.reduceAdd]
 refine BK DG ?_;obtain ⟨F6,F7,g15⟩:=Option.bind_eq_some_iff.1 h;refine Ch gC (fun s H=> ∃DO:Int,F6=(DO)∧s=[u,u,u,.int .i64 DO,u,u,u,u,u,u,u,u,u,u,u,u,u,u,u,u,u]∧aD H (F)) (fun F3 D7=> ?_) (fun s H hq=> ?_)
 ·refine BE fun Gl Ep=> ?_;refine Cd gC F7 (fun x s H=>match x with|(DE,DF)=>s=[u,u,u,.int .i64 DE,u,u,.fz (a0.map Dy),.int .i64 (a0.length:Int),.int .i64 DF,u,u,u,u,u,u,u,u,u,u,u,u]∧aD H (F)) ⟨rfl,hS⟩ (fun x F8 s H h FF hi Gm D6=> ?_)
  obtain ⟨DE,DF⟩:=x;try dsimp only at hi
  obtain ⟨rfl,hS⟩:=hi;simp only [Nd] at h;refine BD fun F2 Eb=> ?_;refine BX gC ?_;try simp only [W,EE,Nat.reduceAdd]
  refine BK Eb ?_;refine BD fun FM DY=> ?_;refine BI ?_;simp only [W];refine BW h (fun hc h=> ?_) (fun hc h=> ?_)
  ·refine BF ?_;refine BK DY ?_;refine BD fun FN D1=> ?_;refine BE fun Gq Eh=> ?_;refine BD fun GL EA=> ?_;refine BX gC ?_;try simp only [W,EE,Nat.reduceAdd]
   refine B7 rfl rfl rfl (fun _=>rfl) h fun DN GM h=> ?_;try simp only [W,EE,EN,reduceIte,Nat.reduceAdd,Nat.reduceLeDiff]
   refine B4 hS rfl rfl fun NI NJ H hS=> ?_;try simp only [W]
   refine B5 (a:= .agg [.int .i64 DN.Dz,.int .i64 DN.To]) (y' := .agg [.int .i64 DN.Dz,.int .i64 DN.To]) 0 hS rfl rfl rfl rfl rfl rfl rfl rfl fun H hS=> ?_
   try simp only [W]
   refine BK EA ?_;refine BX gC ?_;try simp only [W,EE,Nat.reduceAdd,Nat.reduceBEq,hS.var 0 rfl]
   refine BO Eh ?_;refine BK D1 ?_;refine BX gC ?_;try simp only [W,EE,Nat.reduceAdd]
   exact Ce D6 h ⟨rfl,(hS.Cv 1 [] (by decide))⟩
  ·refine BH ?_;refine BM DY ?_;try obtain rfl:=Option.some.inj h
   obtain rfl:=FF _ rfl;have h:(some (DE):Option (Int))=some (DE):=rfl;refine Cf D6 ?_;refine BP Ep ?_;exact Ci D7 ⟨_,(Option.some.inj h).symm,rfl,hS⟩
 ·obtain ⟨DO,DC,rfl,hS⟩:=hq;obtain rfl:=DC.symm;replace h:=g15;try dsimp only at h
  refine BK DI ?_;refine BD fun HL E2=> ?_;refine BX gC ?_;try simp only [W,Nat.reduceAdd]
  refine BK E2 ?_;refine BG ?_;refine BT DA rfl ?_;try obtain rfl:=Option.some.inj h
  exact hP _ hS
theorem RE {a0:List Span} {a1:Span} {r:(List Span×Int×Bool)} (h:JJ a0 a1=some r) {F:List It} {H:J} (hS:aD H (F)) {P:AV→J→Prop} (hP: ∀H',aD H' (F)→P (.ay [.fz (r.1.map Dy),.int .i64 r.2.1,.bool r.2.2]) H'):aq C 120 [.fz (a0.map Dy),.agg [.int .i64 a1.Dz,.int .i64 a1.To]] H P:=by
 refine B0 gC (res:=[.tmp 4,.tmp 5,.tmp 6]) (n:=32) rfl rfl rfl rfl fun K0 DA=> ?_;simp only [W,Nat.reduceSub,Nat.reduceAdd,List.replicate];unfold JJ at h;refine BD fun K1 DB=> ?_;refine BX gC ?_;try simp only [W,Nat.reduceAdd]
 refine B3 hS rfl rfl rfl rfl fun DZ D0 H hS=> ?_;try simp only [W]
 refine BK DB ?_;refine BD fun K4 DG=> ?_;refine BD fun K5 DR=> ?_;obtain ⟨HT,h,g8⟩:=Option.bind_eq_some_iff.1 h;refine Ch gC (fun s H=> ∃DF:Bool,HT=(DF)∧s=[.fz (a0.map Dy),u,u,.ptr DZ D0 0 0,u,u,u,u,u,u,u,u,u,u,u,u,.bool DF,u,u,u,u,u,u,u,u,u,u,u,u,u,u,u]∧aD H (⟨.ptr DZ D0 0 0,2,[.agg [.int .i64 a1.Dz,.int .i64 a1.To]]⟩::F)) (fun K9 D3=> ?_) (fun s H hq=> ?_)
 ·refine BD fun F3 D7=> ?_;refine BX gC ?_;try simp only [W,Nat.reduceAdd]
  refine Cc h fun Eo FE h=> ?_;refine IK FE hS fun H hS=> ?_;try simp only [W]
  refine Cz h (fun hc h=> ?_) (fun hc h=> ?_)
  ·try simp only [W,hc]
   refine BK D7 ?_;refine BJ ?_;exact Ci D3 ⟨_,(Option.some.inj h).symm,rfl,hS⟩
  ·try simp only [W,EE,reduceIte,Nat.reduceAdd,Nat.reduceLeDiff,hS.var 0 rfl,hc]
   refine Cc h fun Ew GV h=> ?_;refine L5 GV hS fun H hS=> ?_;try simp only [W,reduceIte,Bool.false_eq_true]
   refine BK D7 ?_;refine BJ ?_;exact Ci D3 ⟨_,(Option.some.inj h).symm,rfl,hS⟩
 ·obtain ⟨DF,DC,rfl,hS⟩:=hq;obtain rfl:=DC.symm;replace h:=g8;try dsimp only at h
  refine BK DR ?_;refine BI ?_;simp only [W];refine BW h (fun hc h=> ?_) (fun hc h=> ?_)
  ·refine BD fun Gn Ez=> ?_;refine BD fun Hd EQ=> ?_;refine BX gC ?_;try simp only [W,Nat.reduceAdd]
   refine BK EQ ?_;refine Cu ?_;refine Ct rfl ?_;simp only [W];refine BK Ez ?_;refine BG ?_;refine BL DG ?_;refine BV DA rfl rfl rfl ?_;try obtain rfl:=Option.some.inj h
   exact hP _ (hS.Cv 1 [] (by decide))
  ·refine BF ?_;refine BK DG ?_;refine BD fun Iz E1=> ?_;refine BY (fz:=[(3,[([20],[.sl [.sc,.sc]])])]) gC ?_;try simp only [W,EE,reduceIte,Nat.reduceAdd,Nat.reduceLeDiff,Nat.reduceBEq,hS.var 0 rfl]
   refine Cc h fun Fa J9 h=> ?_;refine N1 J9 hS fun v17 Mt H hS=> ?_;try simp only [W,Nat.reduceAdd]
   refine Cs 0 hS rfl Mt rfl (fun _ _=>by simp [aY,aQ,cx,du,Dy]) (fun _=>rfl) fun H rO hS=> ?_
   try simp only [W]
   refine Cc h fun E_ IA h=> ?_;obtain ⟨FW,DN⟩:=E_;try dsimp only at h
   refine J6 IA hS fun H hS=> ?_;try simp only [W,Nat.reduceAdd,Nat.reduceBEq]
   refine BK E1 ?_;refine BD fun IB Fh=> ?_;refine BD fun He EY=> ?_;refine BX gC ?_;try simp only [W,Nat.reduceAdd]
   refine BK EY ?_;refine BI ?_;simp only [W];refine BW h (fun hc h=> ?_) (fun hc h=> ?_)
   ·refine BD fun F9 Ed=> ?_;refine BD fun KK FH=> ?_;refine BX gC ?_;try simp only [W,Nat.reduceAdd]
    refine BK FH ?_;refine Cu ?_;refine Ct rfl ?_;simp only [W];refine BK Ed ?_;refine BG ?_;refine BL Fh ?_;refine BV DA rfl rfl rfl ?_;try obtain rfl:=Option.some.inj h
    exact hP _ (hS.Cv 1 [] (by decide))
   ·refine BF ?_;refine BK Fh ?_;refine BD fun HL E2=> ?_;refine BX gC ?_;try simp only [W,Nat.reduceAdd]
    refine Cc h fun DV KO h=> ?_;refine Om KO hS fun H hS=> ?_;try simp only [W]
    refine Cc h fun EM J4 h=> ?_;refine Om J4 hS fun H hS=> ?_;try simp only [W,EE]
    refine BK E2 ?_;refine BG ?_;refine BV DA rfl rfl rfl ?_;try obtain rfl:=Option.some.inj h
    exact hP _ (hS.Cv 1 [] (by decide))
theorem On {a0:List Span} {a1:Span} {r:(List Span×Bool)} (h:HA a0 a1=some r) {F:List It} {H:J} (hS:aD H (F)) {P:AV→J→Prop} (hP: ∀v30:AV,bJ v30→ ∀H',aD H' (⟨v30,2,r.1.map Dy⟩::F)→P (.ay [v30,.bool r.2]) H'):aq C 121 [.fz (a0.map Dy),.agg [.int .i64 a1.Dz,.int .i64 a1.To]] H P:=by
 refine B0 gC (res:=[.tmp 4,.tmp 5]) (n:=22) rfl rfl rfl rfl fun K0 DA=> ?_;simp only [W,Nat.reduceSub,Nat.reduceAdd,List.replicate];unfold HA at h;refine BD fun K1 DB=> ?_;refine BX gC ?_;try simp only [W,Nat.reduceAdd]
 refine B3 hS rfl rfl rfl rfl fun DZ D0 H hS=> ?_;try simp only [W]
 refine BK DB ?_;refine BD fun K4 DG=> ?_;refine BD fun K5 DR=> ?_;obtain ⟨HT,h,g8⟩:=Option.bind_eq_some_iff.1 h;refine Ch gC (fun s H=> ∃DF:Bool,HT=(DF)∧s=[.fz (a0.map Dy),u,u,.ptr DZ D0 0 0,u,u,u,u,u,u,u,u,u,.bool DF,u,u,u,u,u,u,u,u]∧aD H (⟨.ptr DZ D0 0 0,2,[.agg [.int .i64 a1.Dz,.int .i64 a1.To]]⟩::F)) (fun K9 D3=> ?_) (fun s H hq=> ?_)
 ·refine BD fun F3 D7=> ?_;refine BX gC ?_;try simp only [W,Nat.reduceAdd]
  refine Cc h fun Eo FE h=> ?_;refine Gs FE hS fun H hS=> ?_;try simp only [W]
  refine Cz h (fun hc h=> ?_) (fun hc h=> ?_)
  ·try simp only [W,hc]
   refine BK D7 ?_;refine BJ ?_;exact Ci D3 ⟨_,(Option.some.inj h).symm,rfl,hS⟩
  ·try simp only [W,EE,reduceIte,Nat.reduceAdd,Nat.reduceLeDiff,hS.var 0 rfl,hc]
   refine Cc h fun Ew GV h=> ?_;refine LL GV hS fun H hS=> ?_;try simp only [W,reduceIte,Bool.false_eq_true]
   refine BK D7 ?_;refine BJ ?_;exact Ci D3 ⟨_,(Option.some.inj h).symm,rfl,hS⟩
 ·obtain ⟨DF,DC,rfl,hS⟩:=hq;obtain rfl:=DC.symm;replace h:=g8;try dsimp only at h
  refine BK DR ?_;refine BI ?_;simp only [W];refine BW h (fun hc h=> ?_) (fun hc h=> ?_)
  ·refine BD fun Gn Ez=> ?_;refine BX gC ?_;try simp only [W,Nat.reduceAdd]
   refine BK Ez ?_;refine BG ?_;refine BL DG ?_;refine BU DA rfl rfl ?_;try obtain rfl:=Option.some.inj h
   exact hP _ pP _ ((hS.z7 2).Cv 2 [0] (by decide))
  ·refine BF ?_;refine BK DG ?_;refine BD fun Hd EQ=> ?_;refine BX gC ?_;try simp only [W,EE,reduceIte,Nat.reduceAdd,Nat.reduceLeDiff,Nat.reduceBEq,hS.var 0 rfl,List.contains_cons,Nat.reduceBEq,Bool.or_true,Bool.or_self]
   refine Cb (el:=([a1]:List Span).map Dy) hS rfl rfl rfl rfl rfl rfl rfl fun HN H HO hS=> ?_;try simp only [W]
   refine CP (cc:=[[.sl [.sc,.sc]]]) (ys:=[.fz (([a1]:List Span).map Dy),.int .i64 1000000]) h rfl (CE (CC hS 0 rfl HO (fun _=>rfl)) (CE rfl CD)) fun Fs Kb h=>⟨.own 2 (Fs.map Dy),Oc Kb (aD.nil _) fun HI HJ H hS=>CI rfl (CH 0 hS rfl HJ (fun _ _=>by simp [aY,aQ,cx,du,Dy]) fun H hS=>CF rfl),(CQ _ (fun _=>rfl) _),?_⟩
   refine CM ?_;refine CL hS (fun _ _=>rfl) (fun _=>rfl) fun v20 H L4 hS=> ?_;refine CJ ?_;try simp only [List.headD_cons]
   try simp only [W]
   refine CP (cc:=[[.sl [.sc,.sc]]]) (ys:=[.fz (a0.map Dy),.fz (Fs.map Dy)]) h rfl (CE rfl (CE (CC hS 0 rfl L4 (fun _=>rfl)) CD)) fun DN GM h=>⟨.own 2 (DN.map Dy),N5 GM (aD.nil _) fun v22 HK H hS=>CI rfl (CH 0 hS rfl HK (fun _ _=>by simp [aY,aQ,cx,du,Dy]) fun H hS=>CF rfl),(CQ _ (fun _=>rfl) _),?_⟩
   refine CM ?_;refine CL hS (fun _ _=>rfl) (fun _=>rfl) fun v24 H RF hS=> ?_;refine CJ ?_;try simp only [List.headD_cons]
   try simp only [W]
   refine Cc h fun E9 IG h=> ?_;obtain ⟨D9,DV⟩:=E9;try dsimp only at h
   refine J0 IG hS RF fun v28 HU H hS=> ?_;try simp only [W]
   refine BK EQ ?_;refine BG ?_;refine BU DA rfl rfl ?_;try obtain rfl:=Option.some.inj h
   exact hP _ HU _ (hS.Cv 4 [0] (by decide))
end Go.Fc
