import Derived.Test.YtmmomohapflagaaVeF
import Derived.Test.YtmmomohapflagaaProg
import Derived.Test.YtmmomohapflagaaVaE
import Derived.KernelRfl
open Go Go.VS
set_option maxRecDepth 8000
set_option maxHeartbeats 4000000
namespace Go.Hd
def Fh (x:Task):AV:= .agg [.int .i64 x.Fv,.int .i64 x.End]
def O8 (x:Fl):AV:= .agg [.fz (x.Code.map (AV.int .u8)),.int .i64 x.Fo,.int .u64 x.Fw]
def E:aF:=fun t=>match t with
 |3=>some {sz:=1,agg:=false,zero:=[AV.int IntKind.i64 0],bytes:=8,au:=UD.it IntKind.i64,kE:=true}
 |4=>some {sz:=1,agg:=false,zero:=[AV.bool false],bytes:=1,au:=UD.bl,kE:=true}
 |5=>some {sz:=1,agg:=false,zero:=[AV.int IntKind.u8 0],bytes:=1,au:=UD.it IntKind.u8,kE:=true}
 |22=>some {sz:=1,agg:=false,zero:=[AV.nil],bytes:=24,au:=UD.sl 5,kE:=true}
 |23=>some {sz:=1,agg:=false,zero:=[AV.nil],bytes:=24,au:=UD.sl 3,kE:=true}
 |53=>some {sz:=1,agg:=false,zero:=[AV.nil],bytes:=24,au:=UD.sl 59,kE:=true}
 |59=>some {sz:=2,agg:=true,zero:=[AV.int IntKind.i64 0,AV.int IntKind.i64 0],bytes:=16,au:=UD.st [(0,3),(1,3)],kE:=true}
 |163=>some {sz:=1,agg:=false,zero:=[AV.dQ],bytes:=8,au:=UD.pt,kE:=true}
 |164=>some {sz:=1,agg:=false,zero:=[AV.int IntKind.u64 0],bytes:=8,au:=UD.it IntKind.u64,kE:=true}
 |166=>some {sz:=3,agg:=true,zero:=[AV.nil,AV.int IntKind.i64 0,AV.int IntKind.u64 0],bytes:=40,au:=UD.st [(0,22),(1,3),(2,164)],kE:=true}
 |174=>some {sz:=1,agg:=false,zero:=[AV.undef],bytes:=8,au:=UD.ot,kE:=true}
 |193=>some {sz:=1,agg:=false,zero:=[AV.undef],bytes:=8,au:=UD.ot,kE:=true}
 |_=>none
def fW:FuncId→kF:=fun f=>match f with
 |5=>{bC:=[[.sc]],loops:=[(0,{bP:=[1,5,11,17]}),(2,{bP:=[19,20,24,152,153,154]})],blocks:=[(0,[1]),(2,[19,20,24])],nM:=[(6,[],[1]),(7,[],[1]),(20,[],[2]),(21,[],[2])],fU:=[(8,[],some [1,5,7,8,11,12,78]),(12,[],some [1,5,11,95]),(22,[],some [18,19,20,21,145]),(24,[],some [18,19,20,151])],wZ:=[(79,[1])]}
 |21=>{bC:=[[.sc]],loops:=[(0,{bP:=[0,1,12,13]})],blocks:=[(0,[])]}
 |39=>{bC:=[[.sl [.sc,.sc]],[.sl [.sc]]]}
 |40=>{bC:=[[.sc],[.sc]],loops:=[(0,{bP:=[6,8,33,34,35]})],blocks:=[(0,[8])],fU:=[(2,[],some [0,6,7,23])]}
 |41=>{bC:=[[.sc],[.sc]],loops:=[(0,{bP:=[6,7,28,29,30]})],blocks:=[(0,[7])]}
 |42=>{bC:=[[.sl [.sc]],[.sc]]}
 |43=>{bC:=[[.sl [.sc]],[.sc]]}
 |44=>{bC:=[[.sl [.sc,.sc]],[.sl [.sc]]]}
 |45=>{bC:=[[.sl [.sc]],[.sc]],fU:=[(1,[],some [0,1,15])]}
 |46=>{bC:=[[.sl [.sc]],[.sc]]}
 |66=>{bC:=[[.sc]]}
 |157=>{bC:=[[.sc]]}
 |162=>{bC:=[[.sc]],wZ:=[(11,[1,5])]}
 |163=>{bC:=[[.sc]]}
 |164=>{bC:=[[.sc]]}
 |173=>{bC:=[]}
 |177=>{bC:=[[.sl [.sc,.sc]]],loops:=[(0,{bP:=[0,3,4]})],blocks:=[(0,[0,3])],fU:=[(8,[],some [0,3,31])],fz:=[(9,[(3,[([34],[.sl [.sc]])]),(6,[([37],[.sl [.sc]])])])],wZ:=[(8,[0,3,4]),(31,[3])]}
 |178=>{bC:=[[.sl [.sc]]],loops:=[(0,{bP:=[0,1,5,6]}),(2,{bP:=[0,1,5,7]})],blocks:=[(0,[0,1,5]),(2,[0,1,5])],fU:=[(7,[],some [0,1,5,7,27]),(14,[],some [0,1,5,56])],wZ:=[(56,[5])]}
 |179=>{bC:=[[.sc]]}
 |180=>{bC:=[[.sl [.sc]]],loops:=[(0,{bP:=[0,5,6,12,13,14]})],blocks:=[(0,[5])]}
 |181=>{bC:=[[.sc]]}
 |182=>{bC:=[[.sl [.sc]]],loops:=[(0,{bP:=[1,3,7,8]})],blocks:=[(0,[1,3])]}
 |183=>{bC:=[[.sc]],loops:=[(0,{bP:=[0,5,6,7]})],blocks:=[(0,[0])],fU:=[(4,[],some [0,5,6,7,20])]}
 |184=>{bC:=[[.sl [.sc]]],loops:=[(0,{bP:=[0,3,8,9,10]}),(2,{bP:=[0,3,4,5,6,8,9,10]})],blocks:=[(2,[0,3,4,6,8,9,10]),(0,[3])],fU:=[(6,[],some [0,3,4,5,6,8,9,10,31])]}
 |185=>{bC:=[[.sc]],loops:=[(0,{bP:=[0,1,6,7]})],blocks:=[(0,[0,1])]}
 |186=>{bC:=[[.sl [.sc]]],loops:=[(0,{bP:=[0,5,6,12,13,14]})],blocks:=[(0,[5])]}
 |188=>{bC:=[[.sc]]}
 |205=>{bC:=[[.sc]]}
 |206=>{bC:=[[.sc]]}
 |282=>{bC:=[[.sc]],wZ:=[(13,[0,3])]}
 |287=>{bC:=[],loops:=[(0,{bP:=[0,1,2,6,7,8]}),(2,{bP:=[0,1,2,6]}),(4,{bP:=[0,1,2,6,7,8]})],blocks:=[(0,[0,1,2,6,7]),(4,[0,1,2,6,7]),(2,[])],wZ:=[(54,[0,1,2,6])]}
 |288=>{bC:=[[.sc]],loops:=[(0,{bP:=[0,1,11,12,13]})],blocks:=[(0,[])],fU:=[(6,[],some [0,1,11,12,13,29])]}
 |289=>{bC:=[[.sc]]}
 |290=>{bC:=[[.sc]]}
 |291=>{bC:=[[.sc]],loops:=[(0,{bP:=[0,1,7,8]})],blocks:=[(0,[])]}
 |295=>{bC:=[[.sc]],loops:=[(0,{bP:=[0,1,7,8]})],blocks:=[(0,[])]}
 |319=>{bC:=[[.sc]],loops:=[(0,{bP:=[1,7,8,9]})],blocks:=[(0,[])]}
 |321=>{bC:=[],loops:=[(0,{bP:=[0,1,2,3,8]}),(2,{bP:=[0,1,2,3,8,9]})],blocks:=[(2,[0,1,2,3,8]),(0,[])],nM:=[(4,[14],[]),(6,[15,17],[])],fU:=[(4,[],some [0,1,2,3,8,9,34])]}
 |_=>{}
noncomputable def code:FuncId→Option Func:=fun f=>match f with
 |5=>some Go.Proofs.Try.f5
 |21=>some Go.Proofs.Try.f21
 |39=>some Go.Proofs.Try.f39
 |40=>some Go.Proofs.Try.f40
 |41=>some Go.Proofs.Try.f41
 |42=>some Go.Proofs.Try.f42
 |43=>some Go.Proofs.Try.f43
 |44=>some Go.Proofs.Try.f44
 |45=>some Go.Proofs.Try.f45
 |46=>some Go.Proofs.Try.f46
 |66=>some Go.Proofs.Try.f66
 |157=>some Go.Proofs.Try.f157
 |162=>some Go.Proofs.Try.f162
 |163=>some Go.Proofs.Try.f163
 |164=>some Go.Proofs.Try.f164
 |173=>some Go.Proofs.Try.f173
 |177=>some Go.Proofs.Try.f177
 |178=>some Go.Proofs.Try.f178
 |179=>some Go.Proofs.Try.f179
 |180=>some Go.Proofs.Try.f180
 |181=>some Go.Proofs.Try.f181
 |182=>some Go.Proofs.Try.f182
 |183=>some Go.Proofs.Try.f183
 |184=>some Go.Proofs.Try.f184
 |185=>some Go.Proofs.Try.f185
 |186=>some Go.Proofs.Try.f186
 |188=>some Go.Proofs.Try.f188
 |205=>some Go.Proofs.Try.f205
 |206=>some Go.Proofs.Try.f206
 |282=>some Go.Proofs.Try.f282
 |287=>some Go.Proofs.Try.f287
 |288=>some Go.Proofs.Try.f288
 |289=>some Go.Proofs.Try.f289
 |290=>some Go.Proofs.Try.f290
 |291=>some Go.Proofs.Try.f291
 |295=>some Go.Proofs.Try.f295
 |319=>some Go.Proofs.Try.f319
 |321=>some Go.Proofs.Try.f321
 |_=>none
noncomputable def C:aL:=⟨E,fW,code,fun _ _ _ _=>False⟩
theorem gC:Good C:=⟨fun _ _ _ _ _ _ h=>h,fun _ _ _ _ h=>h.elim⟩
theorem M4:C.E=E:=rfl
theorem M5:E 3=some {sz:=1,agg:=false,zero:=[AV.int IntKind.i64 0],bytes:=8,au:=UD.it IntKind.i64,kE:=true}:=rfl
theorem M6:E 4=some {sz:=1,agg:=false,zero:=[AV.bool false],bytes:=1,au:=UD.bl,kE:=true}:=rfl
theorem M7:E 5=some {sz:=1,agg:=false,zero:=[AV.int IntKind.u8 0],bytes:=1,au:=UD.it IntKind.u8,kE:=true}:=rfl
theorem M8:E 22=some {sz:=1,agg:=false,zero:=[AV.nil],bytes:=24,au:=UD.sl 5,kE:=true}:=rfl
theorem M9:E 23=some {sz:=1,agg:=false,zero:=[AV.nil],bytes:=24,au:=UD.sl 3,kE:=true}:=rfl
theorem M_:E 53=some {sz:=1,agg:=false,zero:=[AV.nil],bytes:=24,au:=UD.sl 59,kE:=true}:=rfl
theorem Na:E 59=some {sz:=2,agg:=true,zero:=[AV.int IntKind.i64 0,AV.int IntKind.i64 0],bytes:=16,au:=UD.st [(0,3),(1,3)],kE:=true}:=rfl
theorem Nb:E 163=some {sz:=1,agg:=false,zero:=[AV.dQ],bytes:=8,au:=UD.pt,kE:=true}:=rfl
theorem Nc:E 164=some {sz:=1,agg:=false,zero:=[AV.int IntKind.u64 0],bytes:=8,au:=UD.it IntKind.u64,kE:=true}:=rfl
theorem Nd:E 166=some {sz:=3,agg:=true,zero:=[AV.nil,AV.int IntKind.i64 0,AV.int IntKind.u64 0],bytes:=40,au:=UD.st [(0,22),(1,3),(2,164)],kE:=true}:=rfl
theorem Nf:E 174=some {sz:=1,agg:=false,zero:=[AV.undef],bytes:=8,au:=UD.ot,kE:=true}:=rfl
theorem Ng:E 193=some {sz:=1,agg:=false,zero:=[AV.undef],bytes:=8,au:=UD.ot,kE:=true}:=rfl
theorem Fe:type_of% (And.intro @M4<|And.intro @M5<|And.intro @M6<|And.intro @M7<|And.intro @M8<|And.intro @M9<|And.intro @M_<|And.intro @Na<|And.intro @Nb<|And.intro @Nc<|And.intro @Nd<|And.intro @Nf @Ng):=And.intro @M4<|And.intro @M5<|And.intro @M6<|And.intro @M7<|And.intro @M8<|And.intro @M9<|And.intro @M_<|And.intro @Na<|And.intro @Nb<|And.intro @Nc<|And.intro @Nd<|And.intro @Nf @Ng
theorem Nh (x:Fl):O8 x= .agg [.fz (x.Code.map (AV.int .u8)),.int .i64 x.Fo,.int .u64 x.Fw]:=rfl
theorem Ni (x:Task):Fh x= .agg [.int .i64 x.Fv,.int .i64 x.End]:=rfl
theorem F5:type_of% (And.intro @Nh<|And.intro @Ni<|And.intro @DV @uM):=And.intro @Nh<|And.intro @Ni<|And.intro @DV @uM
theorem Nj {a0:Fl} {i0:Nat} {w0:Nat} {r:(Int×Fl)} (h:IH a0=some r) {F:List It} {H:J} (hS:ap H (⟨.ptr i0 w0 0 0,3,[.agg [.fz (a0.Code.map (AV.int .u8)),.int .i64 a0.Fo,.int .u64 a0.Fw]]⟩::F)) {P:AV→J→Prop} (hP: ∀H',ap H' (⟨.ptr i0 w0 0 0,3,[.agg [.fz (r.2.Code.map (AV.int .u8)),.int .i64 r.2.Fo,.int .u64 r.2.Fw]]⟩::F)→P (.int .i64 r.1) H'):aw C 282 [.ptr i0 w0 0 0] H P:=by
 refine B4 gC (res:=[.tmp 2]) (n:=62) rfl rfl rfl rfl fun K0 Ff=> ?_;simp only [W,Nat.reduceSub,Nat.reduceAdd,List.replicate];unfold IH at h;refine BC fun K1 Fg=> ?_;refine B1 gC ?_;try simp only [W,Nat.reduceAdd]
 refine BJ Fg ?_;refine BC fun K2 zF=> ?_;refine B1 gC ?_;try simp only [W,Nat.reduceAdd]
 refine BJ zF ?_;refine BC fun K3 Fs=> ?_;refine BC fun K4 FW=> ?_;refine B3 gC (by kernel_rfl) ?_
 try simp only [W,Fe,Nat.reduceAdd,Nat.reduceBEq,hS.var 0 rfl]
 refine BJ FW ?_;obtain ⟨O9,h,g7⟩:=Option.bind_eq_some_iff.1 h;refine Cz gC (fun s H=> ∃Fi:Int,O9=(Fi)∧s=(.ptr i0 w0 0 0::u::u:: .int .i64 Fi::u::u::u::u::u::u::u::u::u::u::u::u::u::u::u::u::u::u::u::u::u::u::u::u::u::u::u::u::u::u::u::u::u::u::u::u::u::u::u::u::u::u::u::u::u::u::u::u::u::u::u::u::u::u::u::u::u::u::[])∧ap H (⟨.ptr i0 w0 0 0,3,[.agg [.fz (a0.Code.map (AV.int .u8)),.int .i64 a0.Fo,.int .u64 a0.Fw]]⟩::F)) (fun K8 FB=> ?_) (fun s H hq=> ?_)
 ·refine BC fun K9 FC=> ?_;refine BH ?_;simp only [W];refine B0 h (fun hc h=> ?_) (fun hc h=> ?_)
  ·refine B3 gC (by kernel_rfl) ?_
   try simp only [W,Fe,Nat.reduceAdd,Nat.reduceBEq,hS.var 0 rfl]
   refine Co rfl rfl rfl (fun _=>rfl) h fun F3 KR h=> ?_;try simp only [W,Fe]
   refine BJ FC ?_;refine EB (s' :=(.ptr i0 w0 0 0::u::u:: .int .i64 (IntKind.i64.wrap F3)::u::u::u::u::u::u::u::u::u::u::u::u::u::u::u::u::u::u::u::u::u::u::u::u::u::u::u::u::u::u::u::u::u::u::u::u::u::u::u::u::u::u::u::u::u::u::u::u::u::u::u::u::u::u::u::u::u::u::[])) rfl ?_
   exact CA FB ⟨_,(Option.some.inj h).symm,rfl,hS⟩
  ·refine BE ?_;refine BJ FC ?_;refine EB (s' :=(.ptr i0 w0 0 0::u::u:: .int .i64 0::u::u::u::u::u::u::u::u::u::u::u::u::u::u::u::u::u::u::u::u::u::u::u::u::u::u::u::u::u::u::u::u::u::u::u::u::u::u::u::u::u::u::u::u::u::u::u::u::u::u::u::u::u::u::u::u::u::u::[])) rfl ?_
   exact CA FB ⟨_,(Option.some.inj h).symm,rfl,hS⟩
 ·obtain ⟨Fi,Fp,rfl,hS⟩:=hq;obtain rfl:=Fp.symm;replace h:=g7;try dsimp only at h
  refine BJ Fs ?_;refine BC fun JR GC=> ?_;refine B1 gC ?_;try simp only [W,Fe,Nat.reduceAdd,Nat.reduceBEq,hS.var 0 rfl]
  refine Cj (a:= .int .i64 (IntKind.i64.wrap (a0.Fo+1))) (y' := .agg [.fz (a0.Code.map (AV.int .u8)),.int .i64 (IntKind.i64.wrap (a0.Fo+1)),.int .u64 a0.Fw]) 0 hS rfl rfl rfl rfl rfl rfl rfl rfl fun H hS=> ?_
  try simp only [W]
  refine BJ GC ?_;refine BC fun KS GD=> ?_;refine B1 gC ?_;try simp only [W,Fe,Nat.reduceAdd,Nat.reduceBEq,hS.var 0 rfl]
  refine Cj (a:= .int .u64 (IntKind.u64.wrap ((IntKind.u64.wrap ((IntKind.u64.wrap (a0.Fw*6364136223846793005))+(IntKind.u64.wrap Fi)))+1442695040888963407))) (y' := .agg [.fz (a0.Code.map (AV.int .u8)),.int .i64 (IntKind.i64.wrap (a0.Fo+1)),.int .u64 (IntKind.u64.wrap ((IntKind.u64.wrap ((IntKind.u64.wrap (a0.Fw*6364136223846793005))+(IntKind.u64.wrap Fi)))+1442695040888963407))]) 0 hS rfl rfl rfl rfl rfl rfl rfl rfl fun H hS=> ?_
  try simp only [W]
  refine BJ GD ?_;refine BC fun GQ FF=> ?_;refine BC fun Hh FK=> ?_;refine B3 gC (by kernel_rfl) ?_
  try simp only [W,Fe,Nat.reduceAdd,Nat.reduceBEq,hS.var 0 rfl]
  refine BJ FK ?_;refine BH ?_;simp only [W];refine B0 h (fun hc h=> ?_) (fun hc h=> ?_)
  ·refine BC fun GR FA=> ?_;refine B1 gC ?_;try simp only [W,Nat.reduceAdd]
   refine BJ FA ?_;refine BF ?_;refine BK FF ?_;refine BU Ff rfl ?_;try obtain rfl:=Option.some.inj h
   exact hP _ hS
  ·refine BE ?_;refine BJ FF ?_;refine BC fun GS FD=> ?_;refine B1 gC ?_;try simp only [W,Fe,Nat.reduceAdd,Nat.reduceBEq,hS.var 0 rfl]
   rw [CG _ _ _ rfl,Option.map_some,tg];try simp only [W,Fe]
   refine BJ FD ?_;refine BF ?_;refine BU Ff rfl ?_;try obtain rfl:=Option.some.inj h
   exact hP _ hS
theorem Hi {a0:Fl} {a1:Int} {i0:Nat} {w0:Nat} {r:(Int×Fl)} (h:Gi a0 a1=some r) {F:List It} {H:J} (hS:ap H (⟨.ptr i0 w0 0 0,3,[.agg [.fz (a0.Code.map (AV.int .u8)),.int .i64 a0.Fo,.int .u64 a0.Fw]]⟩::F)) {P:AV→J→Prop} (hP: ∀H',ap H' (⟨.ptr i0 w0 0 0,3,[.agg [.fz (r.2.Code.map (AV.int .u8)),.int .i64 r.2.Fo,.int .u64 r.2.Fw]]⟩::F)→P (.int .i64 r.1) H'):aw C 162 [.ptr i0 w0 0 0,.int .i64 a1] H P:=by
 refine B4 gC (res:=[.tmp 4]) (n:=20) rfl rfl rfl rfl fun K0 Ff=> ?_;simp only [W,Nat.reduceSub,Nat.reduceAdd,List.replicate];unfold Gi at h;refine BC fun K1 Fg=> ?_;refine B1 gC ?_;try simp only [W,Nat.reduceAdd]
 refine BJ Fg ?_;refine BC fun K2 zF=> ?_;refine BC fun K3 Fs=> ?_;refine B1 gC ?_;try simp only [W,Fe,Nat.reduceAdd]
 refine BJ Fs ?_;refine BH ?_;simp only [W];refine B0 h (fun hc h=> ?_) (fun hc h=> ?_)
 ·refine BC fun K4 FW=> ?_;refine B1 gC ?_;try simp only [W,Nat.reduceAdd]
  refine BJ FW ?_;refine BF ?_;refine BK zF ?_;refine BU Ff rfl ?_;try obtain rfl:=Option.some.inj h
  exact hP _ hS
 ·refine BE ?_;refine BJ zF ?_;refine BC fun K5 FQ=> ?_;refine B1 gC ?_;try simp only [W,Nat.reduceAdd]
  refine Cu h fun Gn HN h=> ?_;obtain ⟨Fx,Gl⟩:=Gn;try dsimp only at h
  refine Nj HN hS fun H hS=> ?_;try simp only [W]
  refine BJ FQ ?_;refine BC fun K9 FC=> ?_;refine BC fun Nk Ip=> ?_;refine B1 gC ?_;try simp only [W,Fe,Nat.reduceAdd]
  refine BJ Ip ?_;obtain ⟨Nl,h,LB⟩:=Option.bind_eq_some_iff.1 h;refine Cz gC (fun s H=> ∃FN:Int,∃F9:List Int,∃GZ:Int,∃G0:Int,Nl=(FN,F9,GZ,G0)∧s=[u,.int .i64 a1,u,u,u,.int .i64 FN,u,u,u,u,u,u,u,u,u,u,u,u,u,u]∧ap H (⟨.ptr i0 w0 0 0,3,[.agg [.fz (F9.map (AV.int .u8)),.int .i64 GZ,.int .u64 G0]]⟩::F)) (fun GF Fy=> ?_) (fun s H hq=> ?_)
  ·refine BC fun HO FV=> ?_;refine BH ?_;simp only [W];refine B0 h (fun hc h=> ?_) (fun hc h=> ?_)
   ·refine B1 gC ?_;try simp only [W,Fe,Nat.reduceAdd]
    refine Cu h fun Ge I3 h=> ?_;obtain ⟨He,Gm⟩:=Ge;try dsimp only at h
    refine Nj I3 hS fun H hS=> ?_;try simp only [W,Fe]
    refine BJ FV ?_;refine BI ?_;exact CA Fy ⟨_,_,_,_,(Option.some.inj h).symm,rfl,hS⟩
   ·refine BE ?_;refine BJ FV ?_;refine BI ?_;exact CA Fy ⟨_,_,_,_,(Option.some.inj h).symm,rfl,hS⟩
  ·obtain ⟨FN,F9,GZ,G0,rfl,rfl,hS⟩:=hq;replace h:=LB;try dsimp only at h
   refine BJ FC ?_;refine BC fun Iq Ga=> ?_;refine B1 gC ?_;try simp only [W,Fe,Nat.reduceAdd]
   refine Cf _ h fun Gd Uj h=> ?_;try simp only [W]
   refine BJ Ga ?_;refine BF ?_;refine BU Ff rfl ?_;try obtain rfl:=Option.some.inj h
   exact hP _ hS
theorem LC {a0:Fl} {a1:Int} {i0:Nat} {w0:Nat} {r:(Bool×Fl)} (h:HE a0 a1=some r) {F:List It} {H:J} (hS:ap H (⟨.ptr i0 w0 0 0,3,[.agg [.fz (a0.Code.map (AV.int .u8)),.int .i64 a0.Fo,.int .u64 a0.Fw]]⟩::F)) {P:AV→J→Prop} (hP: ∀H',ap H' (⟨.ptr i0 w0 0 0,3,[.agg [.fz (r.2.Code.map (AV.int .u8)),.int .i64 r.2.Fo,.int .u64 r.2.Fw]]⟩::F)→P (.bool r.1) H'):aw C 188 [.ptr i0 w0 0 0,.int .i64 a1] H P:=by
 refine B4 gC (res:=[.tmp 4]) (n:=9) rfl rfl rfl rfl fun K0 Ff=> ?_;simp only [W,Nat.reduceSub,Nat.reduceAdd,List.replicate];unfold HE at h;refine BC fun K1 Fg=> ?_;refine B1 gC ?_;try simp only [W,Nat.reduceAdd]
 refine BJ Fg ?_;refine BC fun K2 zF=> ?_;refine B1 gC ?_;try simp only [W,Nat.reduceAdd]
 refine Cu h fun b3 kV h=> ?_;obtain ⟨Ft,F0⟩:=b3;try dsimp only at h
 refine Hi kV hS fun H hS=> ?_;try simp only [W,Fe]
 refine BJ zF ?_;refine BF ?_;refine BU Ff rfl ?_;try obtain rfl:=Option.some.inj h
 exact hP _ hS
theorem Nm {a0:Fl} {a1:List Int} {i0:Nat} {w0:Nat} {r:(Int×Fl)} (h:HZ a0 a1=some r) {F:List It} {H:J} (hS:ap H (⟨.ptr i0 w0 0 0,3,[.agg [.fz (a0.Code.map (AV.int .u8)),.int .i64 a0.Fo,.int .u64 a0.Fw]]⟩::F)) {P:AV→J→Prop} (hP: ∀H',ap H' (⟨.ptr i0 w0 0 0,3,[.agg [.fz (r.2.Code.map (AV.int .u8)),.int .i64 r.2.Fo,.int .u64 r.2.Fw]]⟩::F)→P (.int .i64 r.1) H'):aw C 163 [.ptr i0 w0 0 0,.fz (a1.map (AV.int .i64))] H P:=by
 refine B4 gC (res:=[.tmp 4]) (n:=12) rfl rfl rfl rfl fun K0 Ff=> ?_;simp only [W,Nat.reduceSub,Nat.reduceAdd,List.replicate];unfold HZ at h;refine BC fun K1 Fg=> ?_;refine B1 gC ?_;try simp only [W,Nat.reduceAdd]
 refine BJ Fg ?_;refine BC fun K2 zF=> ?_;refine B1 gC ?_;try simp only [W,Fe,Nat.reduceAdd]
 refine Cu h fun b3 kV h=> ?_;obtain ⟨Ft,F0⟩:=b3;try dsimp only at h
 refine Hi kV hS fun H hS=> ?_;try simp only [W,Fe]
 refine Co rfl rfl rfl (fun _=>rfl) h fun Gn HN h=> ?_;try simp only [W,Fe]
 refine BJ zF ?_;refine BF ?_;refine BU Ff rfl ?_;try obtain rfl:=Option.some.inj h
 exact hP _ hS
theorem O_ {a0:Fl} {i0:Nat} {w0:Nat} {r:(List Task×Fl)} (h:Jf a0=some r) {F:List It} {H:J} (hS:ap H (⟨.ptr i0 w0 0 0,3,[.agg [.fz (a0.Code.map (AV.int .u8)),.int .i64 a0.Fo,.int .u64 a0.Fw]]⟩::F)) {P:AV→J→Prop} (hP: ∀LD:AV,aJ LD→ ∀H',ap H' (⟨LD,2,r.1.map Fh⟩::⟨.ptr i0 w0 0 0,3,[.agg [.fz (r.2.Code.map (AV.int .u8)),.int .i64 r.2.Fo,.int .u64 r.2.Fw]]⟩::F)→P (LD) H'):aw C 177 [.ptr i0 w0 0 0] H P:=by
 refine B4 gC (res:=[.tmp 2]) (n:=42) rfl rfl rfl rfl fun K0 Ff=> ?_;simp only [W,Nat.reduceSub,Nat.reduceAdd,List.replicate];unfold Jf at h;refine BC fun K1 Fg=> ?_;refine B1 gC ?_;try simp only [W,Nat.reduceAdd]
 refine BJ Fg ?_;refine BC fun K2 zF=> ?_;refine B1 gC ?_;try simp only [W,Nat.reduceAdd]
 refine BJ zF ?_;refine BC fun K3 Fs=> ?_;refine B1 gC ?_;try simp only [W,Nat.reduceAdd]
 refine Cu h fun Ft GU h=> ?_;obtain ⟨F0,Gn⟩:=Ft;try dsimp only at h
 refine Hi GU hS fun H hS=> ?_;try simp only [W]
 refine BJ Fs ?_;refine BC fun K7 FL=> ?_;refine BC fun K8 FB=> ?_;refine B1 gC ?_;try simp only [W,Nat.reduceAdd]
 refine Cu h fun Ky LF h=> ?_;obtain ⟨F3,Jg⟩:=Ky;try dsimp only at h
 refine LC LF hS fun H hS=> ?_;try simp only [W]
 refine BJ FB ?_;obtain ⟨Pa,h,Pb⟩:=Option.bind_eq_some_iff.1 h;refine Cz gC (fun s H=> ∃F9:Int,∃GZ:List Int,∃G0:Int,∃Jh:Int,Pa=(F9,GZ,G0,Jh)∧s=[.ptr i0 w0 0 0,u,u,.nil,.int .i64 F9,u,u,u,u,u,u,u,u,u,u,u,u,u,u,u,u,u,u,u,u,u,u,u,u,u,u,u,u,u,u,u,u,u,u,u,u,u]∧ap H (⟨.ptr i0 w0 0 0,3,[.agg [.fz (GZ.map (AV.int .u8)),.int .i64 G0,.int .u64 Jh]]⟩::F)) (fun HO FV=> ?_) (fun s H hq=> ?_)
 ·refine BC fun I4 Gb=> ?_;refine BH ?_;simp only [W];refine B0 h (fun hc h=> ?_) (fun hc h=> ?_)
  ·refine B1 gC ?_;try simp only [W,Nat.reduceAdd]
   refine Cu h fun He LG h=> ?_;obtain ⟨Gm,G3⟩:=He;try dsimp only at h
   refine Hi LG hS fun H hS=> ?_;try simp only [W,Fe]
   refine BJ Gb ?_;refine BI ?_;exact CA FV ⟨_,_,_,_,(Option.some.inj h).symm,rfl,hS⟩
  ·refine BE ?_;refine BJ Gb ?_;refine BI ?_;exact CA FV ⟨_,_,_,_,(Option.some.inj h).symm,rfl,hS⟩
 ·obtain ⟨F9,GZ,G0,Jh,rfl,rfl,hS⟩:=hq;replace h:=Pb;try dsimp only at h
  refine BJ FL ?_;refine BC fun JS G7=> ?_;obtain ⟨Pc,Pd,LH⟩:=Option.bind_eq_some_iff.1 h;refine Cz gC (fun s H=> ∃Gj:List Task,∃II:List Int,∃IJ:Int,∃F2:Int,Pc=(Gj,II,IJ,F2)∧ ∃Hv:AV,aJ Hv∧s=[.ptr i0 w0 0 0,u,u,Hv,u,u,u,u,u,u,u,u,u,u,u,u,u,u,u,u,u,u,u,u,u,u,u,u,u,u,u,u,u,u,u,u,u,u,u,u,u,u]∧ap H (⟨Hv,2,Gj.map Fh⟩::⟨.ptr i0 w0 0 0,3,[.agg [.fz (II.map (AV.int .u8)),.int .i64 IJ,.int .u64 F2]]⟩::F)) (fun Nn JT=> ?_) (fun s H hq=> ?_)
  ·refine BD fun Np I5=> ?_;refine Cv gC Pd (fun x s H=>match x with|(Gp,F4,Hf,F1,Gq)=> ∃JU:AV,aJ JU∧s=[.ptr i0 w0 0 0,u,u,JU,.int .i64 F4,u,u,u,u,u,u,u,u,u,u,u,u,u,u,u,u,u,u,u,u,u,u,u,u,u,u,u,u,u,u,u,u,u,u,u,u,u]∧ap H (⟨JU,2,Gp.map Fh⟩::⟨.ptr i0 w0 0 0,3,[.agg [.fz (Hf.map (AV.int .u8)),.int .i64 F1,.int .u64 Gq]]⟩::F)) ⟨_,lN,rfl,(hS.uX 2)⟩ (fun x Nq s H h Pe hi LI G8=> ?_)
   obtain ⟨Gp,F4,Hf,F1,Gq⟩:=x;try dsimp only at hi
   obtain ⟨JU,KT,rfl,hS⟩:=hi;simp only [Lt] at h;refine BC fun LJ G9=> ?_;refine BC fun KU Hk=> ?_;refine B1 gC ?_;try simp only [W,Fe,Nat.reduceAdd]
   refine BJ Hk ?_;refine BH ?_;simp only [W];refine B0 h (fun hc h=> ?_) (fun hc h=> ?_)
   ·refine BE ?_;refine BJ G9 ?_;refine BC fun Pf LK=> ?_;refine BD fun Pg LL=> ?_;refine B1 gC ?_;try simp only [W,Nat.reduceAdd]
    refine Cu h fun KJ Nr h=> ?_;obtain ⟨Ki,MN⟩:=KJ;try dsimp only at h
    refine Hi Nr (hS.C2 2 [1,0] (by decide)) fun H hS=> ?_
    try simp only [W,Fe]
    refine Cu h fun JV LM h=> ?_;obtain ⟨H4,H7⟩:=JV;try dsimp only at h
    refine Hi LM hS fun H hS=> ?_;try simp only [W,Fe]
    refine C_ rfl rfl rfl rfl rfl ?_;try simp only [W]
    refine Ct (el:=([(⟨(IntKind.i64.wrap (1+Ki)),H4⟩:Task)]:List Task).map Fh) hS rfl rfl rfl rfl rfl rfl rfl fun Ph H Ns hS=> ?_;try simp only [W,Fe]
    refine CM (l:=Gp) (c:=Fh) 2 hS rfl KT rfl rfl rfl (hS.gZ 0 rfl Ns) (fun _=>rfl) rfl h fun Pj H GL LN hm h hS=> ?_;try simp only [W]
    refine BN LL ?_;refine BJ LK ?_;refine B1 gC ?_;try simp only [W,Fe,Nat.reduceAdd]
    exact Cw G8 h ⟨_,LN,rfl,(hS.C2 3 [2,1] (by decide))⟩
   ·refine BG ?_;refine BL G9 ?_;try obtain rfl:=Option.some.inj h
    obtain rfl:=Pe _ rfl;have h:(some (Gp,Hf,F1,Gq):Option ((List Task)×(List Int)×Int×Int))=some (Gp,Hf,F1,Gq):=rfl;refine Cx G8 ?_;refine BP I5 ?_;exact CA JT ⟨_,_,_,_,(Option.some.inj h).symm,_,KT,rfl,hS⟩
  ·obtain ⟨Gj,II,IJ,F2,rfl,Hv,JW,rfl,hS⟩:=hq;replace h:=LH;try dsimp only at h
   refine BJ G7 ?_;refine BC fun LO Ir=> ?_;refine BC fun Uk Pk=> ?_;obtain ⟨Pl,h,Pm⟩:=Option.bind_eq_some_iff.1 h;refine Cz gC (fun s H=> ∃Ji:Bool,∃IK:List Int,∃Gk:Int,∃IL:Int,Pl=(Ji,IK,Gk,IL)∧s=[.ptr i0 w0 0 0,u,u,Hv,u,u,u,u,u,u,u,u,u,u,u,u,u,u,u,u,u,u,u,u,u,u,u,u,u,u,u,.bool Ji,u,u,u,u,u,u,u,u,u,u]∧ap H (⟨Hv,2,Gj.map Fh⟩::⟨.ptr i0 w0 0 0,3,[.agg [.fz (IK.map (AV.int .u8)),.int .i64 Gk,.int .u64 IL]]⟩::F)) (fun Nt Is=> ?_) (fun s H hq=> ?_)
   ·refine BC fun Pn I6=> ?_;refine B1 gC ?_;try simp only [W,Fe,Nat.reduceAdd]
    refine uE 0 hS rfl JW rfl ?_;try simp only [W,Fe]
    refine C8 h (fun hc h=> ?_) (fun hc h=> ?_)
    ·try simp only [W,hc]
     refine Cu h fun Po Pp h=> ?_;obtain ⟨MO,Hg⟩:=Po;try dsimp only at h
     refine LC Pp (hS.C2 2 [1,0] (by decide)) fun H hS=> ?_
     try simp only [W,reduceIte]
     refine BJ I6 ?_;refine BI ?_;exact CA Is ⟨_,_,_,_,(Option.some.inj h).symm,rfl,(hS.C2 2 [1,0] (by decide))⟩
    ·try simp only [W,hc]
     refine BJ I6 ?_;refine BI ?_;exact CA Is ⟨_,_,_,_,(Option.some.inj h).symm,rfl,hS⟩
   ·obtain ⟨Ji,IK,Gk,IL,rfl,rfl,hS⟩:=hq;replace h:=Pm;try dsimp only at h
    refine BJ Pk ?_;obtain ⟨Pq,h,Pr⟩:=Option.bind_eq_some_iff.1 h;refine Cz gC (fun s H=> ∃Jj:List Task,∃Jk:List Int,∃Jl:Int,∃Jm:Int,Pq=(Jj,Jk,Jl,Jm)∧s=[u,u,u,Hv,u,u,u,u,u,u,u,u,u,u,u,u,u,u,u,u,u,u,u,u,u,u,u,u,u,u,u,u,u,u,u,u,u,u,u,u,u,u]∧ap H (⟨Hv,2,Jj.map Fh⟩::⟨.ptr i0 w0 0 0,3,[.agg [.fz (Jk.map (AV.int .u8)),.int .i64 Jl,.int .u64 Jm]]⟩::F)) (fun Ul Nu=> ?_) (fun s H hq=> ?_)
    ·refine BC fun Ps KV=> ?_;refine BH ?_;simp only [W];refine B0 h (fun hc h=> ?_) (fun hc h=> ?_)
     ·refine B2 (fz:=[(3,[([34],[.sl [.sc]])]),(6,[([37],[.sl [.sc]])])]) gC ?_;try simp only [W,Nat.reduceAdd,Nat.reduceBEq]
      refine Ct (el:=([0,20,21]:List Int).map (AV.int .i64)) hS rfl rfl rfl rfl rfl rfl rfl fun Um H Pt hS=> ?_;try simp only [W,Nat.reduceAdd]
      refine CO 0 hS rfl Pt rfl (fun _ _=>by simp [aR,aO,dD]) (fun _=>rfl) fun H rY hS=> ?_
      try simp only [W]
      refine Cu h fun Pu Pv h=> ?_;obtain ⟨H8,MP⟩:=Pu;try dsimp only at h
      refine Nm Pv (hS.C2 2 [1,0] (by decide)) fun H hS=> ?_
      try simp only [W,Nat.reduceAdd,Nat.reduceBEq]
      refine Ct (el:=([-1,200,201]:List Int).map (AV.int .i64)) hS rfl rfl rfl rfl rfl rfl rfl fun Un H Pw hS=> ?_;try simp only [W,Nat.reduceAdd,Nat.reduceBEq]
      refine CO 0 hS rfl Pw rfl (fun _ _=>by simp [aR,aO,dD]) (fun _=>rfl) fun H rY hS=> ?_
      try simp only [W]
      refine Cu h fun Px Py h=> ?_;obtain ⟨Kj,IM⟩:=Px;try dsimp only at h
      refine Nm Py hS fun H hS=> ?_;try simp only [W,Fe,Nat.reduceAdd,Nat.reduceBEq]
      refine C_ rfl rfl rfl rfl rfl ?_;try simp only [W,Fe,Nat.reduceAdd,Nat.reduceBEq]
      refine Cp 1 hS rfl rfl rfl rfl rfl h (fun Kn Uo Uq Ur Nv h Nw=> ?_) JW.ne;obtain ⟨Us,Ut,Uu⟩:=hS.elem 1 rfl Nw Nv;try simp only [W,Nat.reduceAdd,Nat.reduceBEq]
      refine Cq (a:= .agg [.int .i64 H8,.int .i64 Kj]) (y' :=(⟨H8,Kj⟩:Task)) 1 hS rfl Nw Nv rfl rfl rfl rfl rfl rfl rfl fun H hS=> ?_
      try simp only [W,Nat.reduceAdd]
      refine BJ KV ?_;refine BI ?_;exact CA Nu ⟨_,_,_,_,(Option.some.inj h).symm,rfl,(hS.C2 2 [1,0] (by decide))⟩
     ·refine BE ?_;refine BJ KV ?_;refine BI ?_;exact CA Nu ⟨_,_,_,_,(Option.some.inj h).symm,rfl,hS⟩
    ·obtain ⟨Jj,Jk,Jl,Jm,rfl,rfl,hS⟩:=hq;replace h:=Pr;try dsimp only at h
     refine BJ Ir ?_;refine BC fun Uv Pz=> ?_;refine B1 gC ?_;try simp only [W,Nat.reduceAdd]
     refine BJ Pz ?_;refine BF ?_;refine BU Ff rfl ?_;try obtain rfl:=Option.some.inj h
     exact hP _ JW _ hS
theorem PA {a0:Fl} {a1:Int} {i0:Nat} {w0:Nat} {r:(List Int×Fl)} (h:Jp a0 a1=some r) {F:List It} {H:J} (hS:ap H (⟨.ptr i0 w0 0 0,3,[.agg [.fz (a0.Code.map (AV.int .u8)),.int .i64 a0.Fo,.int .u64 a0.Fw]]⟩::F)) {P:AV→J→Prop} (hP: ∀KW:AV,aJ KW→ ∀H',ap H' (⟨KW,1,r.1.map (AV.int .i64)⟩::⟨.ptr i0 w0 0 0,3,[.agg [.fz (r.2.Code.map (AV.int .u8)),.int .i64 r.2.Fo,.int .u64 r.2.Fw]]⟩::F)→P (KW) H'):aw C 178 [.ptr i0 w0 0 0,.int .i64 a1] H P:=by
 refine B4 gC (res:=[.tmp 4]) (n:=65) rfl rfl rfl rfl fun K0 Ff=> ?_;simp only [W,Nat.reduceSub,Nat.reduceAdd,List.replicate];unfold Jp at h;refine BC fun K1 Fg=> ?_;refine B1 gC ?_;try simp only [W,Nat.reduceAdd]
 refine BJ Fg ?_;refine BC fun K2 zF=> ?_;refine B1 gC ?_;try simp only [W,Nat.reduceAdd]
 refine BJ zF ?_;refine BC fun K3 Fs=> ?_;refine BC fun K4 FW=> ?_;refine B1 gC ?_;try simp only [W,Nat.reduceAdd]
 refine BJ FW ?_;obtain ⟨G_,LP,LQ⟩:=Option.bind_eq_some_iff.1 h;refine Cz gC (fun s H=> ∃FG:List Int,G_=(FG)∧ ∃v10:AV,aJ v10∧s=(.ptr i0 w0 0 0:: .int .i64 a1::u::u::u::v10::u::u::u::u::u::u::u::u::u::u::u::u::u::u::u::u::u::u::u::u::u::u::u::u::u::u::u::u::u::u::u::u::u::u::u::u::u::u::u::u::u::u::u::u::u::u::u::u::u::u::u::u::u::u::u::u::u::u::u::[])∧ap H (⟨v10,1,FG.map (AV.int .i64)⟩::⟨.ptr i0 w0 0 0,3,[.agg [.fz (a0.Code.map (AV.int .u8)),.int .i64 a0.Fo,.int .u64 a0.Fw]]⟩::F)) (fun GQ FF=> ?_) (fun s H hq=> ?_)
 ·refine BD fun Hh FK=> ?_;refine Cv gC LP (fun x s H=>match x with|(Fi,Fu)=> ∃v6:AV,aJ v6∧s=(.ptr i0 w0 0 0:: .int .i64 a1::u::u::u::v6:: .int .i64 Fu::u::u::u::u::u::u::u::u::u::u::u::u::u::u::u::u::u::u::u::u::u::u::u::u::u::u::u::u::u::u::u::u::u::u::u::u::u::u::u::u::u::u::u::u::u::u::u::u::u::u::u::u::u::u::u::u::u::u::[])∧ap H (⟨v6,1,Fi.map (AV.int .i64)⟩::⟨.ptr i0 w0 0 0,3,[.agg [.fz (a0.Code.map (AV.int .u8)),.int .i64 a0.Fo,.int .u64 a0.Fw]]⟩::F)) ⟨_,lN,rfl,(hS.uX 1)⟩ (fun x PB s H h LS hi GR FA=> ?_)
  obtain ⟨Fi,Fu⟩:=x;try dsimp only at hi
  obtain ⟨v6,GG,rfl,hS⟩:=hi;simp only [Lu] at h;refine BC fun I4 Gb=> ?_;refine BC fun Hw FX=> ?_;refine B1 gC ?_;try simp only [W,Fe,Nat.reduceAdd]
  refine BJ FX ?_;refine BH ?_;simp only [W];refine B0 h (fun hc h=> ?_) (fun hc h=> ?_)
  ·refine BE ?_;refine BJ Gb ?_;refine BC fun Hy FY=> ?_;refine BD fun Iq Ga=> ?_;refine B1 gC ?_;try simp only [W,Nat.reduceAdd]
   refine Ct (el:=([Fu]:List Int).map (AV.int .i64)) hS rfl rfl rfl rfl rfl rfl rfl fun Uw H PC hS=> ?_;try simp only [W,Fe]
   refine CM (l:=Fi) (c:=(AV.int .i64)) 1 hS rfl GG rfl rfl rfl (hS.gZ 0 rfl PC) (fun _=>rfl) rfl h fun PD H MQ LU hm h hS=> ?_;try simp only [W]
   refine BN Ga ?_;refine BJ FY ?_;refine B1 gC ?_;try simp only [W,Fe,Nat.reduceAdd]
   exact Cw FA h ⟨_,LU,rfl,(hS.C2 3 [1,2] (by decide))⟩
  ·refine BG ?_;refine BL Gb ?_;try obtain rfl:=Option.some.inj h
   obtain rfl:=LS _ rfl;have h:(some (Fi):Option ((List Int)))=some (Fi):=rfl;refine Cx FA ?_;refine BP FK ?_;exact CA FF ⟨_,(Option.some.inj h).symm,_,GG,rfl,hS⟩
 ·obtain ⟨FG,Fp,v10,HP,rfl,hS⟩:=hq;obtain rfl:=Fp.symm;replace h:=LQ;try dsimp only at h
  refine BJ Fs ?_;refine BC fun LV Iu=> ?_;refine BC fun KX Hl=> ?_;refine B1 gC ?_;try simp only [W,Nat.reduceAdd]
  refine Cu h fun PE PF h=> ?_;obtain ⟨MS,H9⟩:=PE;try dsimp only at h
  refine Hi PF (hS.C2 2 [1,0] (by decide)) fun H hS=> ?_
  try simp only [W]
  refine BJ Hl ?_;obtain ⟨PG,PH,PI⟩:=Option.bind_eq_some_iff.1 h;refine Cz gC (fun s H=> ∃HI:List Int,∃GM:List Int,∃IN:Int,∃IP:Int,PG=(HI,GM,IN,IP)∧s=(.ptr i0 w0 0 0:: .int .i64 a1::u::u::u::v10::u::u::u::u::u::u::u::u::u::u::u::u::u::u::u::u::u::u::u::u::u::u::u::u::u::u::u::u::u::u::u::u::u::u::u::u::u::u::u::u::u::u::u::u::u::u::u::u::u::u::u::u::u::u::u::u::u::u::u::[])∧ap H (⟨v10,1,HI.map (AV.int .i64)⟩::⟨.ptr i0 w0 0 0,3,[.agg [.fz (GM.map (AV.int .u8)),.int .i64 IN,.int .u64 IP]]⟩::F)) (fun Pf LK=> ?_) (fun s H hq=> ?_)
  ·refine BD fun Pg LL=> ?_;refine Cv gC PH (fun x s H=>match x with|(F2,HF,Gr,HG,HH)=>s=(.ptr i0 w0 0 0:: .int .i64 a1::u::u::u::v10::u:: .int .i64 HF::u::u::u::u::u::u::u::u::u::u::u::u::u::u::u::u::u::u::u::u::u::u::u::u::u::u::u::u::u::u::u::u::u::u::u::u::u::u::u::u::u::u::u::u::u::u::u::u::u::u::u::u::u::u::u::u::u::[])∧ap H (⟨v10,1,F2.map (AV.int .i64)⟩::⟨.ptr i0 w0 0 0,3,[.agg [.fz (Gr.map (AV.int .u8)),.int .i64 HG,.int .u64 HH]]⟩::F)) ⟨rfl,(hS.C2 2 [1,0] (by decide))⟩ (fun x Ux s H h PJ hi PK Iv=> ?_)
   obtain ⟨F2,HF,Gr,HG,HH⟩:=x;try dsimp only at hi
   obtain ⟨rfl,hS⟩:=hi;simp only [Lv] at h;refine BC fun Nx JX=> ?_;refine BC fun Uy PM=> ?_;obtain ⟨PN,h,PO⟩:=Option.bind_eq_some_iff.1 h;refine Cz gC (fun s H=> ∃Jn:Bool,PN=(Jn)∧s=(.ptr i0 w0 0 0:: .int .i64 a1::u::u::u::v10::u:: .int .i64 HF::u::u::u::u::u::u::u::u::u::u::u::u::u::u::u::u::u::u::u:: .bool Jn::u::u::u::u::u::u::u::u::u::u::u::u::u::u::u::u::u::u::u::u::u::u::u::u::u::u::u::u::u::u::u::u::u::u::u::u::u::[])∧ap H (⟨v10,1,F2.map (AV.int .i64)⟩::⟨.ptr i0 w0 0 0,3,[.agg [.fz (Gr.map (AV.int .u8)),.int .i64 HG,.int .u64 HH]]⟩::F)) (fun PP KY=> ?_) (fun s H hq=> ?_)
   ·refine BC fun Uz Ny=> ?_;refine B1 gC ?_;try simp only [W,Fe,Nat.reduceAdd]
    refine C8 h (fun hc h=> ?_) (fun hc h=> ?_)
    ·try simp only [W,Fe,reduceIte,hc]
     refine BJ Ny ?_;refine EB (s' :=(.ptr i0 w0 0 0:: .int .i64 a1::u::u::u::v10::u:: .int .i64 HF::u::u::u::u::u::u::u::u::u::u::u::u::u::u::u::u::u::u::u:: .bool (decide (1<a1))::u::u::u::u::u::u::u::u::u::u::u::u::u::u::u::u::u::u::u::u::u::u::u::u::u::u::u::u::u::u::u::u::u::u::u::u::u::[])) rfl ?_
     exact CA KY ⟨_,(Option.some.inj h).symm,rfl,hS⟩
    ·try simp only [W,hc]
     refine BJ Ny ?_;refine EB (s' :=(.ptr i0 w0 0 0:: .int .i64 a1::u::u::u::v10::u:: .int .i64 HF::u::u::u::u::u::u::u::u::u::u::u::u::u::u::u::u::u::u::u:: .bool false::u::u::u::u::u::u::u::u::u::u::u::u::u::u::u::u::u::u::u::u::u::u::u::u::u::u::u::u::u::u::u::u::u::u::u::u::u::[])) rfl ?_
     exact CA KY ⟨_,(Option.some.inj h).symm,rfl,hS⟩
   ·obtain ⟨Jn,Fp,rfl,hS⟩:=hq;obtain rfl:=Fp.symm;replace h:=PO;try dsimp only at h
    refine BJ PM ?_;refine BH ?_;simp only [W];refine B0 h (fun hc h=> ?_) (fun hc h=> ?_)
    ·refine BE ?_;refine BJ JX ?_;refine BC fun Nz Iw=> ?_;refine BD fun NA Ix=> ?_;refine BC fun LO Ir=> ?_;refine B1 gC ?_;try simp only [W,Nat.reduceAdd]
     refine Cu h fun PQ PR h=> ?_;obtain ⟨Jo,MR⟩:=PQ;try dsimp only at h
     refine Hi PR (hS.C2 2 [1,0] (by decide)) fun H hS=> ?_
     try simp only [W]
     refine BJ Ir ?_;refine BC fun UA PS=> ?_;refine B1 gC ?_;try simp only [W,Nat.reduceAdd]
     refine Cu h fun PT PU h=> ?_;obtain ⟨Kk,Kl⟩:=PT;try dsimp only at h
     refine Hi PU hS fun H hS=> ?_;try simp only [W]
     refine BJ PS ?_;refine BC fun Nt Is=> ?_;refine B1 gC ?_;try simp only [W,Fe,Nat.reduceAdd]
     refine Cp 1 hS rfl rfl rfl rfl rfl h (fun Km UB UC UE PV h PW=> ?_) HP.ne;obtain ⟨UF,PX,PY⟩:=hS.elem 1 rfl PW PV;try simp only [W,Fe,PX,PY]
     refine BJ Is ?_;refine BC fun UG PZ=> ?_;refine B1 gC ?_;try simp only [W,Fe,Nat.reduceAdd]
     refine Cp 1 hS rfl rfl rfl rfl rfl h (fun Hg UH UI UJ P0 h P1=> ?_) HP.ne;obtain ⟨UK,P2,P3⟩:=hS.elem 1 rfl P1 P0;try simp only [W,Fe,P2,P3]
     refine Cp 1 hS rfl rfl rfl rfl rfl h (fun UL UM UN UO NB h NC=> ?_) HP.ne;obtain ⟨UP,UQ,UR⟩:=hS.elem 1 rfl NC NB;try simp only [W]
     refine Cq (a:= .int .i64 Hg) (y' :=Hg) 1 hS rfl NC NB rfl rfl rfl rfl rfl rfl rfl fun H hS=> ?_
     try simp only [W]
     refine BJ PZ ?_;refine B1 gC ?_;try simp only [W,Fe,Nat.reduceAdd]
     refine Cp 1 hS rfl rfl rfl rfl rfl h (fun US UT UU UW ND h NE=> ?_) HP.ne;obtain ⟨UX,UY,UZ⟩:=hS.elem 1 rfl NE ND;try simp only [W]
     refine Cq (a:= .int .i64 Km) (y' :=Km) 1 hS rfl NE ND rfl rfl rfl rfl rfl rfl rfl fun H hS=> ?_
     try simp only [W]
     refine BN Ix ?_;refine BJ Iw ?_;refine B1 gC ?_;try simp only [W,Fe,Nat.reduceAdd]
     exact Cw Iv h ⟨rfl,(hS.C2 2 [1,0] (by decide))⟩
    ·refine BG ?_;refine BL JX ?_;try obtain rfl:=Option.some.inj h
     obtain rfl:=PJ _ rfl;have h:(some (F2,Gr,HG,HH):Option ((List Int)×(List Int)×Int×Int))=some (F2,Gr,HG,HH):=rfl;refine Cx Iv ?_;refine BP LL ?_;exact CA LK ⟨_,_,_,_,(Option.some.inj h).symm,rfl,hS⟩
  ·obtain ⟨HI,GM,IN,IP,rfl,rfl,hS⟩:=hq;replace h:=PI;try dsimp only at h
   refine BJ Iu ?_;refine BC fun Ps KV=> ?_;refine BC fun U0 P4=> ?_;obtain ⟨P5,h,P6⟩:=Option.bind_eq_some_iff.1 h;refine Cz gC (fun s H=> ∃Jq:Bool,∃IQ:List Int,∃IS:Int,∃IT:Int,P5=(Jq,IQ,IS,IT)∧s=(.ptr i0 w0 0 0:: .int .i64 a1::u::u::u::v10::u::u::u::u::u::u::u::u::u::u::u::u::u::u::u::u::u::u::u::u::u::u::u::u::u::u::u::u::u::u::u::u::u::u::u::u::u::u::u::u::u::u::u::u::u::u::u::u::u::u:: .bool Jq::u::u::u::u::u::u::u::u::[])∧ap H (⟨v10,1,HI.map (AV.int .i64)⟩::⟨.ptr i0 w0 0 0,3,[.agg [.fz (IQ.map (AV.int .u8)),.int .i64 IS,.int .u64 IT]]⟩::F)) (fun U1 NF=> ?_) (fun s H hq=> ?_)
   ·refine BC fun U2 NG=> ?_;refine B1 gC ?_;try simp only [W,Fe,Nat.reduceAdd]
    refine C8 h (fun hc h=> ?_) (fun hc h=> ?_)
    ·try simp only [W,hc]
     refine Cu h fun IM P7 h=> ?_;obtain ⟨Kn,Ko⟩:=IM;try dsimp only at h
     refine LC P7 (hS.C2 2 [1,0] (by decide)) fun H hS=> ?_
     try simp only [W,reduceIte]
     refine BJ NG ?_;refine EB (s' :=(.ptr i0 w0 0 0:: .int .i64 a1::u::u::u::v10::u::u::u::u::u::u::u::u::u::u::u::u::u::u::u::u::u::u::u::u::u::u::u::u::u::u::u::u::u::u::u::u::u::u::u::u::u::u::u::u::u::u::u::u::u::u::u::u::u::u:: .bool Kn::u::u::u::u::u::u::u::u::[])) rfl ?_
     exact CA NF ⟨_,_,_,_,(Option.some.inj h).symm,rfl,(hS.C2 2 [1,0] (by decide))⟩
    ·try simp only [W,hc]
     refine BJ NG ?_;refine EB (s' :=(.ptr i0 w0 0 0:: .int .i64 a1::u::u::u::v10::u::u::u::u::u::u::u::u::u::u::u::u::u::u::u::u::u::u::u::u::u::u::u::u::u::u::u::u::u::u::u::u::u::u::u::u::u::u::u::u::u::u::u::u::u::u::u::u::u::u:: .bool false::u::u::u::u::u::u::u::u::[])) rfl ?_
     exact CA NF ⟨_,_,_,_,(Option.some.inj h).symm,rfl,hS⟩
   ·obtain ⟨Jq,IQ,IS,IT,rfl,rfl,hS⟩:=hq;replace h:=P6;try dsimp only at h
    refine BJ P4 ?_;obtain ⟨P8,h,P9⟩:=Option.bind_eq_some_iff.1 h;refine Cz gC (fun s H=> ∃Jr:List Int,∃Js:List Int,∃Jt:Int,∃Ju:Int,P8=(Jr,Js,Jt,Ju)∧s=(u::u::u::u::u::v10::u::u::u::u::u::u::u::u::u::u::u::u::u::u::u::u::u::u::u::u::u::u::u::u::u::u::u::u::u::u::u::u::u::u::u::u::u::u::u::u::u::u::u::u::u::u::u::u::u::u::u::u::u::u::u::u::u::u::u::[])∧ap H (⟨v10,1,Jr.map (AV.int .i64)⟩::⟨.ptr i0 w0 0 0,3,[.agg [.fz (Js.map (AV.int .u8)),.int .i64 Jt,.int .u64 Ju]]⟩::F)) (fun U3 NH=> ?_) (fun s H hq=> ?_)
    ·refine BC fun U4 NI=> ?_;refine BH ?_;simp only [W];refine B0 h (fun hc h=> ?_) (fun hc h=> ?_)
     ·refine B1 gC ?_;try simp only [W,Fe,Nat.reduceAdd]
      refine Cu h fun P_ Qa h=> ?_;obtain ⟨Kp,Kq⟩:=P_;try dsimp only at h
      refine Hi Qa (hS.C2 2 [1,0] (by decide)) fun H hS=> ?_
      try simp only [W,Fe]
      refine Cp 1 hS rfl rfl rfl rfl rfl h (fun KZ U5 U6 U7 K_ h NJ=> ?_) HP.ne;obtain ⟨U8,U9,U_⟩:=hS.elem 1 rfl NJ K_;try simp only [W]
      refine Cq (a:= .int .i64 (IntKind.i64.wrap (Kp-1))) (y' :=(IntKind.i64.wrap (Kp-1))) 1 hS rfl NJ K_ rfl rfl rfl rfl rfl rfl rfl fun H hS=> ?_
      try simp only [W]
      refine BJ NI ?_;refine EB (s' :=(u::u::u::u::u::v10::u::u::u::u::u::u::u::u::u::u::u::u::u::u::u::u::u::u::u::u::u::u::u::u::u::u::u::u::u::u::u::u::u::u::u::u::u::u::u::u::u::u::u::u::u::u::u::u::u::u::u::u::u::u::u::u::u::u::u::[])) rfl ?_
      exact CA NH ⟨_,_,_,_,(Option.some.inj h).symm,rfl,(hS.C2 2 [1,0] (by decide))⟩
     ·refine BE ?_;refine BJ NI ?_;refine EB (s' :=(u::u::u::u::u::v10::u::u::u::u::u::u::u::u::u::u::u::u::u::u::u::u::u::u::u::u::u::u::u::u::u::u::u::u::u::u::u::u::u::u::u::u::u::u::u::u::u::u::u::u::u::u::u::u::u::u::u::u::u::u::u::u::u::u::u::[])) rfl ?_
      exact CA NH ⟨_,_,_,_,(Option.some.inj h).symm,rfl,hS⟩
    ·obtain ⟨Jr,Js,Jt,Ju,rfl,rfl,hS⟩:=hq;replace h:=P9;try dsimp only at h
     refine BJ KV ?_;refine BC fun Va Qb=> ?_;refine B1 gC ?_;try simp only [W,Nat.reduceAdd]
     refine BJ Qb ?_;refine BF ?_;refine BU Ff rfl ?_;try obtain rfl:=Option.some.inj h
     exact hP _ HP _ hS
theorem NK {a0:List Int} {r:(List Task×List Int)} (h:IU a0=some r) {F:List It} {H:J} (hS:ap H (F)) {P:AV→J→Prop} (hP: ∀LW:AV,aJ LW→ ∀LX:AV,aJ LX→ ∀H',ap H' (⟨LW,2,r.1.map Fh⟩::⟨LX,1,r.2.map (AV.int .i64)⟩::F)→P (.aA [LW,LX]) H'):aw C 39 [.fz (a0.map (AV.int .u8))] H P:=by
 refine B4 gC (res:=[.tmp 2,.tmp 3]) (n:=16) rfl rfl rfl rfl fun K0 Ff=> ?_;simp only [W,Nat.reduceSub,Nat.reduceAdd,List.replicate];unfold IU at h;refine BC fun K1 Fg=> ?_;refine B1 gC ?_;try simp only [W,Nat.reduceAdd]
 refine BJ Fg ?_;refine BC fun K2 zF=> ?_;refine B1 gC ?_;try simp only [W,Fe,Nat.reduceAdd]
 refine C_ rfl rfl rfl rfl rfl ?_;try simp only [W]
 refine Ch hS rfl rfl rfl rfl fun Vb Vc H hS=> ?_;try simp only [W]
 refine BJ zF ?_;refine BC fun K5 FQ=> ?_;refine B1 gC ?_;try simp only [W,Nat.reduceAdd]
 refine Cu h fun Gn HN h=> ?_;obtain ⟨Fx,Gl⟩:=Gn;try dsimp only at h
 refine O_ HN hS fun Gw Hm H hS=> ?_;try simp only [W]
 refine BJ FQ ?_;refine BC fun JR GC=> ?_;refine B1 gC ?_;try simp only [W,Fe,Nat.reduceAdd]
 refine uE 0 hS rfl Hm rfl ?_;try simp only [W]
 refine Cu h fun Qc Qd h=> ?_;obtain ⟨Jv,Ic⟩:=Qc;try dsimp only at h
 refine PA Qd (hS.C2 2 [1,0] (by decide)) fun Vd Qe H hS=> ?_
 try simp only [W]
 refine BJ GC ?_;refine BF ?_;refine BV Ff rfl rfl ?_;try obtain rfl:=Option.some.inj h
 exact hP _ Hm _ Qe _ (hS.C2 3 [2,0] (by decide))
theorem Qf {a0:List Task} {g1:Task→Option Bool} {f1:FuncId} {c1:List AV} {r:(Int)} (h:Jw a0 g1=some r) {F:List It} {H:J} (cP: ∀{x0:Task} {r:Bool},g1 x0=some r→ ∀(L:List It) (n:Nat),L.drop n=F→ ∀(H:J),ap H L→ ∀(P:AV→J→Prop),(∀H',ap H' L→P (.bool r) H')→aw C f1 ([.agg [.int .i64 x0.Fv,.int .i64 x0.End]] ++ c1) H P) (hS:ap H (F)) {P:AV→J→Prop} (hP: ∀H',ap H' (F)→P (.int .i64 r) H'):aw C 295 [.fz (a0.map Fh),.fn f1 c1] H P:=by
 refine B4 gC (res:=[.tmp 4]) (n:=19) rfl rfl rfl rfl fun K0 Ff=> ?_;simp only [W,Nat.reduceSub,Nat.reduceAdd,List.replicate];unfold Jw at h;refine BC fun K1 Fg=> ?_;refine B1 gC ?_;try simp only [W,Nat.reduceAdd]
 refine BJ Fg ?_;refine BC fun K2 zF=> ?_;refine BC fun K3 Fs=> ?_;refine B1 gC ?_;try simp only [W,Fe,Nat.reduceAdd]
 refine BJ Fs ?_;obtain ⟨GI,Ha,F6⟩:=Option.bind_eq_some_iff.1 h;refine Cz gC (fun s H=>GI=LR.next ()∧s=[u,u,u,u,u,u,u,u,u,u,u,u,u,u,u,u,u,u,u]∧ap H (F)) (fun K7 FL=> ?_) (fun s H hq=> ?_)
 ·refine BD fun K8 FB=> ?_;refine Cv gC Ha (fun x s H=>s=[.fz (a0.map Fh),.fn f1 c1,u,u,u,u,u,.int .i64 (a0.length:Int),.int .i64 x,u,u,u,u,u,u,u,u,u,u]∧ap H (F)) ⟨rfl,hS⟩ (fun Fk G_ s H h Gg hi K9 FC=> ?_)
  skip
  try dsimp only at hi
  obtain ⟨rfl,hS⟩:=hi;simp only [Lw] at h;refine BC fun GQ FF=> ?_;refine B1 gC ?_;try simp only [W,Fe,Nat.reduceAdd]
  refine BJ FF ?_;refine BC fun Hh FK=> ?_;refine BH ?_;simp only [W];refine B0 h (fun hc h=> ?_) (fun hc h=> ?_)
  ·refine BE ?_;refine BJ FK ?_;refine BC fun GR FA=> ?_;refine BD fun GS FD=> ?_;refine BC fun GF Fy=> ?_;refine B1 gC ?_;try simp only [W,Nat.reduceAdd]
   refine BJ Fy ?_;refine BC fun HO FV=> ?_;refine B1 gC ?_;try simp only [W,Fe,Nat.reduceAdd]
   refine Co rfl rfl rfl (fun _=>rfl) h fun Ge I3 h=> ?_;try simp only [W,Fe,F5,reduceIte,Nat.reduceAdd,Nat.reduceLeDiff]
   refine Cu h fun He LG h=> ?_;refine cP LG _ 0 rfl _ hS _ fun H hS=> ?_;try simp only [W]
   refine BJ FV ?_;refine BH ?_;simp only [W];refine B0 h (fun hc h=> ?_) (fun hc h=> ?_)
   ·refine BC fun Hy FY=> ?_;refine B1 gC ?_;try simp only [W,Nat.reduceAdd]
    refine BJ FY ?_;refine BF ?_;refine BR FD ?_;refine BK FA ?_;try obtain rfl:=Option.some.inj h
    obtain rfl:=Gg _ rfl;have h:(some (LR.done Fk):Option (LR Unit (Int)))=some (LR.done Fk):=rfl;refine Cy FC ?_;refine BR FB ?_;try obtain rfl:=Option.some.inj h
    obtain rfl:=Option.some.inj F6;have h:(some Fk:Option (Int))=some Fk:=rfl;refine CC FL ?_;refine BK zF ?_;refine BU Ff rfl ?_;try obtain rfl:=Option.some.inj h
    exact hP _ hS
   ·refine BE ?_;refine BN FD ?_;refine BJ FA ?_;refine B1 gC ?_;try simp only [W,Fe,Nat.reduceAdd]
    exact Cw FC h ⟨rfl,hS⟩
  ·refine BG ?_;refine BL FK ?_;try obtain rfl:=Option.some.inj h
   obtain rfl:=Gg _ rfl;have h:(some (LR.next ()):Option (LR Unit (Int)))=some (LR.next ()):=rfl
   refine Cx FC ?_;refine BP FB ?_;exact CA FL ⟨(Option.some.inj h).symm,rfl,hS⟩
 ·obtain ⟨rfl,rfl,hS⟩:=hq;replace h:=F6;try dsimp only at h
  refine BJ zF ?_;refine BC fun LY Iy=> ?_;refine B1 gC ?_;try simp only [W,Nat.reduceAdd]
  refine BJ Iy ?_;refine BF ?_;refine BU Ff rfl ?_;try obtain rfl:=Option.some.inj h
  exact hP _ hS
theorem Qg {a0:List Task} {g1:Task→Option Bool} {f1:FuncId} {c1:List AV} {r:(Bool)} (h:Jx a0 g1=some r) {F:List It} {H:J} (cP: ∀{x0:Task} {r:Bool},g1 x0=some r→ ∀(L:List It) (n:Nat),L.drop n=F→ ∀(H:J),ap H L→ ∀(P:AV→J→Prop),(∀H',ap H' L→P (.bool r) H')→aw C f1 ([.agg [.int .i64 x0.Fv,.int .i64 x0.End]] ++ c1) H P) (hS:ap H (F)) {P:AV→J→Prop} (hP: ∀H',ap H' (F)→P (.bool r) H'):aw C 205 [.fz (a0.map Fh),.fn f1 c1] H P:=by
 refine B4 gC (res:=[.tmp 4]) (n:=9) rfl rfl rfl rfl fun K0 Ff=> ?_;simp only [W,Nat.reduceSub,Nat.reduceAdd,List.replicate];unfold Jx at h;refine BC fun K1 Fg=> ?_;refine B1 gC ?_;try simp only [W,Nat.reduceAdd]
 refine BJ Fg ?_;refine BC fun K2 zF=> ?_;refine B1 gC ?_;try simp only [W,Nat.reduceAdd]
 refine Cu h fun b3 kV h=> ?_;refine Qf kV cP hS fun H hS=> ?_;try simp only [W,Fe]
 refine BJ zF ?_;refine BF ?_;refine BU Ff rfl ?_;try obtain rfl:=Option.some.inj h
 exact hP _ hS
theorem NL {a0:Int} {a1:Int} {a2:Int} {r:(Bool)} (h:IV a0 a1 a2=some r) {F:List It} {H:J} (hS:ap H (F)) {P:AV→J→Prop} (hP: ∀H',ap H' (F)→P (.bool r) H'):aw C 157 [.int .i64 a0,.int .i64 a1,.int .i64 a2] H P:=by
 refine B4 gC (res:=[.tmp 6]) (n:=15) rfl rfl rfl rfl fun K0 Ff=> ?_;simp only [W,Nat.reduceSub,Nat.reduceAdd,List.replicate];unfold IV at h;refine BC fun K1 Fg=> ?_;refine B1 gC ?_;try simp only [W,Nat.reduceAdd]
 refine BJ Fg ?_;refine BC fun K2 zF=> ?_;refine B1 gC ?_;try simp only [W,Fe,Nat.reduceAdd]
 refine C8 h (fun hc h=> ?_) (fun hc h=> ?_)
 ·try simp only [W,Fe,reduceIte,hc]
  refine BJ zF ?_;refine BF ?_;refine BU Ff rfl ?_;try obtain rfl:=Option.some.inj h
  exact hP _ hS
 ·try simp only [W,hc]
  refine BJ zF ?_;refine BF ?_;refine BU Ff rfl ?_;try obtain rfl:=Option.some.inj h
  exact hP _ hS
theorem Qh {a0:Task} {r:(Bool)} (h:Kr a0=some r) {F:List It} {H:J} (hS:ap H (F)) {P:AV→J→Prop} (hP: ∀H',ap H' (F)→P (.bool r) H'):aw C 206 [.agg [.int .i64 a0.Fv,.int .i64 a0.End]] H P:=by
 refine B4 gC (res:=[.tmp 2]) (n:=13) rfl rfl rfl rfl fun K0 Ff=> ?_;simp only [W,Nat.reduceSub,Nat.reduceAdd,List.replicate];unfold Kr at h;refine BC fun K1 Fg=> ?_;refine B1 gC ?_;try simp only [W,Nat.reduceAdd]
 refine Ch hS rfl rfl rfl rfl fun JY JZ H hS=> ?_;try simp only [W]
 refine BJ Fg ?_;refine BC fun K4 FW=> ?_;refine B1 gC ?_;try simp only [W,Fe,Nat.reduceAdd,Nat.reduceBEq,hS.var 0 rfl]
 refine Cu h fun F0 Qi h=> ?_;refine NL Qi hS fun H hS=> ?_;try simp only [W]
 refine C8 h (fun hc h=> ?_) (fun hc h=> ?_)
 ·try simp only [W,hc]
  refine BJ FW ?_;refine BF ?_;refine BU Ff rfl ?_;try obtain rfl:=Option.some.inj h
  exact hP _ (hS.C2 1 [] (by decide))
 ·try simp only [W,Fe,Nat.reduceAdd,Nat.reduceBEq,hS.var 0 rfl,hc]
  refine Cu h fun Gn HN h=> ?_;refine NL HN hS fun H hS=> ?_;try simp only [W,reduceIte,Bool.false_eq_true]
  refine BJ FW ?_;refine BF ?_;refine BU Ff rfl ?_;try obtain rfl:=Option.some.inj h
  exact hP _ (hS.C2 1 [] (by decide))
theorem NM {a0:List Task} {r:(Bool)} (h:IW a0=some r) {F:List It} {H:J} (hS:ap H (F)) {P:AV→J→Prop} (hP: ∀H',ap H' (F)→P (.bool r) H'):aw C 66 [.fz (a0.map Fh)] H P:=by
 refine B4 gC (res:=[.tmp 2]) (n:=11) rfl rfl rfl rfl fun K0 Ff=> ?_;simp only [W,Nat.reduceSub,Nat.reduceAdd,List.replicate];unfold IW at h;refine BC fun K1 Fg=> ?_;refine B1 gC ?_;try simp only [W,Nat.reduceAdd]
 refine BJ Fg ?_;refine BC fun K2 zF=> ?_;refine B1 gC ?_;try simp only [W,Fe,Nat.reduceAdd]
 refine C8 h (fun hc h=> ?_) (fun hc h=> ?_)
 ·try simp only [W,hc]
  refine Cu h fun b3 kV h=> ?_;refine Qg kV (fun h _ n hL _ hS _ hP=>Qh h hS hP) hS fun H hS=> ?_;try simp only [W,reduceIte]
  refine BJ zF ?_;refine BF ?_;refine BU Ff rfl ?_;try obtain rfl:=Option.some.inj h
  exact hP _ hS
 ·try simp only [W,hc]
  refine BJ zF ?_;refine BF ?_;refine BU Ff rfl ?_;try obtain rfl:=Option.some.inj h
  exact hP _ hS
theorem Qj {a0:List Int} {a1:Int} {r:(Int)} (h:Kt a0 a1=some r) {F:List It} {H:J} (hS:ap H (F)) {P:AV→J→Prop} (hP: ∀H',ap H' (F)→P (.int .i64 r) H'):aw C 291 [.fz (a0.map (AV.int .i64)),.int .i64 a1] H P:=by
 refine B4 gC (res:=[.tmp 4]) (n:=19) rfl rfl rfl rfl fun K0 Ff=> ?_;simp only [W,Nat.reduceSub,Nat.reduceAdd,List.replicate];unfold Kt at h;refine BC fun K1 Fg=> ?_;refine B1 gC ?_;try simp only [W,Nat.reduceAdd]
 refine BJ Fg ?_;refine BC fun K2 zF=> ?_;refine BC fun K3 Fs=> ?_;refine B1 gC ?_;try simp only [W,Fe,Nat.reduceAdd]
 refine BJ Fs ?_;obtain ⟨GI,Ha,F6⟩:=Option.bind_eq_some_iff.1 h;refine Cz gC (fun s H=>GI=LR.next ()∧s=[u,u,u,u,u,u,u,u,u,u,u,u,u,u,u,u,u,u,u]∧ap H (F)) (fun K7 FL=> ?_) (fun s H hq=> ?_)
 ·refine BD fun K8 FB=> ?_;refine Cv gC Ha (fun x s H=>s=[.fz (a0.map (AV.int .i64)),.int .i64 a1,u,u,u,u,u,.int .i64 (a0.length:Int),.int .i64 x,u,u,u,u,u,u,u,u,u,u]∧ap H (F)) ⟨rfl,hS⟩ (fun Fk G_ s H h Gg hi K9 FC=> ?_)
  skip
  try dsimp only at hi
  obtain ⟨rfl,hS⟩:=hi;simp only [Ks] at h;refine BC fun GQ FF=> ?_;refine B1 gC ?_;try simp only [W,Fe,Nat.reduceAdd]
  refine BJ FF ?_;refine BC fun Hh FK=> ?_;refine BH ?_;simp only [W];refine B0 h (fun hc h=> ?_) (fun hc h=> ?_)
  ·refine BE ?_;refine BJ FK ?_;refine BC fun GR FA=> ?_;refine BD fun GS FD=> ?_;refine BC fun GF Fy=> ?_;refine B1 gC ?_;try simp only [W,Nat.reduceAdd]
   refine BJ Fy ?_;refine BC fun HO FV=> ?_;refine B1 gC ?_;try simp only [W,Fe,Nat.reduceAdd]
   refine Co rfl rfl rfl (fun _=>rfl) h fun Ge I3 h=> ?_;try simp only [W,Fe]
   refine BJ FV ?_;refine BH ?_;simp only [W];refine B0 h (fun hc h=> ?_) (fun hc h=> ?_)
   ·refine BC fun Hw FX=> ?_;refine B1 gC ?_;try simp only [W,Nat.reduceAdd]
    refine BJ FX ?_;refine BF ?_;refine BR FD ?_;refine BK FA ?_;try obtain rfl:=Option.some.inj h
    obtain rfl:=Gg _ rfl;have h:(some (LR.done Fk):Option (LR Unit (Int)))=some (LR.done Fk):=rfl;refine Cy FC ?_;refine BR FB ?_;try obtain rfl:=Option.some.inj h
    obtain rfl:=Option.some.inj F6;have h:(some Fk:Option (Int))=some Fk:=rfl;refine CC FL ?_;refine BK zF ?_;refine BU Ff rfl ?_;try obtain rfl:=Option.some.inj h
    exact hP _ hS
   ·refine BE ?_;refine BN FD ?_;refine BJ FA ?_;refine B1 gC ?_;try simp only [W,Fe,Nat.reduceAdd]
    exact Cw FC h ⟨rfl,hS⟩
  ·refine BG ?_;refine BL FK ?_;try obtain rfl:=Option.some.inj h
   obtain rfl:=Gg _ rfl;have h:(some (LR.next ()):Option (LR Unit (Int)))=some (LR.next ()):=rfl
   refine Cx FC ?_;refine BP FB ?_;exact CA FL ⟨(Option.some.inj h).symm,rfl,hS⟩
 ·obtain ⟨rfl,rfl,hS⟩:=hq;replace h:=F6;try dsimp only at h
  refine BJ zF ?_;refine BC fun I7 Gx=> ?_;refine B1 gC ?_;try simp only [W,Nat.reduceAdd]
  refine BJ Gx ?_;refine BF ?_;refine BU Ff rfl ?_;try obtain rfl:=Option.some.inj h
  exact hP _ hS
theorem Qk {a0:List Int} {a1:Int} {r:(Bool)} (h:Jy a0 a1=some r) {F:List It} {H:J} (hS:ap H (F)) {P:AV→J→Prop} (hP: ∀H',ap H' (F)→P (.bool r) H'):aw C 290 [.fz (a0.map (AV.int .i64)),.int .i64 a1] H P:=by
 refine B4 gC (res:=[.tmp 4]) (n:=9) rfl rfl rfl rfl fun K0 Ff=> ?_;simp only [W,Nat.reduceSub,Nat.reduceAdd,List.replicate];unfold Jy at h;refine BC fun K1 Fg=> ?_;refine B1 gC ?_;try simp only [W,Nat.reduceAdd]
 refine BJ Fg ?_;refine BC fun K2 zF=> ?_;refine B1 gC ?_;try simp only [W,Nat.reduceAdd]
 refine Cu h fun b3 kV h=> ?_;refine Qj kV hS fun H hS=> ?_;try simp only [W,Fe]
 refine BJ zF ?_;refine BF ?_;refine BU Ff rfl ?_;try obtain rfl:=Option.some.inj h
 exact hP _ hS
theorem Ql {a0:List Int} {a1:Int} {r:(Bool)} (h:Jz a0 a1=some r) {F:List It} {H:J} (hS:ap H (F)) {P:AV→J→Prop} (hP: ∀H',ap H' (F)→P (.bool r) H'):aw C 185 [.fz (a0.map (AV.int .i64)),.int .i64 a1] H P:=by
 refine B4 gC (res:=[.tmp 4]) (n:=19) rfl rfl rfl rfl fun K0 Ff=> ?_;simp only [W,Nat.reduceSub,Nat.reduceAdd,List.replicate];unfold Jz at h;refine BC fun K1 Fg=> ?_;refine B1 gC ?_;try simp only [W,Nat.reduceAdd]
 refine BJ Fg ?_;refine BC fun K2 zF=> ?_;refine BC fun K3 Fs=> ?_;refine B1 gC ?_;try simp only [W,Nat.reduceAdd]
 refine BJ Fs ?_;obtain ⟨GI,Ha,F6⟩:=Option.bind_eq_some_iff.1 h;refine Cz gC (fun s H=>GI=LR.next ()∧s=[.fz (a0.map (AV.int .i64)),.int .i64 a1,u,u,u,u,u,u,u,u,u,u,u,u,u,u,u,u,u]∧ap H (F)) (fun K7 FL=> ?_) (fun s H hq=> ?_)
 ·refine BD fun K8 FB=> ?_;refine Cv gC Ha (fun x s H=>s=[.fz (a0.map (AV.int .i64)),.int .i64 a1,u,u,u,u,.int .i64 a1,.int .i64 x,u,u,u,u,u,u,u,u,u,u,u]∧ap H (F)) ⟨rfl,hS⟩ (fun Fk G_ s H h Gg hi K9 FC=> ?_)
  skip
  try dsimp only at hi
  obtain ⟨rfl,hS⟩:=hi;simp only [Ku] at h;refine BC fun GQ FF=> ?_;refine B1 gC ?_;try simp only [W,Fe,Nat.reduceAdd]
  refine BJ FF ?_;refine BC fun Hh FK=> ?_;refine BH ?_;simp only [W];refine B0 h (fun hc h=> ?_) (fun hc h=> ?_)
  ·refine BE ?_;refine BJ FK ?_;refine BC fun GR FA=> ?_;refine BD fun GS FD=> ?_;refine BC fun GF Fy=> ?_;refine B1 gC ?_;try simp only [W,Nat.reduceAdd]
   refine BJ Fy ?_;refine BC fun HO FV=> ?_;refine B1 gC ?_;try simp only [W,Nat.reduceAdd]
   refine Cu h fun Ge I3 h=> ?_;refine Qk I3 hS fun H hS=> ?_;try simp only [W]
   refine BJ FV ?_;refine BH ?_;simp only [W];refine B0 h (fun hc h=> ?_) (fun hc h=> ?_)
   ·refine BC fun Hw FX=> ?_;refine B1 gC ?_;try simp only [W,Nat.reduceAdd]
    refine BJ FX ?_;refine BF ?_;refine BR FD ?_;refine BK FA ?_;try obtain rfl:=Option.some.inj h
    obtain rfl:=Gg _ rfl;have h:(some (LR.done false):Option (LR Unit (Bool)))=some (LR.done false):=rfl;refine Cy FC ?_;refine BR FB ?_;try obtain rfl:=Option.some.inj h
    obtain rfl:=Option.some.inj F6;have h:(some false:Option (Bool))=some false:=rfl;refine CC FL ?_;refine BK zF ?_;refine BU Ff rfl ?_;try obtain rfl:=Option.some.inj h
    exact hP _ hS
   ·refine BE ?_;refine BN FD ?_;refine BJ FA ?_;refine B1 gC ?_;try simp only [W,Fe,Nat.reduceAdd]
    exact Cw FC h ⟨rfl,hS⟩
  ·refine BG ?_;refine BL FK ?_;try obtain rfl:=Option.some.inj h
   obtain rfl:=Gg _ rfl;have h:(some (LR.next ()):Option (LR Unit (Bool)))=some (LR.next ()):=rfl
   refine Cx FC ?_;refine BP FB ?_;exact CA FL ⟨(Option.some.inj h).symm,rfl,hS⟩
 ·obtain ⟨rfl,rfl,hS⟩:=hq;replace h:=F6;try dsimp only at h
  refine BJ zF ?_;refine BC fun I7 Gx=> ?_;refine B1 gC ?_;try simp only [W,Fe,Nat.reduceAdd]
  refine BJ Gx ?_;refine BF ?_;refine BU Ff rfl ?_;try obtain rfl:=Option.some.inj h
  exact hP _ hS
theorem Qm {a0:List Task} {a1:List Int} {r:(List Int)} (h:Kx a0 a1=some r) {F:List It} {H:J} (hS:ap H (F)) {P:AV→J→Prop} (hP: ∀LZ:AV,aJ LZ→ ∀H',ap H' (⟨LZ,1,r.map (AV.int .i64)⟩::F)→P (LZ) H'):aw C 186 [.fz (a0.map Fh),.fz (a1.map (AV.int .i64))] H P:=by
 refine B4 gC (res:=[.tmp 4]) (n:=31) rfl rfl rfl rfl fun K0 Ff=> ?_;simp only [W,Nat.reduceSub,Nat.reduceAdd,List.replicate];unfold Kx at h;refine BC fun K1 Fg=> ?_;refine B1 gC ?_;try simp only [W,Nat.reduceAdd]
 refine BJ Fg ?_;refine BC fun K2 zF=> ?_;refine B1 gC ?_;try simp only [W,Fe,Nat.reduceAdd]
 refine z9 (c:=(AV.int .i64)) hS rfl rfl rfl rfl rfl rfl h fun v3 H Fi J0 hm h hS=> ?_;try simp only [W]
 refine BJ zF ?_;refine BC fun K6 F7=> ?_;refine BC fun K7 FL=> ?_;refine B1 gC ?_;try simp only [W,Fe,Nat.reduceAdd]
 refine BJ FL ?_;obtain ⟨Qn,Qo,Qp⟩:=Option.bind_eq_some_iff.1 h;refine Cz gC (fun s H=> ∃FN:List Int,Qn=(FN)∧s=[u,u,u,u,u,v3,u,u,u,u,u,u,u,u,u,u,u,u,u,u,u,u,u,u,u,u,u,u,u,u,u]∧ap H (⟨v3,1,FN.map (AV.int .i64)⟩::F)) (fun Hh FK=> ?_) (fun s H hq=> ?_)
 ·refine BD fun GR FA=> ?_;refine Cv gC Qo (fun x s H=>match x with|(Fu,FG,FH)=>s=[.fz (a0.map Fh),u,u,u,u,v3,.int .i64 FG,u,u,u,u,u,.fz (a1.map (AV.int .i64)),.int .i64 (a1.length:Int),.int .i64 FH,u,u,u,u,u,u,u,u,u,u,u,u,u,u,u,u]∧ap H (⟨v3,1,Fu.map (AV.int .i64)⟩::F)) ⟨rfl,hS⟩ (fun x Ve s H h Qq hi GS FD=> ?_)
  obtain ⟨Fu,FG,FH⟩:=x;try dsimp only at hi
  obtain ⟨rfl,hS⟩:=hi;simp only [Kv] at h;refine BC fun Hw FX=> ?_;refine B1 gC ?_;try simp only [W,Fe,Nat.reduceAdd]
  refine BJ FX ?_;refine BC fun Hy FY=> ?_;refine BH ?_;simp only [W];refine B0 h (fun hc h=> ?_) (fun hc h=> ?_)
  ·refine BE ?_;refine BJ FY ?_;refine BC fun Iq Ga=> ?_;refine BD fun JS G7=> ?_;refine BC fun J1 Hb=> ?_;refine B1 gC ?_;try simp only [W,Fe,Nat.reduceAdd]
   refine Co rfl rfl rfl (fun _=>rfl) h fun Kw Vf h=> ?_;try simp only [W,Fe]
   refine BJ Hb ?_;refine BC fun L3 Hn=> ?_;refine B1 gC ?_;try simp only [W,Fe,Nat.reduceAdd]
   refine Co rfl rfl rfl (fun _=>rfl) h fun HJ NN h=> ?_;try simp only [W,Fe,F5,Nat.reduceAdd,Nat.reduceBEq]
   refine BJ Hn ?_;refine B1 gC ?_;try simp only [W,Fe,Nat.reduceAdd]
   refine Cp 0 hS rfl rfl rfl rfl rfl h (fun GN Vg Vh Vi Iz h NO=> ?_) J0.ne;obtain ⟨Vj,Vk,Vl⟩:=hS.elem 0 rfl NO Iz;try simp only [W]
   refine Cq (a:= .int .i64 (IntKind.i64.wrap (FG+HJ.Fv))) (y' :=(IntKind.i64.wrap (FG+HJ.Fv))) 0 hS rfl NO Iz rfl rfl rfl rfl rfl rfl rfl fun H hS=> ?_
   try simp only [W]
   refine BN G7 ?_;refine BJ Ga ?_;refine B1 gC ?_;try simp only [W,Fe,Nat.reduceAdd]
   exact Cw FD h ⟨rfl,hS⟩
  ·refine BG ?_;refine BL FY ?_;try obtain rfl:=Option.some.inj h
   obtain rfl:=Qq _ rfl;have h:(some (Fu):Option ((List Int)))=some (Fu):=rfl;refine Cx FD ?_;refine BP FA ?_;exact CA FK ⟨_,(Option.some.inj h).symm,rfl,hS⟩
 ·obtain ⟨FN,Fp,rfl,hS⟩:=hq;obtain rfl:=Fp.symm;replace h:=Qp;try dsimp only at h
  refine BJ F7 ?_;refine BC fun NP I8=> ?_;refine B1 gC ?_;try simp only [W,Nat.reduceAdd]
  refine BJ I8 ?_;refine BF ?_;refine BU Ff rfl ?_;try obtain rfl:=Option.some.inj h
  exact hP _ J0 _ hS
theorem NQ {a0:List Task} {a1:List Int} {r:(List Int×Bool)} (h:HK a0 a1=some r) {F:List It} {H:J} (hS:ap H (F)) {P:AV→J→Prop} (hP: ∀L4:AV,aJ L4→ ∀H',ap H' (⟨L4,1,r.1.map (AV.int .i64)⟩::F)→P (.aA [L4,.bool r.2]) H'):aw C 45 [.fz (a0.map Fh),.fz (a1.map (AV.int .i64))] H P:=by
 refine B4 gC (res:=[.tmp 4,.tmp 5]) (n:=19) rfl rfl rfl rfl fun K0 Ff=> ?_;simp only [W,Nat.reduceSub,Nat.reduceAdd,List.replicate];unfold HK at h;refine BC fun K1 Fg=> ?_;refine B1 gC ?_;try simp only [W,Nat.reduceAdd]
 refine BJ Fg ?_;refine BC fun K2 zF=> ?_;refine BC fun K3 Fs=> ?_;obtain ⟨GI,h,g6⟩:=Option.bind_eq_some_iff.1 h;refine Cz gC (fun s H=> ∃Fk:Bool,GI=(Fk)∧s=[.fz (a0.map Fh),.fz (a1.map (AV.int .i64)),u,u,u,u,u,u,u,u,u,u,u,u,u,.bool Fk,u,u,u]∧ap H (F)) (fun K7 FL=> ?_) (fun s H hq=> ?_)
 ·refine BC fun K8 FB=> ?_;refine B1 gC ?_;try simp only [W,Nat.reduceAdd]
  refine Cu h fun Ky LF h=> ?_;refine NM LF hS fun H hS=> ?_;try simp only [W]
  refine C8 h (fun hc h=> ?_) (fun hc h=> ?_)
  ·try simp only [W,hc]
   refine BJ FB ?_;refine BI ?_;exact CA FL ⟨_,(Option.some.inj h).symm,rfl,hS⟩
  ·try simp only [W,Fe,hc]
   refine Cu h fun F3 KR h=> ?_;refine Ql KR hS fun H hS=> ?_;try simp only [W,reduceIte,Bool.false_eq_true]
   refine BJ FB ?_;refine BI ?_;exact CA FL ⟨_,(Option.some.inj h).symm,rfl,hS⟩
 ·obtain ⟨Fk,Fp,rfl,hS⟩:=hq;obtain rfl:=Fp.symm;replace h:=g6;try dsimp only at h
  refine BJ Fs ?_;refine BH ?_;simp only [W];refine B0 h (fun hc h=> ?_) (fun hc h=> ?_)
  ·refine BC fun JR GC=> ?_;refine B1 gC ?_;try simp only [W,Nat.reduceAdd]
   refine BJ GC ?_;refine BF ?_;refine BK zF ?_;refine BV Ff rfl rfl ?_;try obtain rfl:=Option.some.inj h
   exact hP _ lN _ (hS.uX 1)
  ·refine BE ?_;refine BJ zF ?_;refine BC fun KS GD=> ?_;refine B1 gC ?_;try simp only [W,Nat.reduceAdd]
   refine Cu h fun Jv Qr h=> ?_;refine Qm Qr hS fun Vm Qs H hS=> ?_;try simp only [W]
   refine BJ GD ?_;refine BF ?_;refine BV Ff rfl rfl ?_;try obtain rfl:=Option.some.inj h
   exact hP _ Qs _ hS
theorem NR {a0:List Task} {a1:List Int} {r:(Int×Bool)} (h:G4 a0 a1=some r) {F:List It} {H:J} (hS:ap H (F)) {P:AV→J→Prop} (hP: ∀H',ap H' (F)→P (.aA [.int .i64 r.1,.bool r.2]) H'):aw C 40 [.fz (a0.map Fh),.fz (a1.map (AV.int .i64))] H P:=by
 refine B4 gC (res:=[.tmp 4,.tmp 5]) (n:=51) rfl rfl rfl rfl fun K0 Ff=> ?_;simp only [W,Nat.reduceSub,Nat.reduceAdd,List.replicate];unfold G4 at h;refine BC fun K1 Fg=> ?_;refine B1 gC ?_;try simp only [W,Nat.reduceAdd]
 refine BJ Fg ?_;refine BC fun K2 zF=> ?_;refine B1 gC ?_;try simp only [W,Nat.reduceAdd]
 refine Cu h fun b3 kV h=> ?_;obtain ⟨Ft,F0⟩:=b3;try dsimp only at h
 refine NQ kV hS fun v6 GG H hS=> ?_;try simp only [W]
 refine BJ zF ?_;refine BC fun K8 FB=> ?_;refine BC fun K9 FC=> ?_;obtain ⟨G_,h,F6⟩:=Option.bind_eq_some_iff.1 h;refine Cz gC (fun s H=> ∃FH:Bool,G_=(FH)∧s=[.fz (a0.map Fh),u,u,u,u,u,v6,.bool F0,u,u,u,u,u,u,u,u,u,u,u,u,u,u,u,.bool FH,u,u,u,u,u,u,u,u,u,u,u,u,u,u,u,u,u,u,u,u,u,u,u,u,u,u,u]∧ap H (⟨v6,1,Ft.map (AV.int .i64)⟩::F)) (fun GQ FF=> ?_) (fun s H hq=> ?_)
 ·refine BC fun Hh FK=> ?_;refine B1 gC ?_;try simp only [W,Nat.reduceAdd]
  refine C8 h (fun hc h=> ?_) (fun hc h=> ?_)
  ·try simp only [W,hc]
   refine BJ FK ?_;refine BI ?_;exact CA FF ⟨_,(Option.some.inj h).symm,rfl,hS⟩
  ·try simp only [W,Fe,reduceIte,Bool.false_eq_true,hc]
   refine BJ FK ?_;refine BI ?_;exact CA FF ⟨_,(Option.some.inj h).symm,rfl,hS⟩
 ·obtain ⟨FH,Fp,rfl,hS⟩:=hq;obtain rfl:=Fp.symm;replace h:=F6;try dsimp only at h
  refine BJ FC ?_;refine BH ?_;simp only [W];refine B0 h (fun hc h=> ?_) (fun hc h=> ?_)
  ·refine BC fun GR FA=> ?_;refine B1 gC ?_;try simp only [W,Nat.reduceAdd]
   refine BJ FA ?_;refine BF ?_;refine BK FB ?_;refine BV Ff rfl rfl ?_;try obtain rfl:=Option.some.inj h
   exact hP _ (hS.C2 1 [] (by decide))
  ·refine BE ?_;refine BJ FB ?_;refine BC fun GS FD=> ?_;refine B3 gC (by kernel_rfl) ?_
   try simp only [W,Fe,Nat.reduceAdd]
   refine Cp 0 hS rfl rfl rfl rfl rfl h (fun MT Vn Vo Vp Qt h Qu=> ?_) GG.ne;obtain ⟨Vq,Qv,Qw⟩:=hS.elem 0 rfl Qu Qt;try simp only [W,Fe,Qv,Qw]
   refine Co rfl rfl rfl (fun _=>rfl) h fun Ge I3 h=> ?_;try simp only [W,Fe,F5,Nat.reduceAdd,Nat.reduceBEq]
   refine BJ FD ?_;refine BC fun Hw FX=> ?_;refine BC fun Hy FY=> ?_;refine B1 gC ?_;try simp only [W,Fe,Nat.reduceAdd]
   refine BJ FY ?_;obtain ⟨Qx,Qy,Qz⟩:=Option.bind_eq_some_iff.1 h;refine Cz gC (fun s H=> ∃Gp:Int,Qx=(Gp)∧s=[u,u,u,u,u,u,u,u,.int .i64 Gp,u,u,u,u,u,u,u,u,u,u,u,u,u,u,u,u,u,u,u,u,u,u,u,u,u,u,u,u,u,u,u,u,u,u,u,u,u,u,u,u,u,u]∧ap H (F)) (fun I7 Gx=> ?_) (fun s H hq=> ?_)
   ·refine BD fun LY Iy=> ?_;refine Cv gC Qy (fun x s H=>match x with|(Gs,Gd)=>s=[u,u,u,u,u,u,v6,u,.int .i64 Gs,u,u,u,u,u,u,u,u,u,u,u,u,u,u,u,u,u,u,u,u,u,u,u,u,.fz (a0.map Fh),.int .i64 (a0.length:Int),.int .i64 Gd,u,u,u,u,u,u,u,u,u,u,u,u,u,u,u]∧ap H (⟨v6,1,Ft.map (AV.int .i64)⟩::F)) ⟨rfl,hS⟩ (fun x NS s H h QA hi NT IA=> ?_)
    obtain ⟨Gs,Gd⟩:=x;try dsimp only at hi
    obtain ⟨rfl,hS⟩:=hi;simp only [Kz] at h;refine BC fun La Hz=> ?_;refine B1 gC ?_;try simp only [W,Fe,Nat.reduceAdd]
    refine BJ Hz ?_;refine BC fun L5 HA=> ?_;refine BH ?_;simp only [W];refine B0 h (fun hc h=> ?_) (fun hc h=> ?_)
    ·refine BE ?_;refine BJ HA ?_;refine BC fun Lb GV=> ?_;refine BD fun L6 HQ=> ?_;refine BC fun QB L7=> ?_;refine B1 gC ?_;try simp only [W,Fe,Nat.reduceAdd]
     refine Co rfl rfl rfl (fun _=>rfl) h fun Gt Lc h=> ?_;try simp only [W,Fe,F5,reduceIte,Nat.reduceAdd,Nat.reduceLeDiff]
     refine Ci hS rfl rfl fun Vr Vs H hS=> ?_;try simp only [W]
     refine Cj (a:= .agg [.int .i64 Gt.Fv,.int .i64 Gt.End]) (y' := .agg [.int .i64 Gt.Fv,.int .i64 Gt.End]) 0 hS rfl rfl rfl rfl rfl rfl rfl rfl fun H hS=> ?_
     try simp only [W]
     refine BJ L7 ?_;refine B3 gC (by kernel_rfl) ?_
     try simp only [W,Fe,Nat.reduceAdd]
     refine Cp 1 hS rfl rfl rfl rfl rfl h (fun Ly Vt Vu Vv QC h QD=> ?_) GG.ne;obtain ⟨Vw,QE,QF⟩:=hS.elem 1 rfl QD QC;try simp only [W,Fe,Nat.reduceAdd,Nat.reduceBEq,hS.var 0 rfl,QE,QF]
     refine BN HQ ?_;refine BJ GV ?_;refine B1 gC ?_;try simp only [W,Fe,Nat.reduceAdd]
     exact Cw IA h ⟨rfl,(hS.C2 2 [1] (by decide))⟩
    ·refine BG ?_;refine BL HA ?_;try obtain rfl:=Option.some.inj h
     obtain rfl:=QA _ rfl;have h:(some (Gs):Option (Int))=some (Gs):=rfl;refine Cx IA ?_;refine BP Iy ?_;exact CA Gx ⟨_,(Option.some.inj h).symm,rfl,(hS.C2 1 [] (by decide))⟩
   ·obtain ⟨Gp,Fp,rfl,hS⟩:=hq;obtain rfl:=Fp.symm;replace h:=Qz;try dsimp only at h
    refine BJ FX ?_;refine BC fun KU Hk=> ?_;refine B1 gC ?_;try simp only [W,Nat.reduceAdd]
    refine BJ Hk ?_;refine BF ?_;refine BV Ff rfl rfl ?_;try obtain rfl:=Option.some.inj h
    exact hP _ hS
theorem L8 {a0:Int} {a1:Int} {a2:Int} {r:(Bool)} (h:H_ a0 a1 a2=some r) {F:List It} {H:J} (hS:ap H (F)) {P:AV→J→Prop} (hP: ∀H',ap H' (F)→P (.bool r) H'):aw C 164 [.int .i64 a0,.int .i64 a1,.int .i64 a2] H P:=by
 refine B4 gC (res:=[.tmp 6]) (n:=15) rfl rfl rfl rfl fun K0 Ff=> ?_;simp only [W,Nat.reduceSub,Nat.reduceAdd,List.replicate];unfold H_ at h;refine BC fun K1 Fg=> ?_;refine B1 gC ?_;try simp only [W,Nat.reduceAdd]
 refine BJ Fg ?_;refine BC fun K2 zF=> ?_;refine B1 gC ?_;try simp only [W,Fe,Nat.reduceAdd]
 refine C8 h (fun hc h=> ?_) (fun hc h=> ?_)
 ·try simp only [W,Fe,reduceIte,hc]
  refine BJ zF ?_;refine BF ?_;refine BU Ff rfl ?_;try obtain rfl:=Option.some.inj h
  exact hP _ hS
 ·try simp only [W,hc]
  refine BJ zF ?_;refine BF ?_;refine BU Ff rfl ?_;try obtain rfl:=Option.some.inj h
  exact hP _ hS
theorem NU {a0:List Task} {r:(Bool)} (h:IX a0=some r) {F:List It} {H:J} (hS:ap H (F)) {P:AV→J→Prop} (hP: ∀H',ap H' (F)→P (.bool r) H'):aw C 183 [.fz (a0.map Fh)] H P:=by
 refine B4 gC (res:=[.tmp 2]) (n:=25) rfl rfl rfl rfl fun K0 Ff=> ?_;simp only [W,Nat.reduceSub,Nat.reduceAdd,List.replicate];unfold IX at h;refine BC fun K1 Fg=> ?_;refine B1 gC ?_;try simp only [W,Nat.reduceAdd]
 refine BJ Fg ?_;refine BC fun K2 zF=> ?_;refine BC fun K3 Fs=> ?_;refine B1 gC ?_;try simp only [W,Fe,Nat.reduceAdd]
 refine BJ Fs ?_;obtain ⟨GI,Ha,F6⟩:=Option.bind_eq_some_iff.1 h;refine Cz gC (fun s H=>GI=LR.next ()∧s=[.fz (a0.map Fh),u,u,u,u,u,u,u,u,u,u,u,u,u,u,u,u,u,u,u,u,u,u,u,u]∧ap H (F)) (fun K7 FL=> ?_) (fun s H hq=> ?_)
 ·refine BD fun K8 FB=> ?_;refine Cv gC Ha (fun x s H=>s=[.fz (a0.map Fh),u,u,u,u,.fz (a0.map Fh),.int .i64 (a0.length:Int),.int .i64 x,u,u,u,u,u,u,u,u,u,u,u,u,u,u,u,u,u]∧ap H (F)) ⟨rfl,hS⟩ (fun Fk G_ s H h Gg hi K9 FC=> ?_)
  skip
  try dsimp only at hi
  obtain ⟨rfl,hS⟩:=hi;simp only [JA] at h;refine BC fun GQ FF=> ?_;refine B1 gC ?_;try simp only [W,Fe,Nat.reduceAdd]
  refine BJ FF ?_;refine BC fun Hh FK=> ?_;refine BH ?_;simp only [W];refine B0 h (fun hc h=> ?_) (fun hc h=> ?_)
  ·refine BE ?_;refine BJ FK ?_;refine BC fun GR FA=> ?_;refine BD fun GS FD=> ?_;refine BC fun GF Fy=> ?_;refine B1 gC ?_;try simp only [W,Fe,Nat.reduceAdd]
   refine Co rfl rfl rfl (fun _=>rfl) h fun Gu L9 h=> ?_;try simp only [W,Fe,F5,reduceIte,Nat.reduceAdd,Nat.reduceLeDiff]
   refine Ci hS rfl rfl fun Vx Vy H hS=> ?_;try simp only [W]
   refine Cj (a:= .agg [.int .i64 Gu.Fv,.int .i64 Gu.End]) (y' := .agg [.int .i64 Gu.Fv,.int .i64 Gu.End]) 0 hS rfl rfl rfl rfl rfl rfl rfl rfl fun H hS=> ?_
   try simp only [W]
   refine BJ Fy ?_;refine BC fun Hy FY=> ?_;obtain ⟨QH,h,QI⟩:=Option.bind_eq_some_iff.1 h;refine Cz gC (fun s H=> ∃Gs:Bool,QH=(Gs)∧s=[.fz (a0.map Fh),u,u,u,u,.fz (a0.map Fh),.int .i64 (a0.length:Int),.int .i64 Fk,u,u,u,u,u,u,u,u,u,u,u,u,.bool Gs,u,u,u,u]∧ap H (F)) (fun J2 GJ=> ?_) (fun s H hq=> ?_)
   ·refine BC fun L3 Hn=> ?_;refine B1 gC ?_;try simp only [W,Fe,Nat.reduceAdd,Nat.reduceBEq,hS.var 0 rfl]
    refine Cu h fun HJ NN h=> ?_;refine L8 NN hS fun H hS=> ?_;try simp only [W]
    refine C8 h (fun hc h=> ?_) (fun hc h=> ?_)
    ·try simp only [W,hc]
     refine BJ Hn ?_;refine BI ?_;exact CA GJ ⟨_,(Option.some.inj h).symm,rfl,(hS.C2 1 [] (by decide))⟩
    ·try simp only [W,Fe,Nat.reduceAdd,Nat.reduceBEq,hS.var 0 rfl,hc]
     refine Cu h fun GN Iz h=> ?_;refine L8 Iz hS fun H hS=> ?_;try simp only [W,reduceIte,Bool.false_eq_true]
     refine BJ Hn ?_;refine BI ?_;exact CA GJ ⟨_,(Option.some.inj h).symm,rfl,(hS.C2 1 [] (by decide))⟩
   ·obtain ⟨Gs,Fp,rfl,hS⟩:=hq;obtain rfl:=Fp.symm;replace h:=QI;try dsimp only at h
    refine BJ FY ?_;refine BH ?_;simp only [W];refine B0 h (fun hc h=> ?_) (fun hc h=> ?_)
    ·refine BC fun NT IA=> ?_;refine B1 gC ?_;try simp only [W,Nat.reduceAdd]
     refine BJ IA ?_;refine BF ?_;refine BR FD ?_;refine BK FA ?_;try obtain rfl:=Option.some.inj h
     obtain rfl:=Gg _ rfl;have h:(some (LR.done false):Option (LR Unit (Bool)))=some (LR.done false):=rfl;refine Cy FC ?_;refine BR FB ?_;try obtain rfl:=Option.some.inj h
     obtain rfl:=Option.some.inj F6;have h:(some false:Option (Bool))=some false:=rfl;refine CC FL ?_;refine BK zF ?_;refine BU Ff rfl ?_;try obtain rfl:=Option.some.inj h
     exact hP _ hS
    ·refine BE ?_;refine BN FD ?_;refine BJ FA ?_;refine B1 gC ?_;try simp only [W,Fe,Nat.reduceAdd]
     exact Cw FC h ⟨rfl,hS⟩
  ·refine BG ?_;refine BL FK ?_;try obtain rfl:=Option.some.inj h
   obtain rfl:=Gg _ rfl;have h:(some (LR.next ()):Option (LR Unit (Bool)))=some (LR.next ()):=rfl
   refine Cx FC ?_;refine BP FB ?_;exact CA FL ⟨(Option.some.inj h).symm,rfl,hS⟩
 ·obtain ⟨rfl,rfl,hS⟩:=hq;replace h:=F6;try dsimp only at h
  refine BJ zF ?_;refine BC fun L6 HQ=> ?_;refine B1 gC ?_;try simp only [W,Fe,Nat.reduceAdd]
  refine BJ HQ ?_;refine BF ?_;refine BU Ff rfl ?_;try obtain rfl:=Option.some.inj h
  exact hP _ hS
theorem QJ {a0:List Int} {a1:Int} {r:(Bool)} (h:JB a0 a1=some r) {F:List It} {H:J} (hS:ap H (F)) {P:AV→J→Prop} (hP: ∀H',ap H' (F)→P (.bool r) H'):aw C 319 [.fz (a0.map (AV.int .i64)),.int .i64 a1] H P:=by
 refine B4 gC (res:=[.tmp 4]) (n:=17) rfl rfl rfl rfl fun K0 Ff=> ?_;simp only [W,Nat.reduceSub,Nat.reduceAdd,List.replicate];unfold JB at h;refine BC fun K1 Fg=> ?_;refine B1 gC ?_;try simp only [W,Nat.reduceAdd]
 refine BJ Fg ?_;refine BC fun K2 zF=> ?_;refine BC fun K3 Fs=> ?_;refine B1 gC ?_;try simp only [W,Fe,Nat.reduceAdd]
 refine BJ Fs ?_;obtain ⟨GI,Ha,F6⟩:=Option.bind_eq_some_iff.1 h;refine Cz gC (fun s H=>GI=LR.next ()∧s=[u,u,u,u,u,u,u,u,u,u,u,u,u,u,u,u,u]∧ap H (F)) (fun K7 FL=> ?_) (fun s H hq=> ?_)
 ·refine BD fun K8 FB=> ?_;refine Cv gC Ha (fun x s H=>s=[u,.int .i64 a1,u,u,u,u,u,.fz (a0.map (AV.int .i64)),.int .i64 (a0.length:Int),.int .i64 x,u,u,u,u,u,u,u]∧ap H (F)) ⟨rfl,hS⟩ (fun Fk G_ s H h Gg hi K9 FC=> ?_)
  skip
  try dsimp only at hi
  obtain ⟨rfl,hS⟩:=hi;simp only [KA] at h;refine BC fun GQ FF=> ?_;refine B1 gC ?_;try simp only [W,Fe,Nat.reduceAdd]
  refine BJ FF ?_;refine BC fun Hh FK=> ?_;refine BH ?_;simp only [W];refine B0 h (fun hc h=> ?_) (fun hc h=> ?_)
  ·refine BE ?_;refine BJ FK ?_;refine BC fun GR FA=> ?_;refine BD fun GS FD=> ?_;refine BC fun GF Fy=> ?_;refine B1 gC ?_;try simp only [W,Fe,Nat.reduceAdd]
   refine Co rfl rfl rfl (fun _=>rfl) h fun Gu L9 h=> ?_;try simp only [W,Fe]
   refine BJ Fy ?_;refine BC fun I4 Gb=> ?_;refine B1 gC ?_;try simp only [W,Fe,Nat.reduceAdd]
   refine BJ Gb ?_;refine BH ?_;simp only [W];refine B0 h (fun hc h=> ?_) (fun hc h=> ?_)
   ·refine BC fun Hw FX=> ?_;refine B1 gC ?_;try simp only [W,Nat.reduceAdd]
    refine BJ FX ?_;refine BF ?_;refine BR FD ?_;refine BK FA ?_;try obtain rfl:=Option.some.inj h
    obtain rfl:=Gg _ rfl;have h:(some (LR.done true):Option (LR Unit (Bool)))=some (LR.done true):=rfl;refine Cy FC ?_;refine BR FB ?_;try obtain rfl:=Option.some.inj h
    obtain rfl:=Option.some.inj F6;have h:(some true:Option (Bool))=some true:=rfl;refine CC FL ?_;refine BK zF ?_;refine BU Ff rfl ?_;try obtain rfl:=Option.some.inj h
    exact hP _ hS
   ·refine BE ?_;refine BN FD ?_;refine BJ FA ?_;refine B1 gC ?_;try simp only [W,Fe,Nat.reduceAdd]
    exact Cw FC h ⟨rfl,hS⟩
  ·refine BG ?_;refine BL FK ?_;try obtain rfl:=Option.some.inj h
   obtain rfl:=Gg _ rfl;have h:(some (LR.next ()):Option (LR Unit (Bool)))=some (LR.next ()):=rfl
   refine Cx FC ?_;refine BP FB ?_;exact CA FL ⟨(Option.some.inj h).symm,rfl,hS⟩
 ·obtain ⟨rfl,rfl,hS⟩:=hq;replace h:=F6;try dsimp only at h
  refine BJ zF ?_;refine BC fun I7 Gx=> ?_;refine B1 gC ?_;try simp only [W,Nat.reduceAdd]
  refine BJ Gx ?_;refine BF ?_;refine BU Ff rfl ?_;try obtain rfl:=Option.some.inj h
  exact hP _ hS
theorem QK {a0:List Int} {a1:Int} {r:(Bool)} (h:JC a0 a1=some r) {F:List It} {H:J} (hS:ap H (F)) {P:AV→J→Prop} (hP: ∀H',ap H' (F)→P (.bool r) H'):aw C 288 [.fz (a0.map (AV.int .i64)),.int .i64 a1] H P:=by
 refine B4 gC (res:=[.tmp 4]) (n:=31) rfl rfl rfl rfl fun K0 Ff=> ?_;simp only [W,Nat.reduceSub,Nat.reduceAdd,List.replicate];unfold JC at h;refine BC fun K1 Fg=> ?_;refine B1 gC ?_;try simp only [W,Nat.reduceAdd]
 refine BJ Fg ?_;refine BC fun K2 zF=> ?_;refine BC fun K3 Fs=> ?_;refine B1 gC ?_;try simp only [W,Fe,Nat.reduceAdd]
 refine BJ Fs ?_;refine BH ?_;simp only [W];refine B0 h (fun hc h=> ?_) (fun hc h=> ?_)
 ·refine BC fun K4 FW=> ?_;refine B1 gC ?_;try simp only [W,Nat.reduceAdd]
  refine BJ FW ?_;refine BF ?_;refine BK zF ?_;refine BU Ff rfl ?_;try obtain rfl:=Option.some.inj h
  exact hP _ hS
 ·refine BE ?_;refine BJ zF ?_;refine BC fun K5 FQ=> ?_;refine BC fun K6 F7=> ?_;refine B1 gC ?_;try simp only [W,Fe,Nat.reduceAdd]
  refine BJ F7 ?_;obtain ⟨L_,Ma,J3⟩:=Option.bind_eq_some_iff.1 h;refine Cz gC (fun s H=>L_=LR.next ()∧s=[u,u,u,u,u,u,u,u,u,u,u,u,u,u,u,u,u,u,u,u,u,u,u,u,u,u,u,u,u,u,u]∧ap H (F)) (fun Nk Ip=> ?_) (fun s H hq=> ?_)
  ·refine BD fun JR GC=> ?_;refine Cv gC Ma (fun x s H=>s=[.fz (a0.map (AV.int .i64)),.int .i64 a1,u,u,u,u,u,u,u,u,u,.fz (a0.map (AV.int .i64)),.int .i64 (a0.length:Int),.int .i64 x,u,u,u,u,u,u,u,u,u,u,u,u,u,u,u,u,u]∧ap H (F)) ⟨rfl,hS⟩ (fun FJ QL s H h J4 hi KS GD=> ?_)
   skip
   try dsimp only at hi
   obtain ⟨rfl,hS⟩:=hi;simp only [KB] at h;refine BC fun GS FD=> ?_;refine B1 gC ?_;try simp only [W,Fe,Nat.reduceAdd]
   refine BJ FD ?_;refine BC fun GF Fy=> ?_;refine BH ?_;simp only [W];refine B0 h (fun hc h=> ?_) (fun hc h=> ?_)
   ·refine BE ?_;refine BJ Fy ?_;refine BC fun HO FV=> ?_;refine BD fun I4 Gb=> ?_;refine BC fun Hw FX=> ?_;refine B1 gC ?_;try simp only [W,Fe,Nat.reduceAdd]
    refine Co rfl rfl rfl (fun _=>rfl) h fun Gm NV h=> ?_;try simp only [W,Fe]
    refine BJ FX ?_;refine BC fun Iq Ga=> ?_;obtain ⟨QM,h,QN⟩:=Option.bind_eq_some_iff.1 h;refine Cz gC (fun s H=> ∃Gd:Bool,QM=(Gd)∧s=[.fz (a0.map (AV.int .i64)),.int .i64 a1,u,u,u,u,u,u,u,u,u,.fz (a0.map (AV.int .i64)),.int .i64 (a0.length:Int),.int .i64 FJ,u,u,u,u,u,u,u,u,u,u,u,u,u,u,u,.bool Gd,u]∧ap H (F)) (fun L3 Hn=> ?_) (fun s H hq=> ?_)
    ·refine BC fun I7 Gx=> ?_;refine B1 gC ?_;try simp only [W,Fe,Nat.reduceAdd]
     refine Cu h fun GN Iz h=> ?_;refine L8 Iz hS fun H hS=> ?_;try simp only [W]
     refine C8 h (fun hc h=> ?_) (fun hc h=> ?_)
     ·try simp only [W,hc]
      refine BJ Gx ?_;refine BI ?_;exact CA Hn ⟨_,(Option.some.inj h).symm,rfl,hS⟩
     ·try simp only [W,Fe,hc]
      refine CK rfl rfl rfl (fun _=>rfl) h fun F1 Vz h=> ?_;try simp only [W]
      refine Cu h fun IY QO h=> ?_;refine QJ QO hS fun H hS=> ?_;try simp only [W,reduceIte,Bool.false_eq_true]
      refine BJ Gx ?_;refine BI ?_;exact CA Hn ⟨_,(Option.some.inj h).symm,rfl,hS⟩
    ·obtain ⟨Gd,Fp,rfl,hS⟩:=hq;obtain rfl:=Fp.symm;replace h:=QN;try dsimp only at h
     refine BJ Ga ?_;refine BH ?_;simp only [W];refine B0 h (fun hc h=> ?_) (fun hc h=> ?_)
     ·refine BC fun KX Hl=> ?_;refine B1 gC ?_;try simp only [W,Nat.reduceAdd]
      refine BJ Hl ?_;refine BF ?_;refine BR Gb ?_;refine BK FV ?_;try obtain rfl:=Option.some.inj h
      obtain rfl:=J4 _ rfl;have h:(some (LR.done false):Option (LR Unit (Bool)))=some (LR.done false):=rfl;refine Cy GD ?_;refine BR GC ?_;try obtain rfl:=Option.some.inj h
      obtain rfl:=Option.some.inj J3;have h:(some false:Option (Bool))=some false:=rfl;refine CC Ip ?_;refine BK FQ ?_;refine BU Ff rfl ?_;try obtain rfl:=Option.some.inj h
      exact hP _ hS
     ·refine BE ?_;refine BN Gb ?_;refine BJ FV ?_;refine B1 gC ?_;try simp only [W,Fe,Nat.reduceAdd]
      exact Cw GD h ⟨rfl,hS⟩
   ·refine BG ?_;refine BL Fy ?_;try obtain rfl:=Option.some.inj h
    obtain rfl:=J4 _ rfl;have h:(some (LR.next ()):Option (LR Unit (Bool)))=some (LR.next ()):=rfl
    refine Cx GD ?_;refine BP GC ?_;exact CA Ip ⟨(Option.some.inj h).symm,rfl,hS⟩
  ·obtain ⟨rfl,rfl,hS⟩:=hq;replace h:=J3;try dsimp only at h
   refine BJ FQ ?_;refine BC fun Nn JT=> ?_;refine B1 gC ?_;try simp only [W,Nat.reduceAdd]
   refine BJ JT ?_;refine BF ?_;refine BU Ff rfl ?_;try obtain rfl:=Option.some.inj h
   exact hP _ hS
theorem NW {a0:List Task} {a1:List Int} {r:(Bool)} (h:Hr a0 a1=some r) {F:List It} {H:J} (hS:ap H (F)) {P:AV→J→Prop} (hP: ∀H',ap H' (F)→P (.bool r) H'):aw C 179 [.fz (a0.map Fh),.fz (a1.map (AV.int .i64))] H P:=by
 refine B4 gC (res:=[.tmp 4]) (n:=13) rfl rfl rfl rfl fun K0 Ff=> ?_;simp only [W,Nat.reduceSub,Nat.reduceAdd,List.replicate];unfold Hr at h;refine BC fun K1 Fg=> ?_;refine B1 gC ?_;try simp only [W,Nat.reduceAdd]
 refine BJ Fg ?_;refine BC fun K2 zF=> ?_;refine B1 gC ?_;try simp only [W,Nat.reduceAdd]
 refine Cu h fun b3 kV h=> ?_;refine NU kV hS fun H hS=> ?_;try simp only [W]
 refine C8 h (fun hc h=> ?_) (fun hc h=> ?_)
 ·try simp only [W,Fe,hc]
  refine Cu h fun Ft GU h=> ?_;refine QK GU hS fun H hS=> ?_;try simp only [W,reduceIte]
  refine BJ zF ?_;refine BF ?_;refine BU Ff rfl ?_;try obtain rfl:=Option.some.inj h
  exact hP _ hS
 ·try simp only [W,hc]
  refine BJ zF ?_;refine BF ?_;refine BU Ff rfl ?_;try obtain rfl:=Option.some.inj h
  exact hP _ hS
theorem NX {a0:List Task} {a1:List Int} {r:(List Int)} (h:Ia a0 a1=some r) {F:List It} {H:J} (hS:ap H (F)) {P:AV→J→Prop} (hP: ∀Ld:AV,aJ Ld→ ∀H',ap H' (⟨Ld,1,r.map (AV.int .i64)⟩::F)→P (Ld) H'):aw C 180 [.fz (a0.map Fh),.fz (a1.map (AV.int .i64))] H P:=by
 refine B4 gC (res:=[.tmp 4]) (n:=31) rfl rfl rfl rfl fun K0 Ff=> ?_;simp only [W,Nat.reduceSub,Nat.reduceAdd,List.replicate];unfold Ia at h;refine BC fun K1 Fg=> ?_;refine B1 gC ?_;try simp only [W,Nat.reduceAdd]
 refine BJ Fg ?_;refine BC fun K2 zF=> ?_;refine B1 gC ?_;try simp only [W,Fe,Nat.reduceAdd]
 refine z9 (c:=(AV.int .i64)) hS rfl rfl rfl rfl rfl rfl h fun v3 H Fi J0 hm h hS=> ?_;try simp only [W]
 refine BJ zF ?_;refine BC fun K6 F7=> ?_;refine B1 gC ?_;try simp only [W,Nat.reduceAdd]
 refine BJ F7 ?_;refine BC fun K7 FL=> ?_;refine BC fun K8 FB=> ?_;refine B1 gC ?_;try simp only [W,Fe,Nat.reduceAdd]
 refine BJ FB ?_;obtain ⟨Mb,Mc,Md⟩:=Option.bind_eq_some_iff.1 h;refine Cz gC (fun s H=> ∃F9:List Int,Mb=(F9)∧s=[u,u,u,u,u,v3,u,u,u,u,u,u,u,u,u,u,u,u,u,u,u,u,u,u,u,u,u,u,u,u,u]∧ap H (⟨v3,1,F9.map (AV.int .i64)⟩::F)) (fun GR FA=> ?_) (fun s H hq=> ?_)
 ·refine BD fun GS FD=> ?_;refine Cv gC Mc (fun x s H=>match x with|(FG,FH,FN)=>s=[.fz (a0.map Fh),u,u,u,u,v3,.int .i64 FH,u,u,u,u,u,.fz (a1.map (AV.int .i64)),.int .i64 (a1.length:Int),.int .i64 FN,u,u,u,u,u,u,u,u,u,u,u,u,u,u,u,u]∧ap H (⟨v3,1,FG.map (AV.int .i64)⟩::F)) ⟨rfl,hS⟩ (fun x QP s H h Me hi GF Fy=> ?_)
  obtain ⟨FG,FH,FN⟩:=x;try dsimp only at hi
  obtain ⟨rfl,hS⟩:=hi;simp only [Lz] at h;refine BC fun Hy FY=> ?_;refine B1 gC ?_;try simp only [W,Fe,Nat.reduceAdd]
  refine BJ FY ?_;refine BC fun Iq Ga=> ?_;refine BH ?_;simp only [W];refine B0 h (fun hc h=> ?_) (fun hc h=> ?_)
  ·refine BE ?_;refine BJ Ga ?_;refine BC fun JS G7=> ?_;refine BD fun J1 Hb=> ?_;refine BC fun J2 GJ=> ?_;refine B1 gC ?_;try simp only [W,Fe,Nat.reduceAdd]
   refine Co rfl rfl rfl (fun _=>rfl) h fun GP NY h=> ?_;try simp only [W,Fe]
   refine BJ GJ ?_;refine BC fun I7 Gx=> ?_;refine B1 gC ?_;try simp only [W,Fe,Nat.reduceAdd]
   refine Co rfl rfl rfl (fun _=>rfl) h fun GN Iz h=> ?_;try simp only [W,Fe,F5,Nat.reduceAdd,Nat.reduceBEq]
   refine BJ Gx ?_;refine B1 gC ?_;try simp only [W,Fe,Nat.reduceAdd]
   refine Cp 0 hS rfl rfl rfl rfl rfl h (fun Le VA VB VC Lf h NZ=> ?_) J0.ne;obtain ⟨VD,VE,VF⟩:=hS.elem 0 rfl NZ Lf;try simp only [W]
   refine Cq (a:= .int .i64 (IntKind.i64.wrap (FH+GN.Fv))) (y' :=(IntKind.i64.wrap (FH+GN.Fv))) 0 hS rfl NZ Lf rfl rfl rfl rfl rfl rfl rfl fun H hS=> ?_
   try simp only [W]
   refine BN Hb ?_;refine BJ G7 ?_;refine B1 gC ?_;try simp only [W,Fe,Nat.reduceAdd]
   exact Cw Fy h ⟨rfl,hS⟩
  ·refine BG ?_;refine BL Ga ?_;try obtain rfl:=Option.some.inj h
   obtain rfl:=Me _ rfl;have h:(some (FG):Option ((List Int)))=some (FG):=rfl;refine Cx Fy ?_;refine BP FD ?_;exact CA FA ⟨_,(Option.some.inj h).symm,rfl,hS⟩
 ·obtain ⟨F9,Fp,rfl,hS⟩:=hq;obtain rfl:=Fp.symm;replace h:=Md;try dsimp only at h
  refine BJ FL ?_;refine BC fun La Hz=> ?_;refine B1 gC ?_;try simp only [W,Nat.reduceAdd]
  refine BJ Hz ?_;refine BF ?_;refine BU Ff rfl ?_;try obtain rfl:=Option.some.inj h
  exact hP _ J0 _ hS
theorem QQ {a0:Int} {a1:Int} {r:(Int)} (h:KC a0 a1=some r) {F:List It} {H:J} (hS:ap H (F)) {P:AV→J→Prop} (hP: ∀H',ap H' (F)→P (.int .i64 r) H'):aw C 181 [.int .i64 a0,.int .i64 a1] H P:=by
 refine B4 gC (res:=[.tmp 4]) (n:=10) rfl rfl rfl rfl fun K0 Ff=> ?_;simp only [W,Nat.reduceSub,Nat.reduceAdd,List.replicate];unfold KC at h;refine BC fun K1 Fg=> ?_;refine B1 gC ?_;try simp only [W,Nat.reduceAdd]
 refine BJ Fg ?_;refine BC fun K2 zF=> ?_;refine BC fun K3 Fs=> ?_;refine B1 gC ?_;try simp only [W,Fe,Nat.reduceAdd]
 refine BJ Fs ?_;refine BH ?_;simp only [W];refine B0 h (fun hc h=> ?_) (fun hc h=> ?_)
 ·refine BC fun K4 FW=> ?_;refine B1 gC ?_;try simp only [W,Nat.reduceAdd]
  refine BJ FW ?_;refine BF ?_;refine BK zF ?_;refine BU Ff rfl ?_;try obtain rfl:=Option.some.inj h
  exact hP _ hS
 ·refine BE ?_;refine BJ zF ?_;refine BC fun K5 FQ=> ?_;refine B1 gC ?_;try simp only [W,Nat.reduceAdd]
  refine BJ FQ ?_;refine BF ?_;refine BU Ff rfl ?_;try obtain rfl:=Option.some.inj h
  exact hP _ hS
theorem QR {a0:List Task} {a1:List Int} {r:(Int×Bool)} (h:Hs a0 a1=some r) {F:List It} {H:J} (hS:ap H (F)) {P:AV→J→Prop} (hP: ∀H',ap H' (F)→P (.aA [.int .i64 r.1,.bool r.2]) H'):aw C 41 [.fz (a0.map Fh),.fz (a1.map (AV.int .i64))] H P:=by
 refine B4 gC (res:=[.tmp 4,.tmp 5]) (n:=46) rfl rfl rfl rfl fun K0 Ff=> ?_;simp only [W,Nat.reduceSub,Nat.reduceAdd,List.replicate];unfold Hs at h;refine BC fun K1 Fg=> ?_;refine B1 gC ?_;try simp only [W,Nat.reduceAdd]
 refine BJ Fg ?_;refine BC fun K2 zF=> ?_;refine BC fun K3 Fs=> ?_;refine B1 gC ?_;try simp only [W,Nat.reduceAdd]
 refine Cu h fun Ft GU h=> ?_;refine NW GU hS fun H hS=> ?_;try simp only [W]
 refine BJ Fs ?_;refine BH ?_;simp only [W];refine B0 h (fun hc h=> ?_) (fun hc h=> ?_)
 ·refine BC fun K5 FQ=> ?_;refine B1 gC ?_;try simp only [W,Nat.reduceAdd]
  refine BJ FQ ?_;refine BF ?_;refine BK zF ?_;refine BV Ff rfl rfl ?_;try obtain rfl:=Option.some.inj h
  exact hP _ hS
 ·refine BE ?_;refine BJ zF ?_;refine BC fun K6 F7=> ?_;refine BC fun K7 FL=> ?_;refine B1 gC ?_;try simp only [W,Fe,Nat.reduceAdd]
  refine BJ FL ?_;refine BH ?_;simp only [W];refine B0 h (fun hc h=> ?_) (fun hc h=> ?_)
  ·refine BC fun K8 FB=> ?_;refine B1 gC ?_;try simp only [W,Nat.reduceAdd]
   refine BJ FB ?_;refine BF ?_;refine BK F7 ?_;refine BV Ff rfl rfl ?_;try obtain rfl:=Option.some.inj h
   exact hP _ hS
  ·refine BE ?_;refine BJ F7 ?_;refine BC fun K9 FC=> ?_;refine B1 gC ?_;try simp only [W,Nat.reduceAdd]
   refine Cu h fun F3 KR h=> ?_;refine NX KR hS fun v11 J5 H hS=> ?_;try simp only [W]
   refine BJ FC ?_;refine BC fun GQ FF=> ?_;refine B3 gC (by kernel_rfl) ?_
   try simp only [W,Fe,Nat.reduceAdd]
   refine Cp 0 hS rfl rfl rfl rfl rfl h (fun Ic VG VH VI Mf h QS=> ?_) J5.ne;obtain ⟨VJ,QT,QU⟩:=hS.elem 0 rfl QS Mf;try simp only [W,Fe,QT,QU]
   refine Co rfl rfl rfl (fun _=>rfl) h fun G5 VK h=> ?_;try simp only [W,Fe,F5,Nat.reduceAdd,Nat.reduceBEq]
   refine BJ FF ?_;refine BC fun GF Fy=> ?_;refine BC fun HO FV=> ?_;refine B1 gC ?_;try simp only [W,Fe,Nat.reduceAdd]
   refine BJ FV ?_;obtain ⟨QV,QW,QX⟩:=Option.bind_eq_some_iff.1 h;refine Cz gC (fun s H=> ∃JD:Int,QV=(JD)∧s=[u,u,u,u,u,u,u,.int .i64 JD,u,u,u,u,u,u,u,u,u,u,u,u,u,u,u,u,u,u,u,u,u,u,u,u,u,u,u,u,u,u,u,u,u,u,u,u,u,u]∧ap H (F)) (fun J1 Hb=> ?_) (fun s H hq=> ?_)
   ·refine BD fun J2 GJ=> ?_;refine Cv gC QW (fun x s H=>match x with|(FO,Gz)=>s=[u,u,u,u,u,u,v11,.int .i64 FO,u,u,u,u,u,u,u,u,u,u,u,u,u,u,u,u,u,u,u,u,.fz (a0.map Fh),.int .i64 (a0.length:Int),.int .i64 Gz,u,u,u,u,u,u,u,u,u,u,u,u,u,u,u]∧ap H (⟨v11,1,F3.map (AV.int .i64)⟩::F)) ⟨rfl,hS⟩ (fun x N0 s H h QY hi L3 Hn=> ?_)
    obtain ⟨FO,Gz⟩:=x;try dsimp only at hi
    obtain ⟨rfl,hS⟩:=hi;simp only [KD] at h;refine BC fun LV Iu=> ?_;refine B1 gC ?_;try simp only [W,Fe,Nat.reduceAdd]
    refine BJ Iu ?_;refine BC fun KX Hl=> ?_;refine BH ?_;simp only [W];refine B0 h (fun hc h=> ?_) (fun hc h=> ?_)
    ·refine BE ?_;refine BJ Hl ?_;refine BC fun NP I8=> ?_;refine BD fun La Hz=> ?_;refine BC fun L5 HA=> ?_;refine B1 gC ?_;try simp only [W,Fe,Nat.reduceAdd]
     refine Co rfl rfl rfl (fun _=>rfl) h fun Ib VL h=> ?_;try simp only [W,Fe,F5,reduceIte,Nat.reduceAdd,Nat.reduceLeDiff]
     refine Ci hS rfl rfl fun VM VN H hS=> ?_;try simp only [W]
     refine Cj (a:= .agg [.int .i64 Ib.Fv,.int .i64 Ib.End]) (y' := .agg [.int .i64 Ib.Fv,.int .i64 Ib.End]) 0 hS rfl rfl rfl rfl rfl rfl rfl rfl fun H hS=> ?_
     try simp only [W]
     refine BJ HA ?_;refine B3 gC (by kernel_rfl) ?_
     try simp only [W,Fe,Nat.reduceAdd]
     refine Cp 1 hS rfl rfl rfl rfl rfl h (fun Gt QZ Q0 Q1 Lc h Mg=> ?_) J5.ne;obtain ⟨Q2,Mh,Mi⟩:=hS.elem 1 rfl Mg Lc;try simp only [W,Fe,Nat.reduceAdd,Nat.reduceBEq,hS.var 0 rfl,Mh,Mi]
     refine DG (bC:=[[.sc]]) (ys:=[.int .i64 FO,.int .i64 (IntKind.i64.wrap (Gt-Ib.End))]) h rfl (by rfl) fun IZ Mj h=>⟨.int .i64 IZ,QQ Mj (ap.nil _) fun H hS=>Dy rfl (Du rfl (Dt rfl)),⟨rfl,rfl,fun _=>rfl⟩,?_⟩
     try simp only [W]
     refine BN Hz ?_;refine BJ I8 ?_;refine B1 gC ?_;try simp only [W,Fe,Nat.reduceAdd]
     exact Cw Hn h ⟨rfl,(hS.C2 2 [1] (by decide))⟩
    ·refine BG ?_;refine BL Hl ?_;try obtain rfl:=Option.some.inj h
     obtain rfl:=QY _ rfl;have h:(some (FO):Option (Int))=some (FO):=rfl;refine Cx Hn ?_;refine BP GJ ?_;exact CA Hb ⟨_,(Option.some.inj h).symm,rfl,(hS.C2 1 [] (by decide))⟩
   ·obtain ⟨JD,Fp,rfl,hS⟩:=hq;obtain rfl:=Fp.symm;replace h:=QX;try dsimp only at h
    refine BJ Fy ?_;refine BC fun N1 J6=> ?_;refine B1 gC ?_;try simp only [W,Nat.reduceAdd]
    refine BJ J6 ?_;refine BF ?_;refine BV Ff rfl rfl ?_;try obtain rfl:=Option.some.inj h
    exact hP _ hS
theorem Q3 {a0:Int} {a1:Int} {a2:List Task} {i2:Nat} {w2:Nat} {r:(Int)} (h:KE a0 a1 a2=some r) {F:List It} {H:J} (kQ:⟨.ptr i2 w2 0 0,1,[.fz (a2.map Fh)]⟩∈F) (hS:ap H (F)) {P:AV→J→Prop} (hP: ∀H',ap H' (F)→P (.int .i64 r) H'):aw C 289 [.int .i64 a0,.int .i64 a1,.ptr i2 w2 0 0] H P:=by
 refine B4 gC (res:=[.tmp 5]) (n:=17) rfl rfl rfl rfl fun K0 Ff=> ?_;simp only [W,Nat.reduceSub,Nat.reduceAdd,List.replicate];unfold KE at h;refine BC fun K1 Fg=> ?_;refine B1 gC ?_;try simp only [W,Nat.reduceAdd]
 refine BJ Fg ?_;refine BC fun K2 zF=> ?_;refine B3 gC (by kernel_rfl) ?_
 try simp only [W,Fe,Nat.reduceAdd,hS.CN kQ]
 refine Co rfl rfl rfl (fun _=>rfl) h fun b3 kV h=> ?_;try simp only [W,Fe,F5,Nat.reduceAdd,Nat.reduceBEq,hS.CN kQ]
 refine Co rfl rfl rfl (fun _=>rfl) h fun Ft GU h=> ?_;try simp only [W,Fe,F5,Nat.reduceAdd,Nat.reduceBEq]
 refine BJ zF ?_;refine BF ?_;refine BU Ff rfl ?_;try obtain rfl:=Option.some.inj h
 exact hP _ hS
theorem N2 {a0:List Int} {a1:Int} {a2:Int} {g3:Int→Int→Option Int} {f3:FuncId} {c3:List AV} {m0:AV} {r:(List Int)} (h:HL a0 a1 a2 g3=some r) {F:List It} {H:J} (nZ: ∀{x0:Int} {Ho:Int} {r:Int},g3 x0 Ho=some r→ ∀(L:List It) (n:Nat),L.drop n=F→ ∀(H:J),ap H L→ ∀(P:AV→J→Prop),(∀H',ap H' L→P (.int .i64 r) H')→aw C f3 ([.int .i64 x0,.int .i64 Ho] ++ c3) H P) (hS:ap H (⟨m0,1,a0.map (AV.int .i64)⟩::F)) (GW:aJ m0) {P:AV→J→Prop} (hP: ∀H',ap H' (⟨m0,1,r.map (AV.int .i64)⟩::F)→P (.aA []) H'):aw C 321 [m0,.int .i64 a1,.int .i64 a2,.fn f3 c3] H P:=by
 refine B4 gC (res:=[]) (n:=53) rfl rfl rfl rfl fun K0 Ff=> ?_;simp only [W,Nat.reduceSub,Nat.reduceAdd,List.replicate];unfold HL at h;refine BC fun K1 Fg=> ?_;refine B1 gC ?_;try simp only [W,Fe,Nat.reduceAdd]
 refine BJ Fg ?_;obtain ⟨GI,Ha,F6⟩:=Option.bind_eq_some_iff.1 h;refine Cz gC (fun s H=> ∃Fk:List Int,GI=(Fk)∧s=[u,u,u,u,u,u,u,u,u,u,u,u,u,u,u,u,u,u,u,u,u,u,u,u,u,u,u,u,u,u,u,u,u,u,u,u,u,u,u,u,u,u,u,u,u,u,u,u,u,u,u,u,u]∧ap H (⟨m0,1,Fk.map (AV.int .i64)⟩::F)) (fun K7 FL=> ?_) (fun s H hq=> ?_)
 ·refine BD fun K8 FB=> ?_;refine Cv gC Ha (fun x s H=>match x with|(Ie,x3)=>s=[m0,.int .i64 a1,.int .i64 a2,.fn f3 c3,u,u,u,u,.int .i64 x3,u,u,u,u,u,u,u,u,u,u,u,u,u,u,u,u,u,u,u,u,u,u,u,u,u,u,u,u,u,u,u,u,u,u,u,u,u,u,u,u,u,u,u,u]∧ap H (⟨m0,1,Ie.map (AV.int .i64)⟩::F)) ⟨rfl,hS⟩ (fun x G_ s H h Gg hi K9 FC=> ?_)
  obtain ⟨Ie,x3⟩:=x;try dsimp only at hi
  obtain ⟨rfl,hS⟩:=hi;simp only [KG] at h;refine BC fun GQ FF=> ?_;refine BC fun Hh FK=> ?_;refine B1 gC ?_;try simp only [W,Fe,Nat.reduceAdd]
  refine BJ FK ?_;refine BH ?_;simp only [W];refine B0 h (fun hc h=> ?_) (fun hc h=> ?_)
  ·refine BE ?_;refine BJ FF ?_;refine BC fun GR FA=> ?_;refine BD fun GS FD=> ?_;refine BC fun GF Fy=> ?_;refine B1 gC ?_;try simp only [W,Nat.reduceAdd]
   refine BJ Fy ?_;obtain ⟨Q4,Q5,Q6⟩:=Option.bind_eq_some_iff.1 h;refine Cz gC (fun s H=> ∃Gz:List Int,Q4=(Gz)∧s=[m0,.int .i64 a1,.int .i64 a2,.fn f3 c3,u,u,u,u,.int .i64 x3,u,u,u,u,u,u,u,u,u,u,u,u,u,u,u,u,u,u,u,u,u,u,u,u,u,u,u,u,u,u,u,u,u,u,u,u,u,u,u,u,u,u,u,u]∧ap H (⟨m0,1,Gz.map (AV.int .i64)⟩::F)) (fun JS G7=> ?_) (fun s H hq=> ?_)
   ·refine BD fun J1 Hb=> ?_;refine Cv gC Q5 (fun x s H=>match x with|(Gv,FO)=>s=[m0,.int .i64 a1,.int .i64 a2,.fn f3 c3,u,u,u,u,.int .i64 x3,.int .i64 FO,u,u,u,u,u,u,u,u,u,u,u,u,u,u,u,u,u,u,u,u,u,u,u,u,u,u,u,u,u,u,u,u,u,u,u,u,u,u,u,u,u,u,u]∧ap H (⟨m0,1,Gv.map (AV.int .i64)⟩::F)) ⟨rfl,hS⟩ (fun x VO s H h Q7 hi J2 GJ=> ?_)
    obtain ⟨Gv,FO⟩:=x;try dsimp only at hi
    obtain ⟨rfl,hS⟩:=hi;simp only [JE] at h;refine BC fun NT IA=> ?_;refine BC fun LV Iu=> ?_;obtain ⟨Q8,h,Q9⟩:=Option.bind_eq_some_iff.1 h;refine Cz gC (fun s H=> ∃Gj:Bool,Q8=(Gj)∧s=[m0,.int .i64 a1,.int .i64 a2,.fn f3 c3,u,u,u,u,.int .i64 x3,.int .i64 FO,u,u,u,u,u,u,u,u,u,u,u,u,u,u,u,u,u,u,u,u,u,u,u,u,.bool Gj,u,u,u,u,u,u,u,u,u,u,u,u,u,u,u,u,u,u]∧ap H (⟨m0,1,Gv.map (AV.int .i64)⟩::F)) (fun L5 HA=> ?_) (fun s H hq=> ?_)
    ·refine BC fun Lb GV=> ?_;refine Da gC [(14,[])] (by kernel_rfl) rfl (by kernel_rfl) ?_
     try simp only [W,Fe,reduceIte,Nat.reduceAdd,iV,lQ,Nat.reduceEqDiff]
     refine C8 h (fun hc h=> ?_) (fun hc h=> ?_)
     ·try simp only [W,Fe,hc]
      refine Cp 0 hS rfl rfl rfl rfl rfl h (fun MU VP VQ VR Q_ h Ra=> ?_) GW.ne;obtain ⟨VT,Rb,Rc⟩:=hS.elem 0 rfl Ra Q_;try simp only [W,Fe,Rb,Rc]
      refine Cp 0 hS rfl rfl rfl rfl rfl h (fun Gt QZ Q0 Q1 Lc h Mg=> ?_) GW.ne;obtain ⟨Q2,Mh,Mi⟩:=hS.elem 0 rfl Mg Lc;try simp only [W,Fe,Mh,Mi]
      refine Cu h fun IZ Mj h=> ?_;refine nZ Mj _ 1 rfl _ hS _ fun H hS=> ?_;try simp only [W,Fe,reduceIte]
      refine BJ GV ?_;refine BI ?_;exact CA HA ⟨_,(Option.some.inj h).symm,rfl,hS⟩
     ·try simp only [W,hc]
      refine BJ GV ?_;refine BI ?_;exact CA HA ⟨_,(Option.some.inj h).symm,rfl,hS⟩
    ·obtain ⟨Gj,Fp,rfl,hS⟩:=hq;obtain rfl:=Fp.symm;replace h:=Q9;try dsimp only at h
     refine BJ Iu ?_;refine BH ?_;simp only [W];refine B0 h (fun hc h=> ?_) (fun hc h=> ?_)
     ·refine BE ?_;refine BJ IA ?_;refine BC fun Re I9=> ?_;refine BD fun VU Rf=> ?_;refine Da gC [(15,[2,3,4]),(17,[])] (by kernel_rfl) rfl (by kernel_rfl) ?_
      try simp only [W,Fe,reduceIte,Nat.reduceAdd,iV,lQ,Nat.reduceEqDiff]
      refine Cp 0 hS rfl rfl rfl rfl rfl h (fun JF VV VW VX IB h IC=> ?_) GW.ne;obtain ⟨VY,Rg,Rh⟩:=hS.elem 0 rfl IC IB;try simp only [W,Fe,Rg,Rh]
      refine Cp 0 hS rfl rfl rfl rfl rfl h (fun KF VZ V0 V1 ID h IE=> ?_) GW.ne;obtain ⟨V2,Ri,Rj⟩:=hS.elem 0 rfl IE ID;try simp only [W,Fe,Ri,Rj]
      refine Cp 0 hS rfl rfl rfl rfl rfl h (fun V3 V4 V5 V6 HR h HS=> ?_) GW.ne;obtain ⟨V7,V8,V9⟩:=hS.elem 0 rfl HS HR;try simp only [W]
      refine Cq (a:= .int .i64 JF) (y' :=JF) 0 hS rfl HS HR rfl rfl rfl rfl rfl rfl rfl fun H hS=> ?_
      refine Db ?_;refine Dc (by first|rfl|(simp [aP,W,Fe,F5,bS,jM,aH,AV.cells];done)|exact DT 0 hS rfl rfl rfl rfl rfl J7 J8 rfl rfl rfl rfl|exact DU 0 hS rfl rfl J7 J8 rfl rfl rfl|exact DT 0 hS rfl rfl rfl rfl rfl J9 J_ rfl rfl rfl rfl|exact DU 0 hS rfl rfl J9 J_ rfl rfl rfl|exact DT 0 hS rfl rfl rfl rfl rfl IC IB rfl rfl rfl rfl|exact DU 0 hS rfl rfl IC IB rfl rfl rfl|exact DT 0 hS rfl rfl rfl rfl rfl IE ID rfl rfl rfl rfl|exact DU 0 hS rfl rfl IE ID rfl rfl rfl|exact DT 0 hS rfl rfl rfl rfl rfl HS HR rfl rfl rfl rfl|exact DU 0 hS rfl rfl HS HR rfl rfl rfl) ?_
      refine Dc (by first|rfl|(simp [aP,W,Fe,F5,bS,jM,aH,AV.cells];done)|exact DT 0 hS rfl rfl rfl rfl rfl J7 J8 rfl rfl rfl rfl|exact DU 0 hS rfl rfl J7 J8 rfl rfl rfl|exact DT 0 hS rfl rfl rfl rfl rfl J9 J_ rfl rfl rfl rfl|exact DU 0 hS rfl rfl J9 J_ rfl rfl rfl|exact DT 0 hS rfl rfl rfl rfl rfl IC IB rfl rfl rfl rfl|exact DU 0 hS rfl rfl IC IB rfl rfl rfl|exact DT 0 hS rfl rfl rfl rfl rfl IE ID rfl rfl rfl rfl|exact DU 0 hS rfl rfl IE ID rfl rfl rfl|exact DT 0 hS rfl rfl rfl rfl rfl HS HR rfl rfl rfl rfl|exact DU 0 hS rfl rfl HS HR rfl rfl rfl) ?_
      refine Dc (by first|rfl|(simp [aP,W,Fe,F5,bS,jM,aH,AV.cells];done)|exact DT 0 hS rfl rfl rfl rfl rfl J7 J8 rfl rfl rfl rfl|exact DU 0 hS rfl rfl J7 J8 rfl rfl rfl|exact DT 0 hS rfl rfl rfl rfl rfl J9 J_ rfl rfl rfl rfl|exact DU 0 hS rfl rfl J9 J_ rfl rfl rfl|exact DT 0 hS rfl rfl rfl rfl rfl IC IB rfl rfl rfl rfl|exact DU 0 hS rfl rfl IC IB rfl rfl rfl|exact DT 0 hS rfl rfl rfl rfl rfl IE ID rfl rfl rfl rfl|exact DU 0 hS rfl rfl IE ID rfl rfl rfl|exact DT 0 hS rfl rfl rfl rfl rfl HS HR rfl rfl rfl rfl|exact DU 0 hS rfl rfl HS HR rfl rfl rfl) ?_
      refine Dd ?_;try simp only [W,Fe]
      refine Cp 0 hS rfl rfl rfl rfl rfl h (fun Ki V_ Wa Wb N3 h N4=> ?_) GW.ne;obtain ⟨Wc,Wd,We⟩:=hS.elem 0 rfl N4 N3;try simp only [W]
      refine Cq (a:= .int .i64 KF) (y' :=KF) 0 hS rfl N4 N3 rfl rfl rfl rfl rfl rfl rfl fun H hS=> ?_
      try simp only [W]
      refine BN Rf ?_;refine BJ I9 ?_;refine B1 gC ?_;try simp only [W,Fe,Nat.reduceAdd]
      exact Cw GJ h ⟨rfl,hS⟩
     ·refine BG ?_;refine BL IA ?_;try obtain rfl:=Option.some.inj h
      obtain rfl:=Q7 _ rfl;have h:(some (Gv):Option ((List Int)))=some (Gv):=rfl;refine Cx GJ ?_;refine BP Hb ?_;exact CA G7 ⟨_,(Option.some.inj h).symm,rfl,hS⟩
   ·obtain ⟨Gz,Fp,rfl,hS⟩:=hq;obtain rfl:=Fp.symm;replace h:=Q6;try dsimp only at h
    refine BN FD ?_;refine BJ FA ?_;refine B1 gC ?_;try simp only [W,Fe,Nat.reduceAdd]
    exact Cw FC h ⟨rfl,hS⟩
  ·refine BG ?_;refine BL FF ?_;try obtain rfl:=Option.some.inj h
   obtain rfl:=Gg _ rfl;have h:(some (Ie):Option ((List Int)))=some (Ie):=rfl;refine Cx FC ?_;refine BP FB ?_;exact CA FL ⟨_,(Option.some.inj h).symm,rfl,hS⟩
 ·obtain ⟨Fk,Fp,rfl,hS⟩:=hq;obtain rfl:=Fp.symm;replace h:=F6;try dsimp only at h
  refine BZ Ff ?_;try obtain rfl:=Option.some.inj h
  exact hP _ hS
theorem Rk {a0:List Int} {a1:Int} {g2:Int→Int→Option Int} {f2:FuncId} {c2:List AV} {m0:AV} {r:(List Int)} (h:JI a0 a1 g2=some r) {F:List It} {H:J} (nY: ∀{x0:Int} {Ho:Int} {r:Int},g2 x0 Ho=some r→ ∀(L:List It) (n:Nat),L.drop n=F→ ∀(H:J),ap H L→ ∀(P:AV→J→Prop),(∀H',ap H' L→P (.int .i64 r) H')→aw C f2 ([.int .i64 x0,.int .i64 Ho] ++ c2) H P) (hS:ap H (⟨m0,1,a0.map (AV.int .i64)⟩::F)) (GW:aJ m0) {P:AV→J→Prop} (hP: ∀H',ap H' (⟨m0,1,r.map (AV.int .i64)⟩::F)→P (.aA []) H'):aw C 287 [m0,.int .i64 a1,.fn f2 c2] H P:=by
 refine B4 gC (res:=[]) (n:=63) rfl rfl rfl rfl fun K0 Ff=> ?_;simp only [W,Nat.reduceSub,Nat.reduceAdd,List.replicate];unfold JI at h;refine BC fun K1 Fg=> ?_;refine B1 gC ?_;try simp only [W,Nat.reduceAdd]
 refine BJ Fg ?_;refine BC fun K2 zF=> ?_;refine B1 gC ?_;try simp only [W,Nat.reduceAdd]
 refine BJ zF ?_;refine BC fun K3 Fs=> ?_;obtain ⟨Rl,Rm,LB⟩:=Option.bind_eq_some_iff.1 h;refine Cz gC (fun s H=> ∃FJ:List Int,∃Fu:Int,Rl=(FJ,Fu)∧s=(m0:: .int .i64 a1:: .fn f2 c2::u::u::u:: .int .i64 20:: .int .i64 Fu::u::u::u::u::u::u::u::u::u::u::u::u::u::u::u::u::u::u::u::u::u::u::u::u::u::u::u::u::u::u::u::u::u::u::u::u::u::u::u::u::u::u::u::u::u::u::u::u::u::u::u::u::u::u::u::[])∧ap H (⟨m0,1,FJ.map (AV.int .i64)⟩::F)) (fun JR GC=> ?_) (fun s H hq=> ?_)
 ·refine BD fun KS GD=> ?_;refine Cv gC Rm (fun x s H=>match x with|(Fk,Fi,If)=>s=(m0:: .int .i64 a1:: .fn f2 c2::u::u::u:: .int .i64 20:: .int .i64 Fi:: .int .i64 If::u::u::u::u::u::u::u::u::u::u::u::u::u::u::u::u::u::u::u::u::u::u::u::u::u::u::u::u::u::u::u::u::u::u::u::u::u::u::u::u::u::u::u::u::u::u::u::u::u::u::u::u::u::u::[])∧ap H (⟨m0,1,Fk.map (AV.int .i64)⟩::F)) ⟨rfl,hS⟩ (fun x Nl s H h Rn hi GQ FF=> ?_)
  obtain ⟨Fk,Fi,If⟩:=x;try dsimp only at hi
  obtain ⟨rfl,hS⟩:=hi;simp only [JG] at h;refine BC fun GF Fy=> ?_;refine BC fun HO FV=> ?_;refine B1 gC ?_;try simp only [W,Fe,Nat.reduceAdd]
  refine BJ FV ?_;refine BH ?_;simp only [W];refine B0 h (fun hc h=> ?_) (fun hc h=> ?_)
  ·refine BE ?_;refine BJ Fy ?_;refine BD fun I4 Gb=> ?_;refine BC fun Hw FX=> ?_;refine B1 gC ?_;try simp only [W,Nat.reduceAdd]
   refine Cu h fun Gm NV h=> ?_;refine N2 NV nY hS GW fun H hS=> ?_;try simp only [W]
   refine BJ FX ?_;refine BC fun Iq Ga=> ?_;refine B1 gC ?_;try simp only [W,Nat.reduceAdd]
   refine BJ Ga ?_;refine B1 gC ?_;try simp only [W,Fe,Nat.reduceAdd]
   refine BN Gb ?_;exact Cw FF h ⟨rfl,hS⟩
  ·refine BG ?_;refine BL Fy ?_;try obtain rfl:=Option.some.inj h
   obtain rfl:=Rn _ rfl;have h:(some (Fk,Fi):Option ((List Int)×Int))=some (Fk,Fi):=rfl;refine Cx FF ?_;refine BP GD ?_;exact CA GC ⟨_,_,(Option.some.inj h).symm,rfl,hS⟩
 ·obtain ⟨FJ,Fu,rfl,rfl,hS⟩:=hq;replace h:=LB;try dsimp only at h
  refine BJ Fs ?_;refine BC fun J2 GJ=> ?_;refine B1 gC ?_;try simp only [W,Nat.reduceAdd]
  refine Cu h fun GP NY h=> ?_;refine N2 NY nY hS GW fun H hS=> ?_;try simp only [W]
  refine BJ GJ ?_;obtain ⟨N0,Ro,Rp⟩:=Option.bind_eq_some_iff.1 h;refine Cz gC (fun s H=>N0=()∧s=(u::u::u::u::u::u::u::u::u::u::u::u::u::u::u::u::u::u::u::u::u::u::u::u::u::u::u::u::u::u::u::u::u::u::u::u::u::u::u::u::u::u::u::u::u::u::u::u::u::u::u::u::u::u::u::u::u::u::u::u::u::u::u::[])∧ap H (⟨m0,1,GP.map (AV.int .i64)⟩::F)) (fun LV Iu=> ?_) (fun s H hq=> ?_)
  ·refine BD fun KX Hl=> ?_;refine Cv gC Ro (fun x s H=>s=(m0:: .int .i64 a1:: .fn f2 c2::u::u::u:: .int .i64 x::u::u::u::u::u::u::u::u::u::u::u::u::u::u::u::u::u::u::u::u::u::u::u::u::u::u::u::u::u::u::u::u::u::u::u::u::u::u::u::u::u::u::u::u::u::u::u::u::u::u::u::u::u::u::u::u::[])∧ap H (⟨m0,1,GP.map (AV.int .i64)⟩::F)) ⟨rfl,hS⟩ (fun F4 Wf s H h Rq hi NP I8=> ?_)
   skip
   try dsimp only at hi
   obtain ⟨rfl,hS⟩:=hi;simp only [JH] at h;refine BC fun L6 HQ=> ?_;refine BC fun QB L7=> ?_;refine B1 gC ?_;try simp only [W,Fe,Nat.reduceAdd]
   refine BJ L7 ?_;refine BH ?_;simp only [W];refine B0 h (fun hc h=> ?_) (fun hc h=> ?_)
   ·refine BE ?_;refine BJ HQ ?_;refine BD fun Nn JT=> ?_;refine BC fun Np I5=> ?_;refine B1 gC ?_;try simp only [W,Fe,Nat.reduceAdd]
    refine BJ I5 ?_;refine BC fun LI G8=> ?_;obtain ⟨Rr,Rs,Rt⟩:=Option.bind_eq_some_iff.1 h;refine Cz gC (fun s H=>Rr=()∧s=(m0:: .int .i64 a1:: .fn f2 c2::u::u::u:: .int .i64 F4:: .int .i64 0::u::u::u::u::u::u::u::u::u::u::u::u::u::u::u::u::u::u::u::u::u::u::u::u::u::u::u::u::u::u::u::u::u::u::u::u::u::u::u::u::u::u::u::u::u::u::u::u::u::u::u::u::u::u::u::[])∧ap H (⟨m0,1,GP.map (AV.int .i64)⟩::F)) (fun N1 J6=> ?_) (fun s H hq=> ?_)
    ·refine BD fun LJ G9=> ?_;refine Cv gC Rs (fun x s H=>s=(m0:: .int .i64 a1:: .fn f2 c2::u::u::u:: .int .i64 F4:: .int .i64 0:: .int .i64 (IntKind.i64.wrap (2*F4))::u::u::u::u::u::u::u::u::u::u::u::u::u::u::u::u::u::u::u::u::u::u::u::u::u::u::u::u::u::u::u::u::u::u::u::u::u::u::u::u::u::u::u::u::u::u::u::u::u::u::u::u::u::u::[])∧ap H (⟨m0,1,GP.map (AV.int .i64)⟩::F)) ⟨rfl,hS⟩ (fun x Wg s H h Ru hi KU Hk=> ?_)
     skip
     try dsimp only at hi
     obtain ⟨rfl,hS⟩:=hi;simp only [MV] at h;refine BC fun N5 HB=> ?_;refine BC fun Rv Mk=> ?_;refine B1 gC ?_;try simp only [W,Fe,Nat.reduceAdd]
     refine BJ Mk ?_;refine BH ?_;simp only [W];refine B0 h (fun hc h=> ?_) (fun hc h=> ?_)
     ·refine BE ?_;refine BJ HB ?_;refine BD fun Wh Wi=> ?_;refine BC fun Nx JX=> ?_;refine B1 gC ?_;try simp only [W,Fe,Nat.reduceAdd]
      exact absurd h (by simp)
     ·refine BG ?_;refine BL HB ?_;try obtain rfl:=Option.some.inj h
      obtain rfl:=Ru _ rfl;have h:(some ():Option Unit)=some ():=rfl;refine Cx Hk ?_;refine BP G9 ?_;exact CA J6 ⟨(Option.some.inj h).symm,rfl,hS⟩
    ·obtain ⟨rfl,rfl,hS⟩:=hq;replace h:=Rt;try dsimp only at h
     refine BJ G8 ?_;refine BC fun Rw Ml=> ?_;refine BC fun Wj Rx=> ?_;refine B1 gC ?_;try simp only [W,Fe,Nat.reduceAdd]
     refine BJ Rx ?_;refine BC fun PP KY=> ?_;refine B1 gC ?_;try simp only [W,Fe,Nat.reduceAdd]
     refine BJ KY ?_;obtain ⟨Ry,h,Rz⟩:=Option.bind_eq_some_iff.1 h;refine Cz gC (fun s H=>Ry=()∧s=(m0:: .int .i64 a1:: .fn f2 c2::u::u::u:: .int .i64 F4::u::u::u::u::u::u::u::u::u::u::u::u::u::u::u::u::u::u::u::u::u::u::u::u::u::u::u::u::u::u::u::u::u::u::u::u::u::u::u::u::u::u::u::u::u::u::u::u::u::u::u::u::u::u::u::u::[])∧ap H (⟨m0,1,GP.map (AV.int .i64)⟩::F)) (fun NA Ix=> ?_) (fun s H hq=> ?_)
     ·refine BC fun LO Ir=> ?_;refine BH ?_;simp only [W];refine B0 h (fun hc h=> ?_) (fun hc h=> ?_)
      ·refine B1 gC ?_;try simp only [W,Nat.reduceAdd]
       exact absurd h (by simp)
      ·refine BE ?_;refine BJ Ir ?_;refine EB (s' :=(m0:: .int .i64 a1:: .fn f2 c2::u::u::u:: .int .i64 F4::u::u::u::u::u::u::u::u::u::u::u::u::u::u::u::u::u::u::u::u::u::u::u::u::u::u::u::u::u::u::u::u::u::u::u::u::u::u::u::u::u::u::u::u::u::u::u::u::u::u::u::u::u::u::u::u::[])) rfl ?_
       exact CA Ix ⟨(Option.some.inj h).symm,rfl,hS⟩
     ·obtain ⟨rfl,rfl,hS⟩:=hq;replace h:=Rz;try dsimp only at h
      refine BJ Ml ?_;refine B1 gC ?_;try simp only [W,Fe,Nat.reduceAdd]
      refine BN JT ?_;exact Cw I8 h ⟨rfl,hS⟩
   ·refine BG ?_;refine BL HQ ?_;try obtain rfl:=Option.some.inj h
    obtain rfl:=Rq _ rfl;have h:(some ():Option Unit)=some ():=rfl;refine Cx I8 ?_;refine BP Hl ?_;exact CA Iu ⟨(Option.some.inj h).symm,rfl,hS⟩
  ·obtain ⟨rfl,rfl,hS⟩:=hq;replace h:=Rp;try dsimp only at h
   refine BZ Ff ?_;try obtain rfl:=Option.some.inj h
   exact hP _ hS
theorem RA {a0:List Int} {g1:Int→Int→Option Int} {f1:FuncId} {c1:List AV} {m0:AV} {r:(List Int)} (h:Ig a0 g1=some r) {F:List It} {H:J} (cP: ∀{x0:Int} {Ho:Int} {r:Int},g1 x0 Ho=some r→ ∀(L:List It) (n:Nat),L.drop n=F→ ∀(H:J),ap H L→ ∀(P:AV→J→Prop),(∀H',ap H' L→P (.int .i64 r) H')→aw C f1 ([.int .i64 x0,.int .i64 Ho] ++ c1) H P) (hS:ap H (⟨m0,1,a0.map (AV.int .i64)⟩::F)) (GW:aJ m0) {P:AV→J→Prop} (hP: ∀H',ap H' (⟨m0,1,r.map (AV.int .i64)⟩::F)→P (.aA []) H'):aw C 173 [m0,.fn f1 c1] H P:=by
 refine B4 gC (res:=[]) (n:=9) rfl rfl rfl rfl fun K0 Ff=> ?_;simp only [W,Nat.reduceSub,Nat.reduceAdd,List.replicate];unfold Ig at h;refine B1 gC ?_;try simp only [W,Fe,Nat.reduceAdd]
 refine uE 0 hS rfl GW rfl ?_;try simp only [W]
 refine Cu h fun b1 nc h=> ?_;refine Rk nc cP hS GW fun H hS=> ?_;try simp only [W]
 refine BZ Ff ?_;try obtain rfl:=Option.some.inj h
 exact hP _ hS
theorem RB {a0:List Task} {r:(List Int)} (h:Ih a0=some r) {F:List It} {H:J} (hS:ap H (F)) {P:AV→J→Prop} (hP: ∀Mm:AV,aJ Mm→ ∀H',ap H' (⟨Mm,1,r.map (AV.int .i64)⟩::F)→P (Mm) H'):aw C 182 [.fz (a0.map Fh)] H P:=by
 refine B4 gC (res:=[.tmp 2]) (n:=20) rfl rfl rfl rfl fun K0 Ff=> ?_;simp only [W,Nat.reduceSub,Nat.reduceAdd,List.replicate];unfold Ih at h;refine BC fun K1 Fg=> ?_;refine B1 gC ?_;try simp only [W,Nat.reduceAdd]
 refine Ch hS rfl rfl rfl rfl fun JY JZ H hS=> ?_;try simp only [W]
 refine BJ Fg ?_;refine BC fun K4 FW=> ?_;refine B1 gC ?_;try simp only [W,Nat.reduceAdd]
 refine Cs rfl rfl ?_;try simp only [W]
 refine BJ FW ?_;refine BC fun K5 FQ=> ?_;refine BC fun K6 F7=> ?_;refine B1 gC ?_;try simp only [W,Fe,Nat.reduceAdd,hS.var 0 rfl]
 refine BJ F7 ?_;obtain ⟨Mb,Mc,Md⟩:=Option.bind_eq_some_iff.1 h;refine Cz gC (fun s H=> ∃FN:List Int,Mb=(FN)∧ ∃HT:AV,aJ HT∧s=[u,.ptr JY JZ 0 0,u,HT,u,u,u,u,u,u,u,u,u,u,u,u,u,u,u,u]∧ap H (⟨HT,1,FN.map (AV.int .i64)⟩::⟨.ptr JY JZ 0 0,1,[.fz (a0.map Fh)]⟩::F)) (fun GR FA=> ?_) (fun s H hq=> ?_)
 ·refine BD fun GS FD=> ?_;refine Cv gC Mc (fun x s H=>match x with|(FJ,FH)=> ∃HU:AV,aJ HU∧s=[u,.ptr JY JZ 0 0,u,HU,u,u,u,.int .i64 (a0.length:Int),.int .i64 FH,u,u,u,u,u,u,u,u,u,u,u]∧ap H (⟨HU,1,FJ.map (AV.int .i64)⟩::⟨.ptr JY JZ 0 0,1,[.fz (a0.map Fh)]⟩::F)) ⟨_,nw,rfl,(hS.z_ 1)⟩ (fun x QP s H h Me hi GF Fy=> ?_)
  obtain ⟨FJ,FH⟩:=x;try dsimp only at hi
  obtain ⟨HU,Hp,rfl,hS⟩:=hi;simp only [KH] at h;refine BC fun Hy FY=> ?_;refine B1 gC ?_;try simp only [W,Fe,Nat.reduceAdd]
  refine BJ FY ?_;refine BC fun Iq Ga=> ?_;refine BH ?_;simp only [W];refine B0 h (fun hc h=> ?_) (fun hc h=> ?_)
  ·refine BE ?_;refine BJ Ga ?_;refine BC fun JS G7=> ?_;refine BD fun J1 Hb=> ?_;refine BC fun J2 GJ=> ?_;refine B1 gC ?_;try simp only [W,Nat.reduceAdd]
   refine BJ GJ ?_;refine B1 gC ?_;try simp only [W,Nat.reduceAdd]
   refine Ct (el:=([FH]:List Int).map (AV.int .i64)) hS rfl rfl rfl rfl rfl rfl rfl fun PD H LU hS=> ?_;try simp only [W,Fe]
   refine CM (l:=FJ) (c:=(AV.int .i64)) 1 hS rfl Hp rfl rfl rfl (hS.gZ 0 rfl LU) (fun _=>rfl) rfl h fun Wk H Hf RC hm h hS=> ?_;try simp only [W]
   refine BN Hb ?_;refine BJ G7 ?_;refine B1 gC ?_;try simp only [W,Fe,Nat.reduceAdd]
   exact Cw Fy h ⟨_,RC,rfl,(hS.C2 3 [1,2] (by decide))⟩
  ·refine BG ?_;refine BL Ga ?_;try obtain rfl:=Option.some.inj h
   obtain rfl:=Me _ rfl;have h:(some (FJ):Option ((List Int)))=some (FJ):=rfl;refine Cx Fy ?_;refine BP FD ?_;exact CA FA ⟨_,(Option.some.inj h).symm,_,Hp,rfl,hS⟩
 ·obtain ⟨FN,Fp,HT,N6,rfl,hS⟩:=hq;obtain rfl:=Fp.symm;replace h:=Md;try dsimp only at h
  refine BJ FQ ?_;refine BC fun La Hz=> ?_;refine B1 gC ?_;try simp only [W,Nat.reduceAdd]
  refine Cu h fun H9 RD h=> ?_;refine RA RD (fun h _ n hL _ hS _ hP=>Q3 h (C3 hL (List.mem_of_getElem? (i:=0) rfl)) hS hP) hS N6 fun H hS=> ?_;try simp only [W]
  refine BJ Hz ?_;refine BC fun Lb GV=> ?_;refine B1 gC ?_;try simp only [W,Nat.reduceAdd]
  refine BJ GV ?_;refine BF ?_;refine BU Ff rfl ?_;try obtain rfl:=Option.some.inj h
  exact hP _ N6 _ (hS.C2 2 [0] (by decide))
theorem RE {a0:List Task} {r:(List Int×Bool)} (h:JL a0=some r) {F:List It} {H:J} (hS:ap H (F)) {P:AV→J→Prop} (hP: ∀v10:AV,aJ v10→ ∀H',ap H' (⟨v10,1,r.1.map (AV.int .i64)⟩::F)→P (.aA [v10,.bool r.2]) H'):aw C 42 [.fz (a0.map Fh)] H P:=by
 refine B4 gC (res:=[.tmp 2,.tmp 3]) (n:=9) rfl rfl rfl rfl fun K0 Ff=> ?_;simp only [W,Nat.reduceSub,Nat.reduceAdd,List.replicate];unfold JL at h;refine BC fun K1 Fg=> ?_;refine B1 gC ?_;try simp only [W,Nat.reduceAdd]
 refine BJ Fg ?_;refine BC fun K2 zF=> ?_;refine BC fun K3 Fs=> ?_;refine B1 gC ?_;try simp only [W,Nat.reduceAdd]
 refine Cu h fun Ft GU h=> ?_;refine NM GU hS fun H hS=> ?_;try simp only [W]
 refine BJ Fs ?_;refine BH ?_;simp only [W];refine B0 h (fun hc h=> ?_) (fun hc h=> ?_)
 ·refine BC fun K5 FQ=> ?_;refine B1 gC ?_;try simp only [W,Nat.reduceAdd]
  refine BJ FQ ?_;refine BF ?_;refine BK zF ?_;refine BV Ff rfl rfl ?_;try obtain rfl:=Option.some.inj h
  exact hP _ lN _ (hS.uX 1)
 ·refine BE ?_;refine BJ zF ?_;refine BC fun K6 F7=> ?_;refine B1 gC ?_;try simp only [W,Nat.reduceAdd]
  refine Cu h fun Fx Ka h=> ?_;refine RB Ka hS fun HU Hp H hS=> ?_;try simp only [W]
  refine BJ F7 ?_;refine BF ?_;refine BV Ff rfl rfl ?_;try obtain rfl:=Option.some.inj h
  exact hP _ Hp _ hS
theorem RF {a0:List Task} {r:(List Int)} (h:JM a0=some r) {F:List It} {H:J} (hS:ap H (F)) {P:AV→J→Prop} (hP: ∀Mn:AV,aJ Mn→ ∀H',ap H' (⟨Mn,1,r.map (AV.int .i64)⟩::F)→P (Mn) H'):aw C 184 [.fz (a0.map Fh)] H P:=by
 refine B4 gC (res:=[.tmp 2]) (n:=50) rfl rfl rfl rfl fun K0 Ff=> ?_;simp only [W,Nat.reduceSub,Nat.reduceAdd,List.replicate];unfold JM at h;refine BC fun K1 Fg=> ?_;refine B1 gC ?_;try simp only [W,Nat.reduceAdd]
 refine BJ Fg ?_;refine BC fun K2 zF=> ?_;refine B1 gC ?_;try simp only [W,Nat.reduceAdd]
 refine BJ zF ?_;refine BC fun K3 Fs=> ?_;refine BC fun K4 FW=> ?_;refine B1 gC ?_;try simp only [W,Fe,Nat.reduceAdd]
 refine BJ FW ?_;obtain ⟨G_,LP,LQ⟩:=Option.bind_eq_some_iff.1 h;refine Cz gC (fun s H=> ∃FG:List Int,G_=(FG)∧ ∃v10:AV,aJ v10∧s=[u,u,u,v10,u,u,u,u,u,u,u,u,u,u,u,u,u,u,u,u,u,u,u,u,u,u,u,u,u,u,u,u,u,u,u,u,u,u,u,u,u,u,u,u,u,u,u,u,u,u]∧ap H (⟨v10,1,FG.map (AV.int .i64)⟩::F)) (fun GQ FF=> ?_) (fun s H hq=> ?_)
 ·refine BD fun Hh FK=> ?_;refine Cv gC LP (fun x s H=>match x with|(Fi,Fu)=> ∃v6:AV,aJ v6∧s=[.fz (a0.map Fh),u,u,v6,u,u,u,u,.fz (a0.map Fh),.int .i64 (a0.length:Int),.int .i64 Fu,u,u,u,u,u,u,u,u,u,u,u,u,u,u,u,u,u,u,u,u,u,u,u,u,u,u,u,u,u,u,u,u,u,u,u,u,u,u,u]∧ap H (⟨v6,1,Fi.map (AV.int .i64)⟩::F)) ⟨_,lN,rfl,(hS.uX 1)⟩ (fun x PB s H h LS hi GR FA=> ?_)
  obtain ⟨Fi,Fu⟩:=x;try dsimp only at hi
  obtain ⟨v6,GG,rfl,hS⟩:=hi;simp only [KK] at h;refine BC fun I4 Gb=> ?_;refine B1 gC ?_;try simp only [W,Fe,Nat.reduceAdd]
  refine BJ Gb ?_;refine BC fun Hw FX=> ?_;refine BH ?_;simp only [W];refine B0 h (fun hc h=> ?_) (fun hc h=> ?_)
  ·refine BE ?_;refine BJ FX ?_;refine BC fun Hy FY=> ?_;refine BD fun Iq Ga=> ?_;refine BC fun JS G7=> ?_;refine B1 gC ?_;try simp only [W,Fe,Nat.reduceAdd]
   refine Co rfl rfl rfl (fun _=>rfl) h fun FU Wl h=> ?_;try simp only [W,Fe,F5,reduceIte,Nat.reduceAdd,Nat.reduceLeDiff]
   refine Ci hS rfl rfl fun Lg Lh H hS=> ?_;try simp only [W]
   refine Cj (a:= .agg [.int .i64 FU.Fv,.int .i64 FU.End]) (y' := .agg [.int .i64 FU.Fv,.int .i64 FU.End]) 0 hS rfl rfl rfl rfl rfl rfl rfl rfl fun H hS=> ?_
   try simp only [W]
   refine BJ G7 ?_;refine BC fun I7 Gx=> ?_;refine B1 gC ?_;try simp only [W,Nat.reduceAdd]
   refine BJ Gx ?_;refine BC fun LY Iy=> ?_;obtain ⟨NS,RG,RH⟩:=Option.bind_eq_some_iff.1 h;refine Cz gC (fun s H=> ∃Gq:Int,NS=(Gq)∧s=[.fz (a0.map Fh),u,u,v6,.int .i64 Fu,u,.int .i64 Gq,u,.fz (a0.map Fh),.int .i64 (a0.length:Int),.int .i64 Fu,u,u,u,u,u,u,u,u,u,u,u,u,u,u,u,u,u,u,u,u,u,u,u,u,u,u,u,u,u,u,u,u,u,u,u,u,u,u,u]∧ap H (⟨v6,1,Fi.map (AV.int .i64)⟩::F)) (fun La Hz=> ?_) (fun s H hq=> ?_)
   ·refine BD fun L5 HA=> ?_;refine Cv gC RG (fun x s H=>s=[.fz (a0.map Fh),u,u,v6,.int .i64 Fu,.ptr Lg Lh 0 0,.int .i64 x,u,.fz (a0.map Fh),.int .i64 (a0.length:Int),.int .i64 Fu,u,u,u,u,u,u,u,u,u,u,u,u,u,u,u,u,u,u,u,u,u,u,u,u,u,u,u,u,u,u,u,u,u,u,u,u,u,u,u]∧ap H (⟨v6,1,Fi.map (AV.int .i64)⟩::⟨.ptr Lg Lh 0 0,2,[.agg [.int .i64 FU.Fv,.int .i64 FU.End]]⟩::F)) ⟨rfl,(hS.C2 2 [1,0] (by decide))⟩ (fun F1 Wm s H h RI hi Lb GV=> ?_)
    skip
    try dsimp only at hi
    obtain ⟨rfl,hS⟩:=hi;simp only [KI] at h;refine BC fun Np I5=> ?_;refine BC fun LI G8=> ?_;obtain ⟨Nq,h,LH⟩:=Option.bind_eq_some_iff.1 h;refine Cz gC (fun s H=> ∃GM:Bool,Nq=(GM)∧s=[.fz (a0.map Fh),u,u,v6,.int .i64 Fu,.ptr Lg Lh 0 0,.int .i64 F1,u,.fz (a0.map Fh),.int .i64 (a0.length:Int),.int .i64 Fu,u,u,u,u,u,u,u,u,u,u,u,u,u,u,u,u,u,u,u,u,.bool GM,u,u,u,u,u,u,u,u,u,u,u,u,u,u,u,u,u,u]∧ap H (⟨v6,1,Fi.map (AV.int .i64)⟩::⟨.ptr Lg Lh 0 0,2,[.agg [.int .i64 FU.Fv,.int .i64 FU.End]]⟩::F)) (fun LJ G9=> ?_) (fun s H hq=> ?_)
    ·refine BC fun KU Hk=> ?_;refine B3 gC (by kernel_rfl) ?_
     try simp only [W,Fe,Nat.reduceAdd]
     refine uE 0 hS rfl GG rfl ?_;try simp only [W,Fe]
     refine C8 h (fun hc h=> ?_) (fun hc h=> ?_)
     ·try simp only [W,Fe,hc]
      refine Cp 0 hS rfl rfl rfl rfl rfl h (fun MW Wn Wo Wp RJ h RK=> ?_) GG.ne;obtain ⟨Wq,RL,RM⟩:=hS.elem 0 rfl RK RJ;try simp only [W,Fe,RL,RM]
      refine Co rfl rfl rfl (fun _=>rfl) h fun KJ Nr h=> ?_;try simp only [W,Fe,F5,reduceIte,Nat.reduceAdd,Nat.reduceBEq,hS.var 1 rfl]
      refine BJ Hk ?_;refine BI ?_;exact CA G9 ⟨_,(Option.some.inj h).symm,rfl,hS⟩
     ·try simp only [W,hc]
      refine BJ Hk ?_;refine BI ?_;exact CA G9 ⟨_,(Option.some.inj h).symm,rfl,hS⟩
    ·obtain ⟨GM,Fp,rfl,hS⟩:=hq;obtain rfl:=Fp.symm;replace h:=LH;try dsimp only at h
     refine BJ G8 ?_;refine BH ?_;simp only [W];refine B0 h (fun hc h=> ?_) (fun hc h=> ?_)
     ·refine BE ?_;refine BJ I5 ?_;refine BD fun N5 HB=> ?_;refine B1 gC ?_;try simp only [W,Fe,Nat.reduceAdd]
      refine BN HB ?_;exact Cw GV h ⟨rfl,hS⟩
     ·refine BG ?_;refine BL I5 ?_;try obtain rfl:=Option.some.inj h
      obtain rfl:=RI _ rfl;have h:(some (F1):Option (Int))=some (F1):=rfl;refine Cx GV ?_;refine BP HA ?_;exact CA Hz ⟨_,(Option.some.inj h).symm,rfl,(hS.C2 2 [0] (by decide))⟩
   ·obtain ⟨Gq,Fp,rfl,hS⟩:=hq;obtain rfl:=Fp.symm;replace h:=RH;try dsimp only at h
    refine BJ Iy ?_;refine BC fun Nx JX=> ?_;refine B1 gC ?_;try simp only [W,Nat.reduceAdd]
    refine Cs rfl rfl ?_;try simp only [W,Fe]
    refine Ek 0 hS rfl GG rfl rfl rfl h fun Ph MX Ns RN RO h=> ?_;try simp only [W,Fe]
    have hS:=hS.z_ 1;refine CM (l:=([]:List Int)) (c:=(AV.int .i64)) 0 hS rfl nw rfl rfl rfl (hS.wI 1 rfl RN RO) (fun _=>rfl) rfl h fun Pj H GL LN hm h hS=> ?_;try simp only [W]
    refine BJ JX ?_;refine BC fun Nz Iw=> ?_;refine B1 gC ?_;try simp only [W,Nat.reduceAdd]
    refine Ct (el:=([Fu]:List Int).map (AV.int .i64)) hS rfl rfl rfl rfl rfl rfl rfl fun Wr H RP hS=> ?_;try simp only [W,Fe]
    refine CM (l:=GL) (c:=(AV.int .i64)) 1 hS rfl LN rfl rfl rfl (hS.gZ 0 rfl RP) (fun _=>rfl) rfl h fun Ws H LA RQ hm h hS=> ?_;try simp only [W]
    refine BJ Iw ?_;refine B1 gC ?_;try simp only [W,Fe,Nat.reduceAdd]
    refine CL 2 hS rfl GG rfl rfl rfl h fun Wt Gk RR Wu h hS=> ?_;try simp only [W,Fe]
    refine CM (l:=LA) (c:=(AV.int .i64)) 1 hS rfl RQ rfl rfl rfl (hS.gZ 2 rfl RR) (fun _=>rfl) rfl h fun Wv H MY RS hm h hS=> ?_;try simp only [W]
    refine BN Ga ?_;refine BJ FY ?_;refine B1 gC ?_;try simp only [W,Fe,Nat.reduceAdd]
    exact Cw FA h ⟨_,RS,rfl,(hS.C2 3 [1] (by decide))⟩
  ·refine BG ?_;refine BL FX ?_;try obtain rfl:=Option.some.inj h
   obtain rfl:=LS _ rfl;have h:(some (Fi):Option ((List Int)))=some (Fi):=rfl;refine Cx FA ?_;refine BP FK ?_;exact CA FF ⟨_,(Option.some.inj h).symm,_,GG,rfl,hS⟩
 ·obtain ⟨FG,Fp,v10,HP,rfl,hS⟩:=hq;obtain rfl:=Fp.symm;replace h:=LQ;try dsimp only at h
  refine BJ Fs ?_;refine BC fun Ww RT=> ?_;refine B1 gC ?_;try simp only [W,Nat.reduceAdd]
  refine BJ RT ?_;refine BF ?_;refine BU Ff rfl ?_;try obtain rfl:=Option.some.inj h
  exact hP _ HP _ hS
theorem RU {a0:List Task} {r:(List Int×Bool)} (h:JN a0=some r) {F:List It} {H:J} (hS:ap H (F)) {P:AV→J→Prop} (hP: ∀v10:AV,aJ v10→ ∀H',ap H' (⟨v10,1,r.1.map (AV.int .i64)⟩::F)→P (.aA [v10,.bool r.2]) H'):aw C 43 [.fz (a0.map Fh)] H P:=by
 refine B4 gC (res:=[.tmp 2,.tmp 3]) (n:=9) rfl rfl rfl rfl fun K0 Ff=> ?_;simp only [W,Nat.reduceSub,Nat.reduceAdd,List.replicate];unfold JN at h;refine BC fun K1 Fg=> ?_;refine B1 gC ?_;try simp only [W,Nat.reduceAdd]
 refine BJ Fg ?_;refine BC fun K2 zF=> ?_;refine BC fun K3 Fs=> ?_;refine B1 gC ?_;try simp only [W,Nat.reduceAdd]
 refine Cu h fun Ft GU h=> ?_;refine NU GU hS fun H hS=> ?_;try simp only [W]
 refine BJ Fs ?_;refine BH ?_;simp only [W];refine B0 h (fun hc h=> ?_) (fun hc h=> ?_)
 ·refine BC fun K5 FQ=> ?_;refine B1 gC ?_;try simp only [W,Nat.reduceAdd]
  refine BJ FQ ?_;refine BF ?_;refine BK zF ?_;refine BV Ff rfl rfl ?_;try obtain rfl:=Option.some.inj h
  exact hP _ lN _ (hS.uX 1)
 ·refine BE ?_;refine BJ zF ?_;refine BC fun K6 F7=> ?_;refine B1 gC ?_;try simp only [W,Nat.reduceAdd]
  refine Cu h fun Fx Ka h=> ?_;refine RF Ka hS fun HU Hp H hS=> ?_;try simp only [W]
  refine BJ F7 ?_;refine BF ?_;refine BV Ff rfl rfl ?_;try obtain rfl:=Option.some.inj h
  exact hP _ Hp _ hS
theorem N7 {a0:List Int} {a1:List Int} {r:(Bool)} (h:Ii a0 a1=some r) {F:List It} {H:J} (hS:ap H (F)) {P:AV→J→Prop} (hP: ∀H',ap H' (F)→P (.bool r) H'):aw C 21 [.fz (a0.map (AV.int .i64)),.fz (a1.map (AV.int .i64))] H P:=by
 refine B4 gC (res:=[.tmp 4]) (n:=26) rfl rfl rfl rfl fun K0 Ff=> ?_;simp only [W,Nat.reduceSub,Nat.reduceAdd,List.replicate];unfold Ii at h;refine BC fun K1 Fg=> ?_;refine B1 gC ?_;try simp only [W,Nat.reduceAdd]
 refine BJ Fg ?_;refine BC fun K2 zF=> ?_;refine BC fun K3 Fs=> ?_;refine B1 gC ?_;try simp only [W,Fe,Nat.reduceAdd]
 refine BJ Fs ?_;refine BH ?_;simp only [W];refine B0 h (fun hc h=> ?_) (fun hc h=> ?_)
 ·refine BC fun K4 FW=> ?_;refine B1 gC ?_;try simp only [W,Nat.reduceAdd]
  refine BJ FW ?_;refine BF ?_;refine BK zF ?_;refine BU Ff rfl ?_;try obtain rfl:=Option.some.inj h
  exact hP _ hS
 ·refine BE ?_;refine BJ zF ?_;refine BC fun K5 FQ=> ?_;refine BC fun K6 F7=> ?_;refine B1 gC ?_;try simp only [W,Fe,Nat.reduceAdd]
  refine BJ F7 ?_;obtain ⟨L_,Ma,J3⟩:=Option.bind_eq_some_iff.1 h;refine Cz gC (fun s H=>L_=LR.next ()∧s=[u,u,u,u,u,u,u,u,u,u,u,u,u,u,u,u,u,u,u,u,u,u,u,u,u,u]∧ap H (F)) (fun Nk Ip=> ?_) (fun s H hq=> ?_)
  ·refine BD fun JR GC=> ?_;refine Cv gC Ma (fun x s H=>s=[.fz (a0.map (AV.int .i64)),.fz (a1.map (AV.int .i64)),u,u,u,u,u,u,u,u,u,u,.int .i64 (a0.length:Int),.int .i64 x,u,u,u,u,u,u,u,u,u,u,u,u]∧ap H (F)) ⟨rfl,hS⟩ (fun FJ QL s H h J4 hi KS GD=> ?_)
   skip
   try dsimp only at hi
   obtain ⟨rfl,hS⟩:=hi;simp only [KL] at h;refine BC fun GS FD=> ?_;refine B1 gC ?_;try simp only [W,Fe,Nat.reduceAdd]
   refine BJ FD ?_;refine BC fun GF Fy=> ?_;refine BH ?_;simp only [W];refine B0 h (fun hc h=> ?_) (fun hc h=> ?_)
   ·refine BE ?_;refine BJ Fy ?_;refine BC fun HO FV=> ?_;refine BD fun I4 Gb=> ?_;refine BC fun Hw FX=> ?_;refine B1 gC ?_;try simp only [W,Nat.reduceAdd]
    refine BJ FX ?_;refine BC fun Hy FY=> ?_;refine B3 gC (by kernel_rfl) ?_
    try simp only [W,Fe,Nat.reduceAdd]
    refine Co rfl rfl rfl (fun _=>rfl) h fun G3 N8 h=> ?_;try simp only [W,Fe]
    refine Co rfl rfl rfl (fun _=>rfl) h fun Gf Wx h=> ?_;try simp only [W,Fe]
    refine BJ FY ?_;refine BH ?_;simp only [W];refine B0 h (fun hc h=> ?_) (fun hc h=> ?_)
    ·refine BC fun J1 Hb=> ?_;refine B1 gC ?_;try simp only [W,Nat.reduceAdd]
     refine BJ Hb ?_;refine BF ?_;refine BR Gb ?_;refine BK FV ?_;try obtain rfl:=Option.some.inj h
     obtain rfl:=J4 _ rfl;have h:(some (LR.done false):Option (LR Unit (Bool)))=some (LR.done false):=rfl;refine Cy GD ?_;refine BR GC ?_;try obtain rfl:=Option.some.inj h
     obtain rfl:=Option.some.inj J3;have h:(some false:Option (Bool))=some false:=rfl;refine CC Ip ?_;refine BK FQ ?_;refine BU Ff rfl ?_;try obtain rfl:=Option.some.inj h
     exact hP _ hS
    ·refine BE ?_;refine BN Gb ?_;refine BJ FV ?_;refine B1 gC ?_;try simp only [W,Fe,Nat.reduceAdd]
     exact Cw GD h ⟨rfl,hS⟩
   ·refine BG ?_;refine BL Fy ?_;try obtain rfl:=Option.some.inj h
    obtain rfl:=J4 _ rfl;have h:(some (LR.next ()):Option (LR Unit (Bool)))=some (LR.next ()):=rfl
    refine Cx GD ?_;refine BP GC ?_;exact CA Ip ⟨(Option.some.inj h).symm,rfl,hS⟩
  ·obtain ⟨rfl,rfl,hS⟩:=hq;replace h:=J3;try dsimp only at h
   refine BJ FQ ?_;refine BC fun KX Hl=> ?_;refine B1 gC ?_;try simp only [W,Nat.reduceAdd]
   refine BJ Hl ?_;refine BF ?_;refine BU Ff rfl ?_;try obtain rfl:=Option.some.inj h
   exact hP _ hS
theorem RV {a0:List Int} {r:(List Task×List Int)} (h:JO a0=some r) {F:List It} {H:J} (hS:ap H (F)) {P:AV→J→Prop} (hP: ∀v10:AV,aJ v10→ ∀HT:AV,aJ HT→ ∀H',ap H' (⟨v10,2,r.1.map Fh⟩::⟨HT,1,r.2.map (AV.int .i64)⟩::F)→P (.aA [v10,HT]) H'):aw C 44 [.fz (a0.map (AV.int .u8))] H P:=by
 refine B4 gC (res:=[.tmp 2,.tmp 3]) (n:=8) rfl rfl rfl rfl fun K0 Ff=> ?_;simp only [W,Nat.reduceSub,Nat.reduceAdd,List.replicate];unfold JO at h;refine BC fun K1 Fg=> ?_;refine B1 gC ?_;try simp only [W,Nat.reduceAdd]
 refine BJ Fg ?_;refine BC fun K2 zF=> ?_;refine B1 gC ?_;try simp only [W,Nat.reduceAdd]
 refine Cu h fun b3 kV h=> ?_;obtain ⟨Ft,F0⟩:=b3;try dsimp only at h
 refine NK kV hS fun v6 GG HU Hp H hS=> ?_;try simp only [W]
 refine BJ zF ?_;refine BF ?_;refine BV Ff rfl rfl ?_;try obtain rfl:=Option.some.inj h
 exact hP _ GG _ Hp _ hS
theorem RW {a0:List Task} {a1:List Int} {r:(List Int×Bool)} (h:HM a0 a1=some r) {F:List It} {H:J} (hS:ap H (F)) {P:AV→J→Prop} (hP: ∀v10:AV,aJ v10→ ∀H',ap H' (⟨v10,1,r.1.map (AV.int .i64)⟩::F)→P (.aA [v10,.bool r.2]) H'):aw C 46 [.fz (a0.map Fh),.fz (a1.map (AV.int .i64))] H P:=by
 refine B4 gC (res:=[.tmp 4,.tmp 5]) (n:=13) rfl rfl rfl rfl fun K0 Ff=> ?_;simp only [W,Nat.reduceSub,Nat.reduceAdd,List.replicate];unfold HM at h;refine BC fun K1 Fg=> ?_;refine B1 gC ?_;try simp only [W,Nat.reduceAdd]
 refine BJ Fg ?_;refine BC fun K2 zF=> ?_;refine BC fun K3 Fs=> ?_;refine B1 gC ?_;try simp only [W,Nat.reduceAdd]
 refine Cu h fun Ft GU h=> ?_;refine NW GU hS fun H hS=> ?_;try simp only [W]
 refine BJ Fs ?_;refine BH ?_;simp only [W];refine B0 h (fun hc h=> ?_) (fun hc h=> ?_)
 ·refine BC fun K5 FQ=> ?_;refine B1 gC ?_;try simp only [W,Nat.reduceAdd]
  refine BJ FQ ?_;refine BF ?_;refine BK zF ?_;refine BV Ff rfl rfl ?_;try obtain rfl:=Option.some.inj h
  exact hP _ lN _ (hS.uX 1)
 ·refine BE ?_;refine BJ zF ?_;refine BC fun K6 F7=> ?_;refine B1 gC ?_;try simp only [W,Nat.reduceAdd]
  refine Cu h fun Fx Ka h=> ?_;refine NX Ka hS fun HU Hp H hS=> ?_;try simp only [W]
  refine BJ F7 ?_;refine BF ?_;refine BV Ff rfl rfl ?_;try obtain rfl:=Option.some.inj h
  exact hP _ Hp _ hS
theorem RX {a0:List Int} {a1:List Int} {r:(Bool)} (h:Ik a0 a1=some r) {F:List It} {H:J} (hS:ap H (F)) {P:AV→J→Prop} (hP: ∀H',ap H' (F)→P (.bool r) H'):aw C 5 [.fz (a0.map (AV.int .u8)),.fz (a1.map (AV.int .u8))] H P:=by
 refine B4 gC (res:=[.tmp 4]) (n:=174) rfl rfl rfl rfl fun K0 Ff=> ?_;simp only [W,Nat.reduceSub,Nat.reduceAdd,List.replicate];unfold Ik at h;refine BC fun K1 Fg=> ?_;refine B1 gC ?_;try simp only [W,Nat.reduceAdd]
 refine BJ Fg ?_;refine BC fun K2 zF=> ?_;refine BC fun K3 Fs=> ?_;refine B1 gC ?_;try simp only [W,Fe,Nat.reduceAdd]
 refine BJ Fs ?_;refine BH ?_;simp only [W];refine B0 h (fun hc h=> ?_) (fun hc h=> ?_)
 ·refine BC fun K4 FW=> ?_;refine B1 gC ?_;try simp only [W,Nat.reduceAdd]
  refine BJ FW ?_;refine BF ?_;refine BK zF ?_;refine BU Ff rfl ?_;try obtain rfl:=Option.some.inj h
  exact hP _ hS
 ·refine BE ?_;refine BJ zF ?_;refine BC fun K5 FQ=> ?_;refine B1 gC ?_;try simp only [W,Nat.reduceAdd]
  refine Cu h fun Gn HN h=> ?_;obtain ⟨Fx,Gl⟩:=Gn;try dsimp only at h
  refine NK HN hS fun Gw Hm v11 J5 H hS=> ?_;try simp only [W]
  refine BJ FQ ?_;refine BC fun GQ FF=> ?_;refine B1 gC ?_;try simp only [W,Nat.reduceAdd]
  refine DG (bC:=[[.sc],[.sc]]) (ys:=[.fz (Fx.map Fh),.fz (Gl.map (AV.int .i64))]) h rfl (Ds (Dp hS 0 rfl Hm (fun _=>rfl)) (Ds (Dp hS 1 rfl J5 (fun _=>rfl)) Dr)) fun Ic Mf h=>⟨.aA [.int .i64 Ic.1,.bool Ic.2],NR Mf (ap.nil _) fun H hS=>Dy rfl (Du rfl (Du rfl (Dt rfl))),⟨rfl,rfl,fun _=>rfl⟩,?_⟩;obtain ⟨Ht,G5⟩:=Ic;try dsimp only at h
  try simp only [W]
  refine BJ FF ?_;refine BC fun GF Fy=> ?_;refine B1 gC ?_;try simp only [W,Nat.reduceAdd]
  refine DG (bC:=[[.sc],[.sc]]) (ys:=[.fz (Fx.map Fh),.fz (Gl.map (AV.int .i64))]) h rfl (Ds (Dp hS 0 rfl Hm (fun _=>rfl)) (Ds (Dp hS 1 rfl J5 (fun _=>rfl)) Dr)) fun Gu L9 h=>⟨.aA [.int .i64 Gu.1,.bool Gu.2],QR L9 (ap.nil _) fun H hS=>Dy rfl (Du rfl (Du rfl (Dt rfl))),⟨rfl,rfl,fun _=>rfl⟩,?_⟩;obtain ⟨Ge,He⟩:=Gu;try dsimp only at h
  try simp only [W]
  refine BJ Fy ?_;refine BC fun Hy FY=> ?_;refine B1 gC ?_;try simp only [W,Nat.reduceAdd,Nat.reduceBEq,List.contains_cons,Nat.reduceBEq,Bool.or_self]
  refine DH (bC:=[[.sl [.sc]],[.sc]]) (ys:=[.fz (Fx.map Fh)]) h rfl (Ds (Dp hS 0 rfl Hm (fun _=>rfl)) Dr) fun G3 N8 h=>⟨.aA [.own 1 (G3.1.map (AV.int .i64)),.bool G3.2],RE N8 (ap.nil _) fun JU KT H hS=>Dy rfl (Dw 0 hS rfl KT (fun _ _=>by simp [aR,aO,dD]) fun H hS=>Du rfl (Dt rfl)),(DN (DL (DJ _ (fun _=>rfl) _) (DL rfl DK))),?_⟩
  refine DF ?_;refine DB hS (fun _ _=>rfl) (fun _=>rfl) fun GK H Kb hS=> ?_;refine DA (fun _=>rfl) ?_;refine Dz ?_;try simp only [List.headD_cons]
  obtain ⟨Gf,FU⟩:=G3;try dsimp only at h
  try simp only [W]
  refine BJ FY ?_;refine BC fun LY Iy=> ?_;refine B1 gC ?_;try simp only [W,Nat.reduceAdd,Nat.reduceBEq,List.contains_cons,Nat.reduceBEq,Bool.or_self]
  refine DH (bC:=[[.sl [.sc]],[.sc]]) (ys:=[.fz (Fx.map Fh)]) h rfl (Ds (Dp hS 1 rfl Hm (fun _=>rfl)) Dr) fun Le Lf h=>⟨.aA [.own 1 (Le.1.map (AV.int .i64)),.bool Le.2],RU Lf (ap.nil _) fun Hv JW H hS=>Dy rfl (Dw 0 hS rfl JW (fun _ _=>by simp [aR,aO,dD]) fun H hS=>Du rfl (Dt rfl)),(DN (DL (DJ _ (fun _=>rfl) _) (DL rfl DK))),?_⟩
  refine DF ?_;refine DB hS (fun _ _=>rfl) (fun _=>rfl) fun Ld H RY hS=> ?_;refine DA (fun _=>rfl) ?_;refine Dz ?_;try simp only [List.headD_cons]
  obtain ⟨IY,M3⟩:=Le;try dsimp only at h
  try simp only [W]
  refine BJ Iy ?_;refine BC fun Lb GV=> ?_;refine BC fun L6 HQ=> ?_;obtain ⟨RZ,h,R0⟩:=Option.bind_eq_some_iff.1 h;refine Cz gC (fun s H=> ∃Gr:Bool,RZ=(Gr)∧s=(u:: .fz (a1.map (AV.int .u8))::u::u::u::Gw::u:: .int .i64 Ht:: .bool G5::u::u::GK:: .bool FU::u::u::u::u::u::u::u::u::u::u::u::u::u::u::u::u::u::u::u::u::u::u::u::u::u::u::u::u::u::u::u::u::u::u::u::u::u::u::u::u::u::u::u::u::u::u::u::u::u::u::u::u::u::u::u::u::u::u::u::u::u::u::u::u::u:: .bool Gr::u::u::u::u::u::u::u::u::u::u::u::u::u::u::u::u::u::u::u::u::u::u::u::u::u::u::u::u::u::u::u::u::u::u::u::u::u::u::u::u::u::u::u::u::u::u::u::u::u::u::u::u::u::u::u::u::u::u::u::u::u::u::u::u::u::u::u::u::u::u::u::u::u::u::u::u::u::u::u::u::u::u::u::u::u::u::u::u::u::u::u::u::u::u::u::[])∧ap H (⟨Gw,2,Fx.map Fh⟩::⟨GK,1,Gf.map (AV.int .i64)⟩::F)) (fun LI G8=> ?_) (fun s H hq=> ?_)
  ·refine BC fun Re I9=> ?_;refine B1 gC ?_;try simp only [W,Fe,Nat.reduceAdd]
   rw [Ce _ _ _ _ (h:=rfl) rfl,tg];try simp only [W]
   refine C8 h (fun hc h=> ?_) (fun hc h=> ?_)
   ·try simp only [W,hc]
    refine BJ I9 ?_;refine EB (s' :=(u:: .fz (a1.map (AV.int .u8))::u::u::u::Gw::u:: .int .i64 Ht:: .bool G5::u::u::GK:: .bool FU::u::u::u::u::u::u::u::u::u::u::u::u::u::u::u::u::u::u::u::u::u::u::u::u::u::u::u::u::u::u::u::u::u::u::u::u::u::u::u::u::u::u::u::u::u::u::u::u::u::u::u::u::u::u::u::u::u::u::u::u::u::u::u::u::u:: .bool true::u::u::u::u::u::u::u::u::u::u::u::u::u::u::u::u::u::u::u::u::u::u::u::u::u::u::u::u::u::u::u::u::u::u::u::u::u::u::u::u::u::u::u::u::u::u::u::u::u::u::u::u::u::u::u::u::u::u::u::u::u::u::u::u::u::u::u::u::u::u::u::u::u::u::u::u::u::u::u::u::u::u::u::u::u::u::u::u::u::u::u::u::u::u::u::[])) rfl ?_
    exact CA G8 ⟨_,(Option.some.inj h).symm,rfl,(hS.C2 4 [2,1] (by decide))⟩
   ·try simp only [W,Fe,reduceIte,Bool.false_eq_true,hc]
    refine C8 h (fun hc h=> ?_) (fun hc h=> ?_)
    ·try simp only [W,hc]
     refine BJ I9 ?_;refine EB (s' :=(u:: .fz (a1.map (AV.int .u8))::u::u::u::Gw::u:: .int .i64 Ht:: .bool G5::u::u::GK:: .bool FU::u::u::u::u::u::u::u::u::u::u::u::u::u::u::u::u::u::u::u::u::u::u::u::u::u::u::u::u::u::u::u::u::u::u::u::u::u::u::u::u::u::u::u::u::u::u::u::u::u::u::u::u::u::u::u::u::u::u::u::u::u::u::u::u::u:: .bool true::u::u::u::u::u::u::u::u::u::u::u::u::u::u::u::u::u::u::u::u::u::u::u::u::u::u::u::u::u::u::u::u::u::u::u::u::u::u::u::u::u::u::u::u::u::u::u::u::u::u::u::u::u::u::u::u::u::u::u::u::u::u::u::u::u::u::u::u::u::u::u::u::u::u::u::u::u::u::u::u::u::u::u::u::u::u::u::u::u::u::u::u::u::u::u::[])) rfl ?_
     exact CA G8 ⟨_,(Option.some.inj h).symm,rfl,(hS.C2 4 [2,1] (by decide))⟩
    ·try simp only [W,Fe,hc]
     rw [Ce _ _ _ _ (h:=rfl) rfl,tg];try simp only [W,reduceIte,Bool.false_eq_true]
     refine C8 h (fun hc h=> ?_) (fun hc h=> ?_)
     ·try simp only [W,hc]
      refine BJ I9 ?_;refine EB (s' :=(u:: .fz (a1.map (AV.int .u8))::u::u::u::Gw::u:: .int .i64 Ht:: .bool G5::u::u::GK:: .bool FU::u::u::u::u::u::u::u::u::u::u::u::u::u::u::u::u::u::u::u::u::u::u::u::u::u::u::u::u::u::u::u::u::u::u::u::u::u::u::u::u::u::u::u::u::u::u::u::u::u::u::u::u::u::u::u::u::u::u::u::u::u::u::u::u::u:: .bool true::u::u::u::u::u::u::u::u::u::u::u::u::u::u::u::u::u::u::u::u::u::u::u::u::u::u::u::u::u::u::u::u::u::u::u::u::u::u::u::u::u::u::u::u::u::u::u::u::u::u::u::u::u::u::u::u::u::u::u::u::u::u::u::u::u::u::u::u::u::u::u::u::u::u::u::u::u::u::u::u::u::u::u::u::u::u::u::u::u::u::u::u::u::u::u::[])) rfl ?_
      exact CA G8 ⟨_,(Option.some.inj h).symm,rfl,(hS.C2 4 [2,1] (by decide))⟩
     ·try simp only [W,hc]
      refine DG (bC:=[[.sc]]) (ys:=[.fz (Gf.map (AV.int .i64)),.fz (IY.map (AV.int .i64))]) h rfl (Ds (Dp hS 1 rfl Kb (fun _=>rfl)) (Ds (Dp hS 0 rfl RY (fun _=>rfl)) Dr)) fun KN R1 h=>⟨.bool KN,N7 R1 (ap.nil _) fun H hS=>Dy rfl (Du rfl (Dt rfl)),⟨rfl,rfl,fun _=>rfl⟩,?_⟩;try simp only [W,reduceIte,Bool.false_eq_true]
      refine BJ I9 ?_;refine EB (s' :=(u:: .fz (a1.map (AV.int .u8))::u::u::u::Gw::u:: .int .i64 Ht:: .bool G5::u::u::GK:: .bool FU::u::u::u::u::u::u::u::u::u::u::u::u::u::u::u::u::u::u::u::u::u::u::u::u::u::u::u::u::u::u::u::u::u::u::u::u::u::u::u::u::u::u::u::u::u::u::u::u::u::u::u::u::u::u::u::u::u::u::u::u::u::u::u::u::u:: .bool (!KN)::u::u::u::u::u::u::u::u::u::u::u::u::u::u::u::u::u::u::u::u::u::u::u::u::u::u::u::u::u::u::u::u::u::u::u::u::u::u::u::u::u::u::u::u::u::u::u::u::u::u::u::u::u::u::u::u::u::u::u::u::u::u::u::u::u::u::u::u::u::u::u::u::u::u::u::u::u::u::u::u::u::u::u::u::u::u::u::u::u::u::u::u::u::u::u::[])) rfl ?_
      exact CA G8 ⟨_,(Option.some.inj h).symm,rfl,(hS.C2 4 [2,1] (by decide))⟩
  ·obtain ⟨Gr,Fp,rfl,hS⟩:=hq;obtain rfl:=Fp.symm;replace h:=R0;try dsimp only at h
   refine BJ HQ ?_;refine BH ?_;simp only [W];refine B0 h (fun hc h=> ?_) (fun hc h=> ?_)
   ·refine BC fun N1 J6=> ?_;refine B1 gC ?_;try simp only [W,Nat.reduceAdd]
    refine BJ J6 ?_;refine BF ?_;refine BK GV ?_;refine BU Ff rfl ?_;try obtain rfl:=Option.some.inj h
    exact hP _ (hS.C2 2 [] (by decide))
   ·refine BE ?_;refine BJ GV ?_;refine BC fun LJ G9=> ?_;refine BC fun KU Hk=> ?_;refine B1 gC ?_;try simp only [W,Nat.reduceAdd]
    refine BJ Hk ?_;obtain ⟨R2,h,Mo⟩:=Option.bind_eq_some_iff.1 h;refine Cz gC (fun s H=>R2=LR.next ()∧s=(u:: .fz (a1.map (AV.int .u8))::u::u::u::u::u::u::u::u::u::u::u::u::u::u::u::u::u::u::u::u::u::u::u::u::u::u::u::u::u::u::u::u::u::u::u::u::u::u::u::u::u::u::u::u::u::u::u::u::u::u::u::u::u::u::u::u::u::u::u::u::u::u::u::u::u::u::u::u::u::u::u::u::u::u::u::u::u::u::u::u::u::u::u::u::u::u::u::u::u::u::u::u::u::u::u::u::u::u::u::u::u::u::u::u::u::u::u::u::u::u::u::u::u::u::u::u::u::u::u::u::u::u::u::u::u::u::u::u::u::u::u::u::u::u::u::u::u::u::u::u::u::u::u::u::u::u::u::u::u::u::u::u::u::u::u::u::u::u::u::u::u::u::u::u::u::u::u::u::u::u::u::u::[])∧ap H (F)) (fun PK Iv=> ?_) (fun s H hq=> ?_)
    ·refine BC fun N5 HB=> ?_;refine BH ?_;simp only [W];refine B0 h (fun hc h=> ?_) (fun hc h=> ?_)
     ·refine BC fun Rv Mk=> ?_;refine B1 gC ?_;try simp only [W,Nat.reduceAdd]
      refine DG (bC:=[[.sc],[.sc]]) (ys:=[.fz (Fx.map Fh),.fz (Gf.map (AV.int .i64))]) h rfl (Ds (Dp hS 0 rfl Hm (fun _=>rfl)) (Ds (Dp hS 1 rfl Kb (fun _=>rfl)) Dr)) fun JV LM h=>⟨.aA [.int .i64 JV.1,.bool JV.2],NR LM (ap.nil _) fun H hS=>Dy rfl (Du rfl (Du rfl (Dt rfl))),⟨rfl,rfl,fun _=>rfl⟩,?_⟩;obtain ⟨H4,H7⟩:=JV;try dsimp only at h
      try simp only [W]
      refine BJ Mk ?_;refine BC fun Wy N9=> ?_;refine BC fun Rw Ml=> ?_;obtain ⟨R3,h,R4⟩:=Option.bind_eq_some_iff.1 h;refine Cz gC (fun s H=> ∃GL:Bool,R3=(GL)∧s=(u:: .fz (a1.map (AV.int .u8))::u::u::u::Gw::u::u::u::u::u::GK::u::u::u::u::u::u::u::u::u::u::u::u::u::u::u::u::u::u::u::u::u::u::u::u::u::u::u::u::u::u::u::u::u::u::u::u::u::u::u::u::u::u::u::u::u::u::u::u::u::u::u::u::u::u::u::u::u::u::u::u::u::u::u::u::u::u::u::u::u::u::u::u::u::u::u::u::u::u::u::u::u::u::u:: .bool GL::u::u::u::u::u::u::u::u::u::u::u::u::u::u::u::u::u::u::u::u::u::u::u::u::u::u::u::u::u::u::u::u::u::u::u::u::u::u::u::u::u::u::u::u::u::u::u::u::u::u::u::u::u::u::u::u::u::u::u::u::u::u::u::u::u::u::u::u::u::u::u::u::u::u::u::u::u::u::[])∧ap H (⟨Gw,2,Fx.map Fh⟩::⟨GK,1,Gf.map (AV.int .i64)⟩::F)) (fun Nz Iw=> ?_) (fun s H hq=> ?_)
      ·refine BC fun NA Ix=> ?_;refine B1 gC ?_;try simp only [W,Nat.reduceAdd]
       refine C8 h (fun hc h=> ?_) (fun hc h=> ?_)
       ·try simp only [W,hc]
        refine BJ Ix ?_;refine EB (s' :=(u:: .fz (a1.map (AV.int .u8))::u::u::u::Gw::u::u::u::u::u::GK::u::u::u::u::u::u::u::u::u::u::u::u::u::u::u::u::u::u::u::u::u::u::u::u::u::u::u::u::u::u::u::u::u::u::u::u::u::u::u::u::u::u::u::u::u::u::u::u::u::u::u::u::u::u::u::u::u::u::u::u::u::u::u::u::u::u::u::u::u::u::u::u::u::u::u::u::u::u::u::u::u::u::u:: .bool true::u::u::u::u::u::u::u::u::u::u::u::u::u::u::u::u::u::u::u::u::u::u::u::u::u::u::u::u::u::u::u::u::u::u::u::u::u::u::u::u::u::u::u::u::u::u::u::u::u::u::u::u::u::u::u::u::u::u::u::u::u::u::u::u::u::u::u::u::u::u::u::u::u::u::u::u::u::u::[])) rfl ?_
        exact CA Iw ⟨_,(Option.some.inj h).symm,rfl,hS⟩
       ·try simp only [W,hc]
        refine C8 h (fun hc h=> ?_) (fun hc h=> ?_)
        ·try simp only [W,Fe,reduceIte,Bool.false_eq_true,hc]
         refine BJ Ix ?_;refine EB (s' :=(u:: .fz (a1.map (AV.int .u8))::u::u::u::Gw::u::u::u::u::u::GK::u::u::u::u::u::u::u::u::u::u::u::u::u::u::u::u::u::u::u::u::u::u::u::u::u::u::u::u::u::u::u::u::u::u::u::u::u::u::u::u::u::u::u::u::u::u::u::u::u::u::u::u::u::u::u::u::u::u::u::u::u::u::u::u::u::u::u::u::u::u::u::u::u::u::u::u::u::u::u::u::u::u::u:: .bool (decide (Ht<H4))::u::u::u::u::u::u::u::u::u::u::u::u::u::u::u::u::u::u::u::u::u::u::u::u::u::u::u::u::u::u::u::u::u::u::u::u::u::u::u::u::u::u::u::u::u::u::u::u::u::u::u::u::u::u::u::u::u::u::u::u::u::u::u::u::u::u::u::u::u::u::u::u::u::u::u::u::u::u::[])) rfl ?_
         exact CA Iw ⟨_,(Option.some.inj h).symm,rfl,hS⟩
        ·try simp only [W,reduceIte,Bool.false_eq_true,hc]
         refine BJ Ix ?_;refine EB (s' :=(u:: .fz (a1.map (AV.int .u8))::u::u::u::Gw::u::u::u::u::u::GK::u::u::u::u::u::u::u::u::u::u::u::u::u::u::u::u::u::u::u::u::u::u::u::u::u::u::u::u::u::u::u::u::u::u::u::u::u::u::u::u::u::u::u::u::u::u::u::u::u::u::u::u::u::u::u::u::u::u::u::u::u::u::u::u::u::u::u::u::u::u::u::u::u::u::u::u::u::u::u::u::u::u::u:: .bool false::u::u::u::u::u::u::u::u::u::u::u::u::u::u::u::u::u::u::u::u::u::u::u::u::u::u::u::u::u::u::u::u::u::u::u::u::u::u::u::u::u::u::u::u::u::u::u::u::u::u::u::u::u::u::u::u::u::u::u::u::u::u::u::u::u::u::u::u::u::u::u::u::u::u::u::u::u::u::[])) rfl ?_
         exact CA Iw ⟨_,(Option.some.inj h).symm,rfl,hS⟩
      ·obtain ⟨GL,Fp,rfl,hS⟩:=hq;obtain rfl:=Fp.symm;replace h:=R4;try dsimp only at h
       refine BJ Ml ?_;refine BH ?_;simp only [W];refine B0 h (fun hc h=> ?_) (fun hc h=> ?_)
       ·refine BC fun LO Ir=> ?_;refine B1 gC ?_;try simp only [W,Nat.reduceAdd]
        refine BJ Ir ?_;refine BF ?_;refine BK N9 ?_;refine BK HB ?_;try obtain rfl:=Option.some.inj h
        obtain rfl:=Option.some.inj Mo;have h:(some false:Option (Bool))=some false:=rfl;refine CC Iv ?_;refine BK G9 ?_;refine BU Ff rfl ?_;try obtain rfl:=Option.some.inj h
        exact hP _ (hS.C2 2 [] (by decide))
       ·refine BE ?_;refine BJ N9 ?_;refine BC fun Wz R5=> ?_;refine B1 gC ?_;try simp only [W,Nat.reduceAdd]
        refine BJ R5 ?_;obtain ⟨R6,R7,N_⟩:=Option.bind_eq_some_iff.1 h;refine Cz gC (fun s H=>R6=LR.next ()∧s=(u:: .fz (a1.map (AV.int .u8))::u::u::u::u::u::u::u::u::u::u::u::u::u::u::u::u::u::u::u::u::u::u::u::u::u::u::u::u::u::u::u::u::u::u::u::u::u::u::u::u::u::u::u::u::u::u::u::u::u::u::u::u::u::u::u::u::u::u::u::u::u::u::u::u::u::u::u::u::u::u::u::u::u::u::u::u::u::u::u::u::u::u::u::u::u::u::u::u::u::u::u::u::u::u::u::u::u::u::u::u::u::u::u::u::u::u::u::u::u::u::u::u::u::u::u::u::u::u::u::u::u::u::u::u::u::u::u::u::u::u::u::u::u::u::u::u::u::u::u::u::u::u::u::u::u::u::u::u::u::u::u::u::u::u::u::u::u::u::u::u::u::u::u::u::u::u::u::u::u::u::u::u::[])∧ap H (F)) (fun WA Oa=> ?_) (fun s H hq=> ?_)
        ·refine BD fun Nt Is=> ?_;refine Cv gC R7 (fun x s H=>s=(u:: .fz (a1.map (AV.int .u8))::u::u::u::Gw::u::u::u::u::u::GK::u::u::u::u::u:: .int .i64 x::u::u::u::u::u::u::u::u::u::u::u::u::u::u::u::u::u::u::u::u::u::u::u::u::u::u::u::u::u::u::u::u::u::u::u::u::u::u::u::u::u::u::u::u::u::u::u::u::u::u::u::u::u::u::u::u::u::u::u::u::u::u::u::u::u::u::u::u::u::u::u::u::u::u::u::u::u::u::u::u::u::u::u::u::u::u::u::u::u::u::u::u::u::u::u::u::u::u::u::u::u::u::u::u::u::u::u::u::u::u::u::u::u::u::u::u::u::u::u::u::u::u::u::u::u::u::u::u::u::u::u::u::u::u::u::u::u::u::u::u::u::u::u::u::u::u::u::u::u::u::u::u::u::u::u::u::[])∧ap H (⟨Gw,2,Fx.map Fh⟩::⟨GK,1,Gf.map (AV.int .i64)⟩::F)) ⟨rfl,hS⟩ (fun Gk WB s H h Ob hi Pn I6=> ?_)
         skip
         try dsimp only at hi
         obtain ⟨rfl,hS⟩:=hi;simp only [KM] at h;refine BC fun WC Oc=> ?_;refine BC fun WD R8=> ?_;refine B1 gC ?_;try simp only [W,Fe,Nat.reduceAdd]
         refine uE 1 hS rfl Kb rfl ?_;try simp only [W,Fe]
         refine BJ R8 ?_;refine BH ?_;simp only [W];refine B0 h (fun hc h=> ?_) (fun hc h=> ?_)
         ·refine BE ?_;refine BJ Oc ?_;refine BC fun WE Od=> ?_;refine BD fun WG Oe=> ?_;refine BC fun WH R9=> ?_;refine B3 gC (by kernel_rfl) ?_
          try simp only [W,Fe,Nat.reduceAdd]
          refine Cp 1 hS rfl rfl rfl rfl rfl h (fun MZ WI WJ WK R_ h Sa=> ?_) Kb.ne;obtain ⟨WL,Sb,Sc⟩:=hS.elem 1 rfl Sa R_;try simp only [W,Fe,Sb,Sc]
          refine Cp 0 hS rfl rfl rfl rfl rfl h (fun M0 WM WN WO Sd h Se=> ?_) Hm.ne;obtain ⟨WQ,Sf,Sg⟩:=hS.elem 0 rfl Se Sd;try simp only [W,Fe,F5,Nat.reduceAdd,Nat.reduceBEq,Sf,Sg]
          refine Cp 1 hS rfl rfl rfl rfl rfl h (fun M1 WR WS WT Si h Sj=> ?_) Kb.ne;obtain ⟨WU,Sk,Sl⟩:=hS.elem 1 rfl Sj Si;try simp only [W,Fe,Sk,Sl]
          refine Cp 0 hS rfl rfl rfl rfl rfl h (fun H8 WV WW WX Sm h Sn=> ?_) Hm.ne;obtain ⟨WY,So,Sp⟩:=hS.elem 0 rfl Sn Sm;try simp only [W,Fe,F5,Nat.reduceAdd,Nat.reduceBEq,So,Sp]
          refine BJ R9 ?_;refine BH ?_;simp only [W];refine B0 h (fun hc h=> ?_) (fun hc h=> ?_)
          ·refine BC fun WZ Sq=> ?_;refine B1 gC ?_;try simp only [W,Nat.reduceAdd]
           refine BJ Sq ?_;refine BF ?_;refine BR Oe ?_;refine BK Od ?_;try obtain rfl:=Option.some.inj h
           obtain rfl:=Ob _ rfl;have h:(some (LR.done (LR.done false)):Option (LR Unit (LR Unit (Bool))))=some (LR.done (LR.done false)):=rfl;refine Cy I6 ?_;refine BR Is ?_;try obtain rfl:=Option.some.inj h
           obtain rfl:=Option.some.inj N_;have h:(some (LR.done false):Option (LR Unit (Bool)))=some (LR.done false):=rfl;refine CC Oa ?_;refine BK HB ?_;try obtain rfl:=Option.some.inj h
           obtain rfl:=Option.some.inj Mo;have h:(some false:Option (Bool))=some false:=rfl;refine CC Iv ?_;refine BK G9 ?_;refine BU Ff rfl ?_;try obtain rfl:=Option.some.inj h
           exact hP _ (hS.C2 2 [] (by decide))
          ·refine BE ?_;refine BN Oe ?_;refine BJ Od ?_;refine B1 gC ?_;try simp only [W,Fe,Nat.reduceAdd]
           exact Cw I6 h ⟨rfl,hS⟩
         ·refine BG ?_;refine BL Oc ?_;try obtain rfl:=Option.some.inj h
          obtain rfl:=Ob _ rfl;have h:(some (LR.next ()):Option (LR Unit (LR Unit (Bool))))=some (LR.next ()):=rfl
          refine Cx I6 ?_;refine BP Is ?_;exact CA Oa ⟨(Option.some.inj h).symm,rfl,(hS.C2 2 [] (by decide))⟩
        ·obtain ⟨rfl,rfl,hS⟩:=hq;replace h:=N_;try dsimp only at h
         refine BJ HB ?_;refine EB (s' :=(u:: .fz (a1.map (AV.int .u8))::u::u::u::u::u::u::u::u::u::u::u::u::u::u::u::u::u::u::u::u::u::u::u::u::u::u::u::u::u::u::u::u::u::u::u::u::u::u::u::u::u::u::u::u::u::u::u::u::u::u::u::u::u::u::u::u::u::u::u::u::u::u::u::u::u::u::u::u::u::u::u::u::u::u::u::u::u::u::u::u::u::u::u::u::u::u::u::u::u::u::u::u::u::u::u::u::u::u::u::u::u::u::u::u::u::u::u::u::u::u::u::u::u::u::u::u::u::u::u::u::u::u::u::u::u::u::u::u::u::u::u::u::u::u::u::u::u::u::u::u::u::u::u::u::u::u::u::u::u::u::u::u::u::u::u::u::u::u::u::u::u::u::u::u::u::u::u::u::u::u::u::u::[])) rfl ?_
         exact CA Iv ⟨(Option.some.inj h).symm,rfl,hS⟩
     ·refine BE ?_;refine BJ HB ?_;refine EB (s' :=(u:: .fz (a1.map (AV.int .u8))::u::u::u::u::u::u::u::u::u::u::u::u::u::u::u::u::u::u::u::u::u::u::u::u::u::u::u::u::u::u::u::u::u::u::u::u::u::u::u::u::u::u::u::u::u::u::u::u::u::u::u::u::u::u::u::u::u::u::u::u::u::u::u::u::u::u::u::u::u::u::u::u::u::u::u::u::u::u::u::u::u::u::u::u::u::u::u::u::u::u::u::u::u::u::u::u::u::u::u::u::u::u::u::u::u::u::u::u::u::u::u::u::u::u::u::u::u::u::u::u::u::u::u::u::u::u::u::u::u::u::u::u::u::u::u::u::u::u::u::u::u::u::u::u::u::u::u::u::u::u::u::u::u::u::u::u::u::u::u::u::u::u::u::u::u::u::u::u::u::u::u::u::[])) rfl ?_
      exact CA Iv ⟨(Option.some.inj h).symm,rfl,(hS.C2 2 [] (by decide))⟩
    ·obtain ⟨rfl,rfl,hS⟩:=hq;replace h:=Mo;try dsimp only at h
     refine BJ G9 ?_;refine BC fun W0 Sr=> ?_;refine B1 gC ?_;try simp only [W,Nat.reduceAdd]
     refine Cu h fun Ss Su h=> ?_;obtain ⟨GA,GB⟩:=Ss;try dsimp only at h
     refine RV Su hS fun Hq Li GX Kc H hS=> ?_;try simp only [W]
     refine BJ Sr ?_;refine BC fun W1 Sv=> ?_;refine B1 gC ?_;try simp only [W,Nat.reduceAdd,Nat.reduceBEq,List.contains_cons,Nat.reduceBEq,Bool.or_self]
     refine DH (bC:=[[.sl [.sc]],[.sc]]) (ys:=[.fz (GA.map Fh),.fz (GB.map (AV.int .i64))]) h rfl (Ds (Dp hS 0 rfl Li (fun _=>rfl)) (Ds (Dp hS 1 rfl Kc (fun _=>rfl)) Dr)) fun KZ K_ h=>⟨.aA [.own 1 (KZ.1.map (AV.int .i64)),.bool KZ.2],NQ K_ (ap.nil _) fun KW Sw H hS=>Dy rfl (Dw 0 hS rfl Sw (fun _ _=>by simp [aR,aO,dD]) fun H hS=>Du rfl (Dt rfl)),(DN (DL (DJ _ (fun _=>rfl) _) (DL rfl DK))),?_⟩
     refine DF ?_;refine DB hS (fun _ _=>rfl) (fun _=>rfl) fun GY H Og hS=> ?_;refine DA (fun _=>rfl) ?_;refine Dz ?_;try simp only [List.headD_cons]
     obtain ⟨G6,Hu⟩:=KZ;try dsimp only at h
     try simp only [W]
     refine BJ Sv ?_;refine BC fun W2 Sx=> ?_;refine B1 gC ?_;try simp only [W,Nat.reduceAdd,Nat.reduceBEq,List.contains_cons,Nat.reduceBEq,Bool.or_self]
     refine DH (bC:=[[.sl [.sc]],[.sc]]) (ys:=[.fz (GA.map Fh),.fz (GB.map (AV.int .i64))]) h rfl (Ds (Dp hS 1 rfl Li (fun _=>rfl)) (Ds (Dp hS 2 rfl Kc (fun _=>rfl)) Dr)) fun Mp Sy h=>⟨.aA [.own 1 (Mp.1.map (AV.int .i64)),.bool Mp.2],RW Sy (ap.nil _) fun W3 Sz H hS=>Dy rfl (Dw 0 hS rfl Sz (fun _ _=>by simp [aR,aO,dD]) fun H hS=>Du rfl (Dt rfl)),(DN (DL (DJ _ (fun _=>rfl) _) (DL rfl DK))),?_⟩
     refine DF ?_;refine DB hS (fun _ _=>rfl) (fun _=>rfl) fun W4 H SA hS=> ?_;refine DA (fun _=>rfl) ?_;refine Dz ?_;try simp only [List.headD_cons]
     obtain ⟨JQ,KO⟩:=Mp;try dsimp only at h
     try simp only [W]
     refine BJ Sx ?_;refine BC fun W5 Oh=> ?_;refine BC fun W6 SB=> ?_;obtain ⟨SC,h,SD⟩:=Option.bind_eq_some_iff.1 h;refine Cz gC (fun s H=> ∃Il:Bool,SC=(Il)∧s=(u::u::u::u::u::u::u::u::u::u::u::u::u::u::u::u::u::u::Hq::GX::GY:: .bool Hu::u::u::u::u::u::u::u::u::u::u::u::u::u::u::u::u::u::u::u::u::u::u::u::u::u::u::u::u::u::u::u::u::u::u::u::u::u::u::u::u::u::u::u::u::u::u::u::u::u::u::u::u::u::u::u::u::u::u::u::u::u::u::u::u::u::u::u::u::u::u::u::u::u::u::u::u::u::u::u::u::u::u::u::u::u::u::u::u::u::u::u::u::u::u::u::u::u::u::u::u::u::u::u::u::u::u::u::u::u::u::u::u::u::u::u::u::u::u::u::u::u::u::u:: .bool Il::u::u::u::u::u::u::u::u::u::u::u::u::u::u::u::u::u::u::u::u::u::u::u::u::u::u::u::u::[])∧ap H (⟨Hq,2,GA.map Fh⟩::⟨GX,1,GB.map (AV.int .i64)⟩::⟨GY,1,G6.map (AV.int .i64)⟩::F)) (fun W7 Oi=> ?_) (fun s H hq=> ?_)
     ·refine BC fun W8 Oj=> ?_;refine B1 gC ?_;try simp only [W,Fe,Nat.reduceAdd]
      rw [Ce _ _ _ _ (h:=rfl) rfl,tg];try simp only [W]
      refine C8 h (fun hc h=> ?_) (fun hc h=> ?_)
      ·try simp only [W,hc]
       refine BJ Oj ?_;refine EB (s' :=(u::u::u::u::u::u::u::u::u::u::u::u::u::u::u::u::u::u::Hq::GX::GY:: .bool Hu::u::u::u::u::u::u::u::u::u::u::u::u::u::u::u::u::u::u::u::u::u::u::u::u::u::u::u::u::u::u::u::u::u::u::u::u::u::u::u::u::u::u::u::u::u::u::u::u::u::u::u::u::u::u::u::u::u::u::u::u::u::u::u::u::u::u::u::u::u::u::u::u::u::u::u::u::u::u::u::u::u::u::u::u::u::u::u::u::u::u::u::u::u::u::u::u::u::u::u::u::u::u::u::u::u::u::u::u::u::u::u::u::u::u::u::u::u::u::u::u::u::u::u:: .bool true::u::u::u::u::u::u::u::u::u::u::u::u::u::u::u::u::u::u::u::u::u::u::u::u::u::u::u::u::[])) rfl ?_
       exact CA Oi ⟨_,(Option.some.inj h).symm,rfl,(hS.C2 4 [2,3,1] (by decide))⟩
      ·try simp only [W,hc]
       refine DG (bC:=[[.sc]]) (ys:=[.fz (G6.map (AV.int .i64)),.fz (JQ.map (AV.int .i64))]) h rfl (Ds (Dp hS 1 rfl Og (fun _=>rfl)) (Ds (Dp hS 0 rfl SA (fun _=>rfl)) Dr)) fun I2 SE h=>⟨.bool I2,N7 SE (ap.nil _) fun H hS=>Dy rfl (Du rfl (Dt rfl)),⟨rfl,rfl,fun _=>rfl⟩,?_⟩;try simp only [W,reduceIte,Bool.false_eq_true]
       refine BJ Oj ?_;refine EB (s' :=(u::u::u::u::u::u::u::u::u::u::u::u::u::u::u::u::u::u::Hq::GX::GY:: .bool Hu::u::u::u::u::u::u::u::u::u::u::u::u::u::u::u::u::u::u::u::u::u::u::u::u::u::u::u::u::u::u::u::u::u::u::u::u::u::u::u::u::u::u::u::u::u::u::u::u::u::u::u::u::u::u::u::u::u::u::u::u::u::u::u::u::u::u::u::u::u::u::u::u::u::u::u::u::u::u::u::u::u::u::u::u::u::u::u::u::u::u::u::u::u::u::u::u::u::u::u::u::u::u::u::u::u::u::u::u::u::u::u::u::u::u::u::u::u::u::u::u::u::u::u:: .bool (!I2)::u::u::u::u::u::u::u::u::u::u::u::u::u::u::u::u::u::u::u::u::u::u::u::u::u::u::u::u::[])) rfl ?_
       exact CA Oi ⟨_,(Option.some.inj h).symm,rfl,(hS.C2 4 [2,3,1] (by decide))⟩
     ·obtain ⟨Il,Fp,rfl,hS⟩:=hq;obtain rfl:=Fp.symm;replace h:=SD;try dsimp only at h
      refine BJ SB ?_;refine BH ?_;simp only [W];refine B0 h (fun hc h=> ?_) (fun hc h=> ?_)
      ·refine BC fun W9 SG=> ?_;refine B1 gC ?_;try simp only [W,Nat.reduceAdd]
       refine BJ SG ?_;refine BF ?_;refine BK Oh ?_;refine BU Ff rfl ?_;try obtain rfl:=Option.some.inj h
       exact hP _ (hS.C2 3 [] (by decide))
      ·refine BE ?_;refine BJ Oh ?_;refine BC fun W_ Ok=> ?_;refine BC fun Xa SH=> ?_;obtain ⟨SI,h,SJ⟩:=Option.bind_eq_some_iff.1 h;refine Cz gC (fun s H=> ∃Im:Bool,SI=(Im)∧s=(u::u::u::u::u::u::u::u::u::u::u::u::u::u::u::u::u::u::Hq::GX::GY::u::u::u::u::u::u::u::u::u::u::u::u::u::u::u::u::u::u::u::u::u::u::u::u::u::u::u::u::u::u::u::u::u::u::u::u::u::u::u::u::u::u::u::u::u::u::u::u::u::u::u::u::u::u::u::u::u::u::u::u::u::u::u::u::u::u::u::u::u::u::u::u::u::u::u::u::u::u::u::u::u::u::u::u::u::u::u::u::u::u::u::u::u::u::u::u::u::u::u::u::u::u::u::u::u::u::u::u::u::u::u::u::u::u::u::u::u::u::u::u::u::u::u::u::u::u::u::u::u::u:: .bool Im::u::u::u::u::u::u::u::u::u::u::u::u::u::u::u::u::u::u::u::u::u::u::[])∧ap H (⟨Hq,2,GA.map Fh⟩::⟨GX,1,GB.map (AV.int .i64)⟩::⟨GY,1,G6.map (AV.int .i64)⟩::F)) (fun Xb Ol=> ?_) (fun s H hq=> ?_)
       ·refine BC fun Xc Om=> ?_;refine B1 gC ?_;try simp only [W,Nat.reduceAdd]
        refine C8 h (fun hc h=> ?_) (fun hc h=> ?_)
        ·try simp only [W,Fe,hc]
         refine uE 1 hS rfl Kc rfl ?_;try simp only [W,Fe,reduceIte]
         refine BJ Om ?_;refine EB (s' :=(u::u::u::u::u::u::u::u::u::u::u::u::u::u::u::u::u::u::Hq::GX::GY::u::u::u::u::u::u::u::u::u::u::u::u::u::u::u::u::u::u::u::u::u::u::u::u::u::u::u::u::u::u::u::u::u::u::u::u::u::u::u::u::u::u::u::u::u::u::u::u::u::u::u::u::u::u::u::u::u::u::u::u::u::u::u::u::u::u::u::u::u::u::u::u::u::u::u::u::u::u::u::u::u::u::u::u::u::u::u::u::u::u::u::u::u::u::u::u::u::u::u::u::u::u::u::u::u::u::u::u::u::u::u::u::u::u::u::u::u::u::u::u::u::u::u::u::u::u::u::u::u::u:: .bool (decide (0<(GB.length:Int)))::u::u::u::u::u::u::u::u::u::u::u::u::u::u::u::u::u::u::u::u::u::u::[])) rfl ?_
         exact CA Ol ⟨_,(Option.some.inj h).symm,rfl,hS⟩
        ·try simp only [W,hc]
         refine BJ Om ?_;refine EB (s' :=(u::u::u::u::u::u::u::u::u::u::u::u::u::u::u::u::u::u::Hq::GX::GY::u::u::u::u::u::u::u::u::u::u::u::u::u::u::u::u::u::u::u::u::u::u::u::u::u::u::u::u::u::u::u::u::u::u::u::u::u::u::u::u::u::u::u::u::u::u::u::u::u::u::u::u::u::u::u::u::u::u::u::u::u::u::u::u::u::u::u::u::u::u::u::u::u::u::u::u::u::u::u::u::u::u::u::u::u::u::u::u::u::u::u::u::u::u::u::u::u::u::u::u::u::u::u::u::u::u::u::u::u::u::u::u::u::u::u::u::u::u::u::u::u::u::u::u::u::u::u::u::u::u:: .bool false::u::u::u::u::u::u::u::u::u::u::u::u::u::u::u::u::u::u::u::u::u::u::[])) rfl ?_
         exact CA Ol ⟨_,(Option.some.inj h).symm,rfl,hS⟩
       ·obtain ⟨Im,Fp,rfl,hS⟩:=hq;obtain rfl:=Fp.symm;replace h:=SJ;try dsimp only at h
        refine BJ SH ?_;refine BH ?_;simp only [W];refine B0 h (fun hc h=> ?_) (fun hc h=> ?_)
        ·refine BC fun Xd SK=> ?_;refine B1 gC ?_;try simp only [W,Nat.reduceAdd]
         refine BJ SK ?_;refine BC fun Xe SL=> ?_;refine BC fun Xf SM=> ?_;refine B1 gC ?_;try simp only [W,Fe,Nat.reduceAdd]
         refine uE 0 hS rfl Li rfl ?_;try simp only [W]
         refine BJ SM ?_;obtain ⟨SN,SO,SP⟩:=Option.bind_eq_some_iff.1 h;refine Cz gC (fun s H=> ∃Io:Int,SN=(Io)∧s=(u::u::u::u::u::u::u::u::u::u::u::u::u::u::u::u::u::u::u::GX::GY::u::u::u:: .int .i64 Io::u::u::u::u::u::u::u::u::u::u::u::u::u::u::u::u::u::u::u::u::u::u::u::u::u::u::u::u::u::u::u::u::u::u::u::u::u::u::u::u::u::u::u::u::u::u::u::u::u::u::u::u::u::u::u::u::u::u::u::u::u::u::u::u::u::u::u::u::u::u::u::u::u::u::u::u::u::u::u::u::u::u::u::u::u::u::u::u::u::u::u::u::u::u::u::u::u::u::u::u::u::u::u::u::u::u::u::u::u::u::u::u::u::u::u::u::u::u::u::u::u::u::u::u::u::u::u::u::u::u::u::u::u::u::u::u::u::u::u::u::u::u::u::u::u::u::u::u::u::[])∧ap H (⟨GX,1,GB.map (AV.int .i64)⟩::⟨GY,1,G6.map (AV.int .i64)⟩::F)) (fun Xg SQ=> ?_) (fun s H hq=> ?_)
         ·refine BD fun Xh SR=> ?_;refine Cv gC SO (fun x s H=>match x with|(Ij,I0)=>s=(u::u::u::u::u::u::u::u::u::u::u::u::u::u::u::u::u::u::u::GX::GY::u::u::u:: .int .i64 Ij::u::u::u::u::u::u::u::u::u::u::u::u::u::u::u::u::u::u::u::u::u::u::u::u::u::u::u::u::u::u::u::u::u::u::u::u::u::u::u::u::u::u::u::u::u::u::u::u::u::u::u::u::u::u::u::u::u::u::u::u::u::u::u::u::u::u::u::u::u::u::u::u::u::u::u::u::u::u::u::u::u::u::u::u::u::u::u::u::u::u::u::u::u::u::u::u::u::u::u::u::u::u::u::u::u::u::u::u::u::u::u::u::u::u::u::u::u::u::u::u::u::u::u::u::u::u::u::Hq:: .int .i64 (GA.length:Int):: .int .i64 I0::u::u::u::u::u::u::u::u::u::u::u::u::u::u::u::u::u::u::u::[])∧ap H (⟨GX,1,GB.map (AV.int .i64)⟩::⟨GY,1,G6.map (AV.int .i64)⟩::⟨Hq,2,GA.map Fh⟩::F)) ⟨rfl,(hS.C2 3 [1,2,0] (by decide))⟩ (fun x Xi s H h SS hi Xj On=> ?_)
          obtain ⟨Ij,I0⟩:=x;try dsimp only at hi
          obtain ⟨rfl,hS⟩:=hi;simp only [JP] at h;refine BC fun Xk SU=> ?_;refine B1 gC ?_;try simp only [W,Fe,Nat.reduceAdd]
          refine BJ SU ?_;refine BC fun Xl Oo=> ?_;refine BH ?_;simp only [W];refine B0 h (fun hc h=> ?_) (fun hc h=> ?_)
          ·refine BE ?_;refine BJ Oo ?_;refine BC fun Xm SV=> ?_;refine BD fun Xn SW=> ?_;refine BC fun Xo SX=> ?_;refine B1 gC ?_;try simp only [W,Fe,Nat.reduceAdd]
           refine Cp 2 hS rfl rfl rfl rfl rfl h (fun I1 Xp Xq Xr SY h SZ=> ?_) Li.ne;obtain ⟨Xs,S0,S1⟩:=hS.elem 2 rfl SZ SY;try simp only [W,Fe,F5,reduceIte,Nat.reduceAdd,Nat.reduceLeDiff,S0,S1]
           refine Ci hS rfl rfl fun Xt Xu H hS=> ?_;try simp only [W]
           refine Cj (a:= .agg [.int .i64 I1.Fv,.int .i64 I1.End]) (y' := .agg [.int .i64 I1.Fv,.int .i64 I1.End]) 0 hS rfl rfl rfl rfl rfl rfl rfl rfl fun H hS=> ?_
           try simp only [W]
           refine BJ SX ?_;refine B1 gC ?_;try simp only [W,Fe,Nat.reduceAdd,Nat.reduceBEq,hS.var 0 rfl]
           refine BN SW ?_;refine BJ SV ?_;refine B1 gC ?_;try simp only [W,Fe,Nat.reduceAdd]
           exact Cw On h ⟨rfl,(hS.C2 4 [1,2,3] (by decide))⟩
          ·refine BG ?_;refine BL Oo ?_;try obtain rfl:=Option.some.inj h
           obtain rfl:=SS _ rfl;have h:(some (Ij):Option (Int))=some (Ij):=rfl;refine Cx On ?_;refine BP SR ?_;exact CA SQ ⟨_,(Option.some.inj h).symm,rfl,(hS.C2 3 [0,1] (by decide))⟩
         ·obtain ⟨Io,Fp,rfl,hS⟩:=hq;obtain rfl:=Fp.symm;replace h:=SP;try dsimp only at h
          refine BJ SL ?_;refine BC fun Xv S2=> ?_;refine B1 gC ?_;try simp only [W,Fe,Nat.reduceAdd]
          refine uE 0 hS rfl Kc rfl ?_;try simp only [W,Fe]
          refine Cp 0 hS rfl rfl rfl rfl rfl h (fun KP Xw Xx Xy S3 h S4=> ?_) Kc.ne;obtain ⟨Xz,S5,S6⟩:=hS.elem 0 rfl S4 S3;try simp only [W,Fe,S5,S6]
          refine Cp 1 hS rfl rfl rfl rfl rfl h (fun KQ XA XB XC S7 h S8=> ?_) Og.ne;obtain ⟨XD,S9,S_⟩:=hS.elem 1 rfl S8 S7;try simp only [W,Fe,S9,S_]
          refine BJ S2 ?_;refine BF ?_;refine BK Ok ?_;refine BU Ff rfl ?_;try obtain rfl:=Option.some.inj h
          exact hP _ (hS.C2 2 [] (by decide))
        ·refine BE ?_;refine BJ Ok ?_;refine BC fun XE Ta=> ?_;refine B1 gC ?_;try simp only [W,Nat.reduceAdd]
         refine BJ Ta ?_;refine BF ?_;refine BU Ff rfl ?_;try obtain rfl:=Option.some.inj h
         exact hP _ (hS.C2 3 [] (by decide))
end Go.Hd
