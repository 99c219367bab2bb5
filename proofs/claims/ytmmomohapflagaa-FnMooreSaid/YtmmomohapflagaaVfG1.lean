import Derived.Test.YtmmomohapflagaaVfF
import Derived.Test.YtmmomohapflagaaProg
import Derived.Test.YtmmomohapflagaaVaE
import Derived.KernelRfl
open Go Go.VS
set_option maxRecDepth 8000
set_option maxHeartbeats 4000000
namespace Go.Hr
def Fg (x:Task):AV:= .agg [.int .i64 x.Fi,.int .i64 x.End]
def Q0 (x:Ft):AV:= .agg [.fz (x.Code.map (AV.int .u8)),.int .i64 x.Fx,.int .u64 x.FG]
def E:aF:=fun t=>match t with
 |3=>some {sz:=1,agg:=false,zero:=[AV.int IntKind.i64 0],bytes:=8,au:=UD.it IntKind.i64,kE:=true}
 |4=>some {sz:=1,agg:=false,zero:=[AV.bool false],bytes:=1,au:=UD.bl,kE:=true}
 |5=>some {sz:=1,agg:=false,zero:=[AV.int IntKind.u8 0],bytes:=1,au:=UD.it IntKind.u8,kE:=true}
 |22=>some {sz:=1,agg:=false,zero:=[AV.nil],bytes:=24,au:=UD.sl 5,kE:=true}
 |23=>some {sz:=1,agg:=false,zero:=[AV.nil],bytes:=24,au:=UD.sl 3,kE:=true}
 |53=>some {sz:=1,agg:=false,zero:=[AV.nil],bytes:=24,au:=UD.sl 59,kE:=true}
 |59=>some {sz:=2,agg:=true,zero:=[AV.int IntKind.i64 0,AV.int IntKind.i64 0],bytes:=16,au:=UD.st [(0,3),(1,3)],kE:=true}
 |163=>some {sz:=1,agg:=false,zero:=[AV.dQ],bytes:=8,au:=UD.pt,kE:=true}
 |164=>some {sz:=1,agg:=false,zero:=[AV.int IntKind.u64 0],bytes:=8,au:=UD.it IntKind.u64,kE:=true}
 |166=>some {sz:=3,agg:=true,zero:=[AV.nil,AV.int IntKind.i64 0,AV.int IntKind.u64 0],bytes:=40,au:=UD.st [(0,22),(1,3),(2,164)],kE:=true}
 |174=>some {sz:=1,agg:=false,zero:=[AV.undef],bytes:=8,au:=UD.ot,kE:=true}
 |191=>some {sz:=1,agg:=false,zero:=[AV.int IntKind.u64 0],bytes:=8,au:=UD.it IntKind.u64,kE:=true}
 |193=>some {sz:=1,agg:=false,zero:=[AV.undef],bytes:=8,au:=UD.ot,kE:=true}
 |_=>none
def fW:FuncId→kF:=fun f=>match f with
 |7=>{bC:=[[.sc]],nM:=[(6,[],[1]),(7,[],[1])],fU:=[(10,[],some [1,5,7,8,11,12,13,17,18,107]),(14,[],some [1,141])],wZ:=[(108,[1])]}
 |21=>{bC:=[[.sc]],loops:=[(0,{bP:=[0,1,12,13]})],blocks:=[(0,[])]}
 |39=>{bC:=[[.sl [.sc,.sc]],[.sl [.sc]]]}
 |59=>{bC:=[[.sl [.sc,.sc]],[.sl [.sc]]]}
 |60=>{bC:=[[.sc],[.sc]],fU:=[(1,[],some [0,1,15])]}
 |61=>{bC:=[[.sc],[.sc]]}
 |62=>{bC:=[[.sl [.sc]],[.sc],[.sc]]}
 |63=>{bC:=[[.sl [.sc]],[.sc],[.sc]]}
 |64=>{bC:=[[.sc],[.sc]]}
 |65=>{bC:=[[.sc],[.sc]],loops:=[(0,{bP:=[0,4,5,6]}),(2,{bP:=[0,4,5,6,7,8,9,25,26,27]})],blocks:=[(1,[0,4,5,6]),(3,[0,4,5,6,7,8,9,25,26,27]),(2,[0,4,5,6,7,9]),(0,[5])],fU:=[(17,[],some [0,4,5,6,7,8,9,25,26,27]),(19,[],some [0,4,5,6,7,62])],wZ:=[(36,[0,4,5,6,7,8,9,25,26,27]),(62,[0,4,5,6])]}
 |66=>{bC:=[[.sc]]}
 |157=>{bC:=[[.sc]]}
 |162=>{bC:=[[.sc]],wZ:=[(11,[1,5])]}
 |163=>{bC:=[[.sc]]}
 |164=>{bC:=[[.sc]]}
 |173=>{bC:=[]}
 |177=>{bC:=[[.sl [.sc,.sc]]],loops:=[(0,{bP:=[0,3,4]})],blocks:=[(0,[0,3])],fU:=[(8,[],some [0,3,31])],fz:=[(9,[(3,[([34],[.sl [.sc]])]),(6,[([37],[.sl [.sc]])])])],wZ:=[(8,[0,3,4]),(31,[3])]}
 |178=>{bC:=[[.sl [.sc]]],loops:=[(0,{bP:=[0,1,5,6]}),(2,{bP:=[0,1,5,7]})],blocks:=[(0,[0,1,5]),(2,[0,1,5])],fU:=[(7,[],some [0,1,5,7,27]),(14,[],some [0,1,5,56])],wZ:=[(56,[5])]}
 |179=>{bC:=[[.sc]]}
 |180=>{bC:=[[.sl [.sc]]],loops:=[(0,{bP:=[0,5,6,12,13,14]})],blocks:=[(0,[5])]}
 |182=>{bC:=[[.sl [.sc]]],loops:=[(0,{bP:=[1,3,7,8]})],blocks:=[(0,[1,3])]}
 |183=>{bC:=[[.sc]],loops:=[(0,{bP:=[0,5,6,7]})],blocks:=[(0,[0])],fU:=[(4,[],some [0,5,6,7,20])]}
 |184=>{bC:=[[.sl [.sc]]],loops:=[(0,{bP:=[0,3,8,9,10]}),(2,{bP:=[0,3,4,5,6,8,9,10]})],blocks:=[(2,[0,3,4,6,8,9,10]),(0,[3])],fU:=[(6,[],some [0,3,4,5,6,8,9,10,31])]}
 |185=>{bC:=[[.sc]],loops:=[(0,{bP:=[0,1,6,7]})],blocks:=[(0,[0,1])]}
 |186=>{bC:=[[.sl [.sc]]],loops:=[(0,{bP:=[0,5,6,12,13,14]})],blocks:=[(0,[5])]}
 |188=>{bC:=[[.sc]]}
 |201=>{bC:=[[.sc]],loops:=[(0,{bP:=[0,5,6,12,13,14]})],blocks:=[(1,[0,5,6,12,13,14]),(0,[5])],wZ:=[(27,[0,5,6,12,13,14])]}
 |202=>{bC:=[[.sc]],loops:=[(0,{bP:=[0,5,10,11,12]})],blocks:=[(0,[5])]}
 |203=>{bC:=[[.sl [.sc]],[.sc]],loops:=[(0,{bP:=[0,4,5,6,15,16,17]}),(2,{bP:=[0,4,5,6,9,15,16,17,39,40,41]})],blocks:=[(1,[0,4,5,6,15,16,17]),(3,[0,4,5,6,9,15,16,17,39,40,41]),(2,[0,4,5,6,9,15,16,17]),(0,[4,5])],wZ:=[(59,[0,4,5,6,9,15,16,17,39,40,41])]}
 |204=>{bC:=[[.sl [.sc]],[.sl [.sc]]],loops:=[(0,{bP:=[0,4,5,6,15,16,17]}),(2,{bP:=[0,4,5,6,9,15,16,17,39,40,41]})],blocks:=[(1,[0,4,5,6,15,16,17]),(3,[0,4,5,6,9,15,16,17,39,40,41]),(2,[0,4,5,6,9,15,16,17]),(0,[4,5])],wZ:=[(59,[0,4,5,6,9,15,16,17,39,40,41])]}
 |205=>{bC:=[[.sc]]}
 |206=>{bC:=[[.sc]]}
 |282=>{bC:=[[.sc]],wZ:=[(13,[0,3])]}
 |287=>{bC:=[],loops:=[(0,{bP:=[0,1,2,6,7,8]}),(2,{bP:=[0,1,2,6]}),(4,{bP:=[0,1,2,6,7,8]})],blocks:=[(0,[0,1,2,6,7]),(4,[0,1,2,6,7]),(2,[])],wZ:=[(54,[0,1,2,6])]}
 |288=>{bC:=[[.sc]],loops:=[(0,{bP:=[0,1,11,12,13]})],blocks:=[(0,[])],fU:=[(6,[],some [0,1,11,12,13,29])]}
 |289=>{bC:=[[.sc]]}
 |290=>{bC:=[[.sc]]}
 |291=>{bC:=[[.sc]],loops:=[(0,{bP:=[0,1,7,8]})],blocks:=[(0,[])]}
 |293=>{bC:=[[.sc]]}
 |294=>{bC:=[[.sl [.sc]]],nM:=[(5,[6],[])]}
 |295=>{bC:=[[.sc]],loops:=[(0,{bP:=[0,1,7,8]})],blocks:=[(0,[])]}
 |319=>{bC:=[[.sc]],loops:=[(0,{bP:=[1,7,8,9]})],blocks:=[(0,[])]}
 |321=>{bC:=[],loops:=[(0,{bP:=[0,1,2,3,8]}),(2,{bP:=[0,1,2,3,8,9]})],blocks:=[(2,[0,1,2,3,8]),(0,[])],nM:=[(4,[14],[]),(6,[15,17],[])],fU:=[(4,[],some [0,1,2,3,8,9,34])]}
 |_=>{}
noncomputable def code:FuncId→Option Func:=fun f=>match f with
 |7=>some Go.Proofs.Try.f7
 |21=>some Go.Proofs.Try.f21
 |39=>some Go.Proofs.Try.f39
 |59=>some Go.Proofs.Try.f59
 |60=>some Go.Proofs.Try.f60
 |61=>some Go.Proofs.Try.f61
 |62=>some Go.Proofs.Try.f62
 |63=>some Go.Proofs.Try.f63
 |64=>some Go.Proofs.Try.f64
 |65=>some Go.Proofs.Try.f65
 |66=>some Go.Proofs.Try.f66
 |157=>some Go.Proofs.Try.f157
 |162=>some Go.Proofs.Try.f162
 |163=>some Go.Proofs.Try.f163
 |164=>some Go.Proofs.Try.f164
 |173=>some Go.Proofs.Try.f173
 |177=>some Go.Proofs.Try.f177
 |178=>some Go.Proofs.Try.f178
 |179=>some Go.Proofs.Try.f179
 |180=>some Go.Proofs.Try.f180
 |182=>some Go.Proofs.Try.f182
 |183=>some Go.Proofs.Try.f183
 |184=>some Go.Proofs.Try.f184
 |185=>some Go.Proofs.Try.f185
 |186=>some Go.Proofs.Try.f186
 |188=>some Go.Proofs.Try.f188
 |201=>some Go.Proofs.Try.f201
 |202=>some Go.Proofs.Try.f202
 |203=>some Go.Proofs.Try.f203
 |204=>some Go.Proofs.Try.f204
 |205=>some Go.Proofs.Try.f205
 |206=>some Go.Proofs.Try.f206
 |282=>some Go.Proofs.Try.f282
 |287=>some Go.Proofs.Try.f287
 |288=>some Go.Proofs.Try.f288
 |289=>some Go.Proofs.Try.f289
 |290=>some Go.Proofs.Try.f290
 |291=>some Go.Proofs.Try.f291
 |293=>some Go.Proofs.Try.f293
 |294=>some Go.Proofs.Try.f294
 |295=>some Go.Proofs.Try.f295
 |319=>some Go.Proofs.Try.f319
 |321=>some Go.Proofs.Try.f321
 |_=>none
noncomputable def C:aL:=⟨E,fW,code,fun _ _ _ _=>False⟩
theorem gC:Good C:=⟨fun _ _ _ _ _ _ h=>h,fun _ _ _ _ h=>h.elim⟩
theorem OV:C.E=E:=rfl
theorem OW:E 3=some {sz:=1,agg:=false,zero:=[AV.int IntKind.i64 0],bytes:=8,au:=UD.it IntKind.i64,kE:=true}:=rfl
theorem OX:E 4=some {sz:=1,agg:=false,zero:=[AV.bool false],bytes:=1,au:=UD.bl,kE:=true}:=rfl
theorem OY:E 5=some {sz:=1,agg:=false,zero:=[AV.int IntKind.u8 0],bytes:=1,au:=UD.it IntKind.u8,kE:=true}:=rfl
theorem OZ:E 22=some {sz:=1,agg:=false,zero:=[AV.nil],bytes:=24,au:=UD.sl 5,kE:=true}:=rfl
theorem O0:E 23=some {sz:=1,agg:=false,zero:=[AV.nil],bytes:=24,au:=UD.sl 3,kE:=true}:=rfl
theorem O1:E 53=some {sz:=1,agg:=false,zero:=[AV.nil],bytes:=24,au:=UD.sl 59,kE:=true}:=rfl
theorem O2:E 59=some {sz:=2,agg:=true,zero:=[AV.int IntKind.i64 0,AV.int IntKind.i64 0],bytes:=16,au:=UD.st [(0,3),(1,3)],kE:=true}:=rfl
theorem O3:E 163=some {sz:=1,agg:=false,zero:=[AV.dQ],bytes:=8,au:=UD.pt,kE:=true}:=rfl
theorem O4:E 164=some {sz:=1,agg:=false,zero:=[AV.int IntKind.u64 0],bytes:=8,au:=UD.it IntKind.u64,kE:=true}:=rfl
theorem O5:E 166=some {sz:=3,agg:=true,zero:=[AV.nil,AV.int IntKind.i64 0,AV.int IntKind.u64 0],bytes:=40,au:=UD.st [(0,22),(1,3),(2,164)],kE:=true}:=rfl
theorem O6:E 174=some {sz:=1,agg:=false,zero:=[AV.undef],bytes:=8,au:=UD.ot,kE:=true}:=rfl
theorem O7:E 191=some {sz:=1,agg:=false,zero:=[AV.int IntKind.u64 0],bytes:=8,au:=UD.it IntKind.u64,kE:=true}:=rfl
theorem O8:E 193=some {sz:=1,agg:=false,zero:=[AV.undef],bytes:=8,au:=UD.ot,kE:=true}:=rfl
theorem Fe:type_of% (And.intro @OV<|And.intro @OW<|And.intro @OX<|And.intro @OY<|And.intro @OZ<|And.intro @O0<|And.intro @O1<|And.intro @O2<|And.intro @O3<|And.intro @O4<|And.intro @O5<|And.intro @O6<|And.intro @O7 @O8):=And.intro @OV<|And.intro @OW<|And.intro @OX<|And.intro @OY<|And.intro @OZ<|And.intro @O0<|And.intro @O1<|And.intro @O2<|And.intro @O3<|And.intro @O4<|And.intro @O5<|And.intro @O6<|And.intro @O7 @O8
theorem O9 (x:Ft):Q0 x= .agg [.fz (x.Code.map (AV.int .u8)),.int .i64 x.Fx,.int .u64 x.FG]:=rfl
theorem O_ (x:Task):Fg x= .agg [.int .i64 x.Fi,.int .i64 x.End]:=rfl
theorem Ga:type_of% (And.intro @O9<|And.intro @O_<|And.intro @DV @uM):=And.intro @O9<|And.intro @O_<|And.intro @DV @uM
theorem Pa {a0:Ft} {i0:Nat} {w0:Nat} {r:(Int×Ft)} (h:Jz a0=some r) {F:List It} {H:J} (hS:ap H (⟨.ptr i0 w0 0 0,3,[.agg [.fz (a0.Code.map (AV.int .u8)),.int .i64 a0.Fx,.int .u64 a0.FG]]⟩::F)) {P:AV→J→Prop} (hP: ∀H',ap H' (⟨.ptr i0 w0 0 0,3,[.agg [.fz (r.2.Code.map (AV.int .u8)),.int .i64 r.2.Fx,.int .u64 r.2.FG]]⟩::F)→P (.int .i64 r.1) H'):aw C 282 [.ptr i0 w0 0 0] H P:=by
 refine B4 gC (res:=[.tmp 2]) (n:=62) rfl rfl rfl rfl fun K0 Ff=> ?_;simp only [W,Nat.reduceSub,Nat.reduceAdd,List.replicate];unfold Jz at h;refine BC fun K1 Fh=> ?_;refine B1 gC ?_;try simp only [W,Nat.reduceAdd]
 refine BJ Fh ?_;refine BC fun K2 zF=> ?_;refine B1 gC ?_;try simp only [W,Nat.reduceAdd]
 refine BJ zF ?_;refine BC fun K3 Fw=> ?_;refine BC fun K4 F6=> ?_;refine B3 gC (by kernel_rfl) ?_
 try simp only [W,Fe,Nat.reduceAdd,Nat.reduceBEq,hS.var 0 rfl]
 refine BJ F6 ?_;obtain ⟨Q1,h,g7⟩:=Option.bind_eq_some_iff.1 h;refine Cz gC (fun s H=> ∃Fo:Int,Q1=(Fo)∧s=(.ptr i0 w0 0 0::u::u:: .int .i64 Fo::u::u::u::u::u::u::u::u::u::u::u::u::u::u::u::u::u::u::u::u::u::u::u::u::u::u::u::u::u::u::u::u::u::u::u::u::u::u::u::u::u::u::u::u::u::u::u::u::u::u::u::u::u::u::u::u::u::u::[])∧ap H (⟨.ptr i0 w0 0 0,3,[.agg [.fz (a0.Code.map (AV.int .u8)),.int .i64 a0.Fx,.int .u64 a0.FG]]⟩::F)) (fun K8 F1=> ?_) (fun s H hq=> ?_)
 ·refine BC fun K9 FU=> ?_;refine BH ?_;simp only [W];refine B0 h (fun hc h=> ?_) (fun hc h=> ?_)
  ·refine B3 gC (by kernel_rfl) ?_
   try simp only [W,Fe,Nat.reduceAdd,Nat.reduceBEq,hS.var 0 rfl]
   refine Co rfl rfl rfl (fun _=>rfl) h fun HF Pb h=> ?_;try simp only [W,Fe]
   refine BJ FU ?_;refine EB (s' :=(.ptr i0 w0 0 0::u::u:: .int .i64 (IntKind.i64.wrap HF)::u::u::u::u::u::u::u::u::u::u::u::u::u::u::u::u::u::u::u::u::u::u::u::u::u::u::u::u::u::u::u::u::u::u::u::u::u::u::u::u::u::u::u::u::u::u::u::u::u::u::u::u::u::u::u::u::u::u::[])) rfl ?_
   exact CA F1 ⟨_,(Option.some.inj h).symm,rfl,hS⟩
  ·refine BE ?_;refine BJ FU ?_;refine EB (s' :=(.ptr i0 w0 0 0::u::u:: .int .i64 0::u::u::u::u::u::u::u::u::u::u::u::u::u::u::u::u::u::u::u::u::u::u::u::u::u::u::u::u::u::u::u::u::u::u::u::u::u::u::u::u::u::u::u::u::u::u::u::u::u::u::u::u::u::u::u::u::u::u::[])) rfl ?_
   exact CA F1 ⟨_,(Option.some.inj h).symm,rfl,hS⟩
 ·obtain ⟨Fo,Fl,rfl,hS⟩:=hq;obtain rfl:=Fl.symm;replace h:=g7;try dsimp only at h
  refine BJ Fw ?_;refine BC fun JQ G4=> ?_;refine B1 gC ?_;try simp only [W,Fe,Nat.reduceAdd,Nat.reduceBEq,hS.var 0 rfl]
  refine Cj (a:= .int .i64 (IntKind.i64.wrap (a0.Fx+1))) (y' := .agg [.fz (a0.Code.map (AV.int .u8)),.int .i64 (IntKind.i64.wrap (a0.Fx+1)),.int .u64 a0.FG]) 0 hS rfl rfl rfl rfl rfl rfl rfl rfl fun H hS=> ?_
  try simp only [W]
  refine BJ G4 ?_;refine BC fun Jh Gw=> ?_;refine B1 gC ?_;try simp only [W,Fe,Nat.reduceAdd,Nat.reduceBEq,hS.var 0 rfl]
  refine Cj (a:= .int .u64 (IntKind.u64.wrap ((IntKind.u64.wrap ((IntKind.u64.wrap (a0.FG*6364136223846793005))+(IntKind.u64.wrap Fo)))+1442695040888963407))) (y' := .agg [.fz (a0.Code.map (AV.int .u8)),.int .i64 (IntKind.i64.wrap (a0.Fx+1)),.int .u64 (IntKind.u64.wrap ((IntKind.u64.wrap ((IntKind.u64.wrap (a0.FG*6364136223846793005))+(IntKind.u64.wrap Fo)))+1442695040888963407))]) 0 hS rfl rfl rfl rfl rfl rfl rfl rfl fun H hS=> ?_
  try simp only [W]
  refine BJ Gw ?_;refine BC fun Hz F2=> ?_;refine BC fun HA FP=> ?_;refine B3 gC (by kernel_rfl) ?_
  try simp only [W,Fe,Nat.reduceAdd,Nat.reduceBEq,hS.var 0 rfl]
  refine BJ FP ?_;refine BH ?_;simp only [W];refine B0 h (fun hc h=> ?_) (fun hc h=> ?_)
  ·refine BC fun Hl FF=> ?_;refine B1 gC ?_;try simp only [W,Nat.reduceAdd]
   refine BJ FF ?_;refine BF ?_;refine BK F2 ?_;refine BU Ff rfl ?_;try obtain rfl:=Option.some.inj h
   exact hP _ hS
  ·refine BE ?_;refine BJ F2 ?_;refine BC fun HK FV=> ?_;refine B1 gC ?_;try simp only [W,Fe,Nat.reduceAdd,Nat.reduceBEq,hS.var 0 rfl]
   rw [CG _ _ _ rfl,Option.map_some,tg];try simp only [W,Fe]
   refine BJ FV ?_;refine BF ?_;refine BU Ff rfl ?_;try obtain rfl:=Option.some.inj h
   exact hP _ hS
theorem HZ {a0:Ft} {a1:Int} {i0:Nat} {w0:Nat} {r:(Int×Ft)} (h:GW a0 a1=some r) {F:List It} {H:J} (hS:ap H (⟨.ptr i0 w0 0 0,3,[.agg [.fz (a0.Code.map (AV.int .u8)),.int .i64 a0.Fx,.int .u64 a0.FG]]⟩::F)) {P:AV→J→Prop} (hP: ∀H',ap H' (⟨.ptr i0 w0 0 0,3,[.agg [.fz (r.2.Code.map (AV.int .u8)),.int .i64 r.2.Fx,.int .u64 r.2.FG]]⟩::F)→P (.int .i64 r.1) H'):aw C 162 [.ptr i0 w0 0 0,.int .i64 a1] H P:=by
 refine B4 gC (res:=[.tmp 4]) (n:=20) rfl rfl rfl rfl fun K0 Ff=> ?_;simp only [W,Nat.reduceSub,Nat.reduceAdd,List.replicate];unfold GW at h;refine BC fun K1 Fh=> ?_;refine B1 gC ?_;try simp only [W,Nat.reduceAdd]
 refine BJ Fh ?_;refine BC fun K2 zF=> ?_;refine BC fun K3 Fw=> ?_;refine B1 gC ?_;try simp only [W,Fe,Nat.reduceAdd]
 refine BJ Fw ?_;refine BH ?_;simp only [W];refine B0 h (fun hc h=> ?_) (fun hc h=> ?_)
 ·refine BC fun K4 F6=> ?_;refine B1 gC ?_;try simp only [W,Nat.reduceAdd]
  refine BJ F6 ?_;refine BF ?_;refine BK zF ?_;refine BU Ff rfl ?_;try obtain rfl:=Option.some.inj h
  exact hP _ hS
 ·refine BE ?_;refine BJ zF ?_;refine BC fun K5 FQ=> ?_;refine B1 gC ?_;try simp only [W,Nat.reduceAdd]
  refine Cu h fun FJ H4 h=> ?_;obtain ⟨Fm,Gl⟩:=FJ;try dsimp only at h
  refine Pa H4 hS fun H hS=> ?_;try simp only [W]
  refine BJ FQ ?_;refine BC fun K9 FU=> ?_;refine BC fun MT Ih=> ?_;refine B1 gC ?_;try simp only [W,Fe,Nat.reduceAdd]
  refine BJ Ih ?_;obtain ⟨Pc,h,MU⟩:=Option.bind_eq_some_iff.1 h;refine Cz gC (fun s H=> ∃FC:Int,∃FH:List Int,∃FI:Int,∃Fs:Int,Pc=(FC,FH,FI,Fs)∧s=[u,.int .i64 a1,u,u,u,.int .i64 FC,u,u,u,u,u,u,u,u,u,u,u,u,u,u]∧ap H (⟨.ptr i0 w0 0 0,3,[.agg [.fz (FH.map (AV.int .u8)),.int .i64 FI,.int .u64 Fs]]⟩::F)) (fun Hm FL=> ?_) (fun s H hq=> ?_)
  ·refine BC fun IK Gq=> ?_;refine BH ?_;simp only [W];refine B0 h (fun hc h=> ?_) (fun hc h=> ?_)
   ·refine B1 gC ?_;try simp only [W,Fe,Nat.reduceAdd]
    refine Cu h fun Hh KU h=> ?_;obtain ⟨HT,G8⟩:=Hh;try dsimp only at h
    refine Pa KU hS fun H hS=> ?_;try simp only [W,Fe]
    refine BJ Gq ?_;refine BI ?_;exact CA FL ⟨_,_,_,_,(Option.some.inj h).symm,rfl,hS⟩
   ·refine BE ?_;refine BJ Gq ?_;refine BI ?_;exact CA FL ⟨_,_,_,_,(Option.some.inj h).symm,rfl,hS⟩
  ·obtain ⟨FC,FH,FI,Fs,rfl,rfl,hS⟩:=hq;replace h:=MU;try dsimp only at h
   refine BJ FU ?_;refine BC fun H7 Gg=> ?_;refine B1 gC ?_;try simp only [W,Fe,Nat.reduceAdd]
   refine Cf _ h fun G9 Wo h=> ?_;try simp only [W]
   refine BJ Gg ?_;refine BF ?_;refine BU Ff rfl ?_;try obtain rfl:=Option.some.inj h
   exact hP _ hS
theorem MV {a0:Ft} {a1:Int} {i0:Nat} {w0:Nat} {r:(Bool×Ft)} (h:IC a0 a1=some r) {F:List It} {H:J} (hS:ap H (⟨.ptr i0 w0 0 0,3,[.agg [.fz (a0.Code.map (AV.int .u8)),.int .i64 a0.Fx,.int .u64 a0.FG]]⟩::F)) {P:AV→J→Prop} (hP: ∀H',ap H' (⟨.ptr i0 w0 0 0,3,[.agg [.fz (r.2.Code.map (AV.int .u8)),.int .i64 r.2.Fx,.int .u64 r.2.FG]]⟩::F)→P (.bool r.1) H'):aw C 188 [.ptr i0 w0 0 0,.int .i64 a1] H P:=by
 refine B4 gC (res:=[.tmp 4]) (n:=9) rfl rfl rfl rfl fun K0 Ff=> ?_;simp only [W,Nat.reduceSub,Nat.reduceAdd,List.replicate];unfold IC at h;refine BC fun K1 Fh=> ?_;refine B1 gC ?_;try simp only [W,Nat.reduceAdd]
 refine BJ Fh ?_;refine BC fun K2 zF=> ?_;refine B1 gC ?_;try simp only [W,Nat.reduceAdd]
 refine Cu h fun b3 kV h=> ?_;obtain ⟨FM,Fy⟩:=b3;try dsimp only at h
 refine HZ kV hS fun H hS=> ?_;try simp only [W,Fe]
 refine BJ zF ?_;refine BF ?_;refine BU Ff rfl ?_;try obtain rfl:=Option.some.inj h
 exact hP _ hS
theorem Pd {a0:Ft} {a1:List Int} {i0:Nat} {w0:Nat} {r:(Int×Ft)} (h:I6 a0 a1=some r) {F:List It} {H:J} (hS:ap H (⟨.ptr i0 w0 0 0,3,[.agg [.fz (a0.Code.map (AV.int .u8)),.int .i64 a0.Fx,.int .u64 a0.FG]]⟩::F)) {P:AV→J→Prop} (hP: ∀H',ap H' (⟨.ptr i0 w0 0 0,3,[.agg [.fz (r.2.Code.map (AV.int .u8)),.int .i64 r.2.Fx,.int .u64 r.2.FG]]⟩::F)→P (.int .i64 r.1) H'):aw C 163 [.ptr i0 w0 0 0,.fz (a1.map (AV.int .i64))] H P:=by
 refine B4 gC (res:=[.tmp 4]) (n:=12) rfl rfl rfl rfl fun K0 Ff=> ?_;simp only [W,Nat.reduceSub,Nat.reduceAdd,List.replicate];unfold I6 at h;refine BC fun K1 Fh=> ?_;refine B1 gC ?_;try simp only [W,Nat.reduceAdd]
 refine BJ Fh ?_;refine BC fun K2 zF=> ?_;refine B1 gC ?_;try simp only [W,Fe,Nat.reduceAdd]
 refine Cu h fun b3 kV h=> ?_;obtain ⟨FM,Fy⟩:=b3;try dsimp only at h
 refine HZ kV hS fun H hS=> ?_;try simp only [W,Fe]
 refine Co rfl rfl rfl (fun _=>rfl) h fun FJ H4 h=> ?_;try simp only [W,Fe]
 refine BJ zF ?_;refine BF ?_;refine BU Ff rfl ?_;try obtain rfl:=Option.some.inj h
 exact hP _ hS
theorem Q2 {a0:Ft} {i0:Nat} {w0:Nat} {r:(List Task×Ft)} (h:J8 a0=some r) {F:List It} {H:J} (hS:ap H (⟨.ptr i0 w0 0 0,3,[.agg [.fz (a0.Code.map (AV.int .u8)),.int .i64 a0.Fx,.int .u64 a0.FG]]⟩::F)) {P:AV→J→Prop} (hP: ∀MW:AV,aJ MW→ ∀H',ap H' (⟨MW,2,r.1.map Fg⟩::⟨.ptr i0 w0 0 0,3,[.agg [.fz (r.2.Code.map (AV.int .u8)),.int .i64 r.2.Fx,.int .u64 r.2.FG]]⟩::F)→P (MW) H'):aw C 177 [.ptr i0 w0 0 0] H P:=by
 refine B4 gC (res:=[.tmp 2]) (n:=42) rfl rfl rfl rfl fun K0 Ff=> ?_;simp only [W,Nat.reduceSub,Nat.reduceAdd,List.replicate];unfold J8 at h;refine BC fun K1 Fh=> ?_;refine B1 gC ?_;try simp only [W,Nat.reduceAdd]
 refine BJ Fh ?_;refine BC fun K2 zF=> ?_;refine B1 gC ?_;try simp only [W,Nat.reduceAdd]
 refine BJ zF ?_;refine BC fun K3 Fw=> ?_;refine B1 gC ?_;try simp only [W,Nat.reduceAdd]
 refine Cu h fun FM He h=> ?_;obtain ⟨Fy,FJ⟩:=FM;try dsimp only at h
 refine HZ He hS fun H hS=> ?_;try simp only [W]
 refine BJ Fw ?_;refine BC fun K7 FW=> ?_;refine BC fun K8 F1=> ?_;refine B1 gC ?_;try simp only [W,Nat.reduceAdd]
 refine Cu h fun Hi MX h=> ?_;obtain ⟨HF,J9⟩:=Hi;try dsimp only at h
 refine MV MX hS fun H hS=> ?_;try simp only [W]
 refine BJ F1 ?_;obtain ⟨MY,h,Q3⟩:=Option.bind_eq_some_iff.1 h;refine Cz gC (fun s H=> ∃FH:Int,∃FI:List Int,∃Fs:Int,∃FD:Int,MY=(FH,FI,Fs,FD)∧s=[.ptr i0 w0 0 0,u,u,.nil,.int .i64 FH,u,u,u,u,u,u,u,u,u,u,u,u,u,u,u,u,u,u,u,u,u,u,u,u,u,u,u,u,u,u,u,u,u,u,u,u,u]∧ap H (⟨.ptr i0 w0 0 0,3,[.agg [.fz (FI.map (AV.int .u8)),.int .i64 Fs,.int .u64 FD]]⟩::F)) (fun IK Gq=> ?_) (fun s H hq=> ?_)
 ·refine BC fun Ii Gh=> ?_;refine BH ?_;simp only [W];refine B0 h (fun hc h=> ?_) (fun hc h=> ?_)
  ·refine B1 gC ?_;try simp only [W,Nat.reduceAdd]
   refine Cu h fun HT MZ h=> ?_;obtain ⟨G8,Ht⟩:=HT;try dsimp only at h
   refine HZ MZ hS fun H hS=> ?_;try simp only [W,Fe]
   refine BJ Gh ?_;refine BI ?_;exact CA Gq ⟨_,_,_,_,(Option.some.inj h).symm,rfl,hS⟩
  ·refine BE ?_;refine BJ Gh ?_;refine BI ?_;exact CA Gq ⟨_,_,_,_,(Option.some.inj h).symm,rfl,hS⟩
 ·obtain ⟨FH,FI,Fs,FD,rfl,rfl,hS⟩:=hq;replace h:=Q3;try dsimp only at h
  refine BJ FW ?_;refine BC fun IL GJ=> ?_;obtain ⟨Q4,Q5,M0⟩:=Option.bind_eq_some_iff.1 h;refine Cz gC (fun s H=> ∃GX:List Task,∃GB:List Int,∃JA:Int,∃F8:Int,Q4=(GX,GB,JA,F8)∧ ∃IM:AV,aJ IM∧s=[.ptr i0 w0 0 0,u,u,IM,u,u,u,u,u,u,u,u,u,u,u,u,u,u,u,u,u,u,u,u,u,u,u,u,u,u,u,u,u,u,u,u,u,u,u,u,u,u]∧ap H (⟨IM,2,GX.map Fg⟩::⟨.ptr i0 w0 0 0,3,[.agg [.fz (GB.map (AV.int .u8)),.int .i64 JA,.int .u64 F8]]⟩::F)) (fun Pe KV=> ?_) (fun s H hq=> ?_)
  ·refine BD fun Pf JR=> ?_;refine Cv gC Q5 (fun x s H=>match x with|(ID,GA,HU,F7,G_)=> ∃Me:AV,aJ Me∧s=[.ptr i0 w0 0 0,u,u,Me,.int .i64 GA,u,u,u,u,u,u,u,u,u,u,u,u,u,u,u,u,u,u,u,u,u,u,u,u,u,u,u,u,u,u,u,u,u,u,u,u,u]∧ap H (⟨Me,2,ID.map Fg⟩::⟨.ptr i0 w0 0 0,3,[.agg [.fz (HU.map (AV.int .u8)),.int .i64 F7,.int .u64 G_]]⟩::F)) ⟨_,lN,rfl,(hS.uX 2)⟩ (fun x Pg s H h Q6 hi M1 IN=> ?_)
   obtain ⟨ID,GA,HU,F7,G_⟩:=x;try dsimp only at hi
   obtain ⟨Me,Ph,rfl,hS⟩:=hi;simp only [MJ] at h;refine BC fun Pj Ji=> ?_;refine BC fun Mf HL=> ?_;refine B1 gC ?_;try simp only [W,Fe,Nat.reduceAdd]
   refine BJ HL ?_;refine BH ?_;simp only [W];refine B0 h (fun hc h=> ?_) (fun hc h=> ?_)
   ·refine BE ?_;refine BJ Ji ?_;refine BC fun Mg Ij=> ?_;refine BD fun Pk KW=> ?_;refine B1 gC ?_;try simp only [W,Nat.reduceAdd]
    refine Cu h fun L8 Pl h=> ?_;obtain ⟨LD,OB⟩:=L8;try dsimp only at h
    refine HZ Pl (hS.C2 2 [1,0] (by decide)) fun H hS=> ?_
    try simp only [W,Fe]
    refine Cu h fun Q7 Q8 h=> ?_;obtain ⟨I7,FN⟩:=Q7;try dsimp only at h
    refine HZ Q8 hS fun H hS=> ?_;try simp only [W,Fe]
    refine C_ rfl rfl rfl rfl rfl ?_;try simp only [W]
    refine Ct (el:=([(⟨(IntKind.i64.wrap (1+LD)),I7⟩:Task)]:List Task).map Fg) hS rfl rfl rfl rfl rfl rfl rfl fun Q9 H Pm hS=> ?_;try simp only [W,Fe]
    refine CM (l:=ID) (c:=Fg) 2 hS rfl Ph rfl rfl rfl (hS.gZ 0 rfl Pm) (fun _=>rfl) rfl h fun Q_ H Hs M3 hm h hS=> ?_;try simp only [W]
    refine BN KW ?_;refine BJ Ij ?_;refine B1 gC ?_;try simp only [W,Fe,Nat.reduceAdd]
    exact Cw IN h ⟨_,M3,rfl,(hS.C2 3 [2,1] (by decide))⟩
   ·refine BG ?_;refine BL Ji ?_;try obtain rfl:=Option.some.inj h
    obtain rfl:=Q6 _ rfl;have h:(some (ID,HU,F7,G_):Option ((List Task)×(List Int)×Int×Int))=some (ID,HU,F7,G_):=rfl;refine Cx IN ?_;refine BP JR ?_;exact CA KV ⟨_,_,_,_,(Option.some.inj h).symm,_,Ph,rfl,hS⟩
  ·obtain ⟨GX,GB,JA,F8,rfl,IM,M4,rfl,hS⟩:=hq;replace h:=M0;try dsimp only at h
   refine BJ GJ ?_;refine BC fun Mh Ik=> ?_;refine BC fun Ra M5=> ?_;obtain ⟨M6,h,M7⟩:=Option.bind_eq_some_iff.1 h;refine Cz gC (fun s H=> ∃J_:Bool,∃JB:List Int,∃Ic:Int,∃GY:Int,M6=(J_,JB,Ic,GY)∧s=[.ptr i0 w0 0 0,u,u,IM,u,u,u,u,u,u,u,u,u,u,u,u,u,u,u,u,u,u,u,u,u,u,u,u,u,u,u,.bool J_,u,u,u,u,u,u,u,u,u,u]∧ap H (⟨IM,2,GX.map Fg⟩::⟨.ptr i0 w0 0 0,3,[.agg [.fz (JB.map (AV.int .u8)),.int .i64 Ic,.int .u64 GY]]⟩::F)) (fun Pn HM=> ?_) (fun s H hq=> ?_)
   ·refine BC fun Po HN=> ?_;refine B1 gC ?_;try simp only [W,Fe,Nat.reduceAdd]
    refine uE 0 hS rfl M4 rfl ?_;try simp only [W,Fe]
    refine C8 h (fun hc h=> ?_) (fun hc h=> ?_)
    ·try simp only [W,hc]
     refine Cu h fun Rb Rc h=> ?_;obtain ⟨OC,HV⟩:=Rb;try dsimp only at h
     refine MV Rc (hS.C2 2 [1,0] (by decide)) fun H hS=> ?_
     try simp only [W,reduceIte]
     refine BJ HN ?_;refine BI ?_;exact CA HM ⟨_,_,_,_,(Option.some.inj h).symm,rfl,(hS.C2 2 [1,0] (by decide))⟩
    ·try simp only [W,hc]
     refine BJ HN ?_;refine BI ?_;exact CA HM ⟨_,_,_,_,(Option.some.inj h).symm,rfl,hS⟩
   ·obtain ⟨J_,JB,Ic,GY,rfl,rfl,hS⟩:=hq;replace h:=M7;try dsimp only at h
    refine BJ M5 ?_;obtain ⟨M8,h,M9⟩:=Option.bind_eq_some_iff.1 h;refine Cz gC (fun s H=> ∃HG:List Task,∃HH:List Int,∃Kb:Int,∃Hu:Int,M8=(HG,HH,Kb,Hu)∧s=[u,u,u,IM,u,u,u,u,u,u,u,u,u,u,u,u,u,u,u,u,u,u,u,u,u,u,u,u,u,u,u,u,u,u,u,u,u,u,u,u,u,u]∧ap H (⟨IM,2,HG.map Fg⟩::⟨.ptr i0 w0 0 0,3,[.agg [.fz (HH.map (AV.int .u8)),.int .i64 Kb,.int .u64 Hu]]⟩::F)) (fun Re KX=> ?_) (fun s H hq=> ?_)
    ·refine BC fun M_ Il=> ?_;refine BH ?_;simp only [W];refine B0 h (fun hc h=> ?_) (fun hc h=> ?_)
     ·refine B2 (fz:=[(3,[([34],[.sl [.sc]])]),(6,[([37],[.sl [.sc]])])]) gC ?_;try simp only [W,Nat.reduceAdd,Nat.reduceBEq]
      refine Ct (el:=([0,20,21]:List Int).map (AV.int .i64)) hS rfl rfl rfl rfl rfl rfl rfl fun Wp H Rf hS=> ?_;try simp only [W,Nat.reduceAdd]
      refine CO 0 hS rfl Rf rfl (fun _ _=>by simp [aR,aO,dD]) (fun _=>rfl) fun H rY hS=> ?_
      try simp only [W]
      refine Cu h fun L_ Na h=> ?_;obtain ⟨I8,Ka⟩:=L_;try dsimp only at h
      refine Pd Na (hS.C2 2 [1,0] (by decide)) fun H hS=> ?_
      try simp only [W,Nat.reduceAdd,Nat.reduceBEq]
      refine Ct (el:=([-1,200,201]:List Int).map (AV.int .i64)) hS rfl rfl rfl rfl rfl rfl rfl fun Wq H Rg hS=> ?_;try simp only [W,Nat.reduceAdd,Nat.reduceBEq]
      refine CO 0 hS rfl Rg rfl (fun _ _=>by simp [aR,aO,dD]) (fun _=>rfl) fun H rY hS=> ?_
      try simp only [W]
      refine Cu h fun Rh Ri h=> ?_;obtain ⟨LF,JC⟩:=Rh;try dsimp only at h
      refine Pd Ri hS fun H hS=> ?_;try simp only [W,Fe,Nat.reduceAdd,Nat.reduceBEq]
      refine C_ rfl rfl rfl rfl rfl ?_;try simp only [W,Fe,Nat.reduceAdd,Nat.reduceBEq]
      refine Cp 1 hS rfl rfl rfl rfl rfl h (fun LJ Wr Ws Wt Pp h Pq=> ?_) M4.ne;obtain ⟨Wu,Wv,Ww⟩:=hS.elem 1 rfl Pq Pp;try simp only [W,Nat.reduceAdd,Nat.reduceBEq]
      refine Cq (a:= .agg [.int .i64 I8,.int .i64 LF]) (y' :=(⟨I8,LF⟩:Task)) 1 hS rfl Pq Pp rfl rfl rfl rfl rfl rfl rfl fun H hS=> ?_
      try simp only [W,Nat.reduceAdd]
      refine BJ Il ?_;refine BI ?_;exact CA KX ⟨_,_,_,_,(Option.some.inj h).symm,rfl,(hS.C2 2 [1,0] (by decide))⟩
     ·refine BE ?_;refine BJ Il ?_;refine BI ?_;exact CA KX ⟨_,_,_,_,(Option.some.inj h).symm,rfl,hS⟩
    ·obtain ⟨HG,HH,Kb,Hu,rfl,rfl,hS⟩:=hq;replace h:=M9;try dsimp only at h
     refine BJ Ik ?_;refine BC fun Pr JS=> ?_;refine B1 gC ?_;try simp only [W,Nat.reduceAdd]
     refine BJ JS ?_;refine BF ?_;refine BU Ff rfl ?_;try obtain rfl:=Option.some.inj h
     exact hP _ M4 _ hS
theorem Rj {a0:Ft} {a1:Int} {i0:Nat} {w0:Nat} {r:(List Int×Ft)} (h:Ke a0 a1=some r) {F:List It} {H:J} (hS:ap H (⟨.ptr i0 w0 0 0,3,[.agg [.fz (a0.Code.map (AV.int .u8)),.int .i64 a0.Fx,.int .u64 a0.FG]]⟩::F)) {P:AV→J→Prop} (hP: ∀Mi:AV,aJ Mi→ ∀H',ap H' (⟨Mi,1,r.1.map (AV.int .i64)⟩::⟨.ptr i0 w0 0 0,3,[.agg [.fz (r.2.Code.map (AV.int .u8)),.int .i64 r.2.Fx,.int .u64 r.2.FG]]⟩::F)→P (Mi) H'):aw C 178 [.ptr i0 w0 0 0,.int .i64 a1] H P:=by
 refine B4 gC (res:=[.tmp 4]) (n:=65) rfl rfl rfl rfl fun K0 Ff=> ?_;simp only [W,Nat.reduceSub,Nat.reduceAdd,List.replicate];unfold Ke at h;refine BC fun K1 Fh=> ?_;refine B1 gC ?_;try simp only [W,Nat.reduceAdd]
 refine BJ Fh ?_;refine BC fun K2 zF=> ?_;refine B1 gC ?_;try simp only [W,Nat.reduceAdd]
 refine BJ zF ?_;refine BC fun K3 Fw=> ?_;refine BC fun K4 F6=> ?_;refine B1 gC ?_;try simp only [W,Nat.reduceAdd]
 refine BJ F6 ?_;obtain ⟨Hn,Jj,Jk⟩:=Option.bind_eq_some_iff.1 h;refine Cz gC (fun s H=> ∃Fq:List Int,Hn=(Fq)∧ ∃v10:AV,aJ v10∧s=(.ptr i0 w0 0 0:: .int .i64 a1::u::u::u::v10::u::u::u::u::u::u::u::u::u::u::u::u::u::u::u::u::u::u::u::u::u::u::u::u::u::u::u::u::u::u::u::u::u::u::u::u::u::u::u::u::u::u::u::u::u::u::u::u::u::u::u::u::u::u::u::u::u::u::u::[])∧ap H (⟨v10,1,Fq.map (AV.int .i64)⟩::⟨.ptr i0 w0 0 0,3,[.agg [.fz (a0.Code.map (AV.int .u8)),.int .i64 a0.Fx,.int .u64 a0.FG]]⟩::F)) (fun Hz F2=> ?_) (fun s H hq=> ?_)
 ·refine BD fun HA FP=> ?_;refine Cv gC Jj (fun x s H=>match x with|(Fo,Fk)=> ∃v6:AV,aJ v6∧s=(.ptr i0 w0 0 0:: .int .i64 a1::u::u::u::v6:: .int .i64 Fk::u::u::u::u::u::u::u::u::u::u::u::u::u::u::u::u::u::u::u::u::u::u::u::u::u::u::u::u::u::u::u::u::u::u::u::u::u::u::u::u::u::u::u::u::u::u::u::u::u::u::u::u::u::u::u::u::u::u::[])∧ap H (⟨v6,1,Fo.map (AV.int .i64)⟩::⟨.ptr i0 w0 0 0,3,[.agg [.fz (a0.Code.map (AV.int .u8)),.int .i64 a0.Fx,.int .u64 a0.FG]]⟩::F)) ⟨_,lN,rfl,(hS.uX 1)⟩ (fun x Nb s H h Jl hi Hl FF=> ?_)
  obtain ⟨Fo,Fk⟩:=x;try dsimp only at hi
  obtain ⟨v6,GP,rfl,hS⟩:=hi;simp only [MK] at h;refine BC fun Ii Gh=> ?_;refine BC fun HB FX=> ?_;refine B1 gC ?_;try simp only [W,Fe,Nat.reduceAdd]
  refine BJ FX ?_;refine BH ?_;simp only [W];refine B0 h (fun hc h=> ?_) (fun hc h=> ?_)
  ·refine BE ?_;refine BJ Gh ?_;refine BC fun H8 Gn=> ?_;refine BD fun H7 Gg=> ?_;refine B1 gC ?_;try simp only [W,Nat.reduceAdd]
   refine Ct (el:=([Fk]:List Int).map (AV.int .i64)) hS rfl rfl rfl rfl rfl rfl rfl fun Wx H Rk hS=> ?_;try simp only [W,Fe]
   refine CM (l:=Fo) (c:=(AV.int .i64)) 1 hS rfl GP rfl rfl rfl (hS.gZ 0 rfl Rk) (fun _=>rfl) rfl h fun Ps H OD KY hm h hS=> ?_;try simp only [W]
   refine BN Gg ?_;refine BJ Gn ?_;refine B1 gC ?_;try simp only [W,Fe,Nat.reduceAdd]
   exact Cw FF h ⟨_,KY,rfl,(hS.C2 3 [1,2] (by decide))⟩
  ·refine BG ?_;refine BL Gh ?_;try obtain rfl:=Option.some.inj h
   obtain rfl:=Jl _ rfl;have h:(some (Fo):Option ((List Int)))=some (Fo):=rfl;refine Cx FF ?_;refine BP FP ?_;exact CA F2 ⟨_,(Option.some.inj h).symm,_,GP,rfl,hS⟩
 ·obtain ⟨Fq,Fl,v10,GK,rfl,hS⟩:=hq;obtain rfl:=Fl.symm;replace h:=Jk;try dsimp only at h
  refine BJ Fw ?_;refine BC fun KZ HC=> ?_;refine BC fun K_ HD=> ?_;refine B1 gC ?_;try simp only [W,Nat.reduceAdd]
  refine Cu h fun Ja Pt h=> ?_;obtain ⟨I9,I_⟩:=Ja;try dsimp only at h
  refine HZ Pt (hS.C2 2 [1,0] (by decide)) fun H hS=> ?_
  try simp only [W]
  refine BJ HD ?_;obtain ⟨Nc,Nd,Nf⟩:=Option.bind_eq_some_iff.1 h;refine Cz gC (fun s H=> ∃GC:List Int,∃F5:List Int,∃GD:Int,∃Hv:Int,Nc=(GC,F5,GD,Hv)∧s=(.ptr i0 w0 0 0:: .int .i64 a1::u::u::u::v10::u::u::u::u::u::u::u::u::u::u::u::u::u::u::u::u::u::u::u::u::u::u::u::u::u::u::u::u::u::u::u::u::u::u::u::u::u::u::u::u::u::u::u::u::u::u::u::u::u::u::u::u::u::u::u::u::u::u::u::[])∧ap H (⟨v10,1,GC.map (AV.int .i64)⟩::⟨.ptr i0 w0 0 0,3,[.agg [.fz (F5.map (AV.int .u8)),.int .i64 GD,.int .u64 Hv]]⟩::F)) (fun Mg Ij=> ?_) (fun s H hq=> ?_)
  ·refine BD fun Pk KW=> ?_;refine Cv gC Nd (fun x s H=>match x with|(F8,Ha,IE,F0,F3)=>s=(.ptr i0 w0 0 0:: .int .i64 a1::u::u::u::v10::u:: .int .i64 Ha::u::u::u::u::u::u::u::u::u::u::u::u::u::u::u::u::u::u::u::u::u::u::u::u::u::u::u::u::u::u::u::u::u::u::u::u::u::u::u::u::u::u::u::u::u::u::u::u::u::u::u::u::u::u::u::u::u::[])∧ap H (⟨v10,1,F8.map (AV.int .i64)⟩::⟨.ptr i0 w0 0 0,3,[.agg [.fz (IE.map (AV.int .u8)),.int .i64 F0,.int .u64 F3]]⟩::F)) ⟨rfl,(hS.C2 2 [1,0] (by decide))⟩ (fun x Rl s H h Ng hi Rm La=> ?_)
   obtain ⟨F8,Ha,IE,F0,F3⟩:=x;try dsimp only at hi
   obtain ⟨rfl,hS⟩:=hi;simp only [ML] at h;refine BC fun Lb HO=> ?_;refine BC fun Rn Mj=> ?_;obtain ⟨Ro,h,Rp⟩:=Option.bind_eq_some_iff.1 h;refine Cz gC (fun s H=> ∃Kc:Bool,Ro=(Kc)∧s=(.ptr i0 w0 0 0:: .int .i64 a1::u::u::u::v10::u:: .int .i64 Ha::u::u::u::u::u::u::u::u::u::u::u::u::u::u::u::u::u::u::u:: .bool Kc::u::u::u::u::u::u::u::u::u::u::u::u::u::u::u::u::u::u::u::u::u::u::u::u::u::u::u::u::u::u::u::u::u::u::u::u::u::[])∧ap H (⟨v10,1,F8.map (AV.int .i64)⟩::⟨.ptr i0 w0 0 0,3,[.agg [.fz (IE.map (AV.int .u8)),.int .i64 F0,.int .u64 F3]]⟩::F)) (fun Nh IP=> ?_) (fun s H hq=> ?_)
   ·refine BC fun Pu JT=> ?_;refine B1 gC ?_;try simp only [W,Fe,Nat.reduceAdd]
    refine C8 h (fun hc h=> ?_) (fun hc h=> ?_)
    ·try simp only [W,Fe,reduceIte,hc]
     refine BJ JT ?_;refine EB (s' :=(.ptr i0 w0 0 0:: .int .i64 a1::u::u::u::v10::u:: .int .i64 Ha::u::u::u::u::u::u::u::u::u::u::u::u::u::u::u::u::u::u::u:: .bool (decide (1<a1))::u::u::u::u::u::u::u::u::u::u::u::u::u::u::u::u::u::u::u::u::u::u::u::u::u::u::u::u::u::u::u::u::u::u::u::u::u::[])) rfl ?_
     exact CA IP ⟨_,(Option.some.inj h).symm,rfl,hS⟩
    ·try simp only [W,hc]
     refine BJ JT ?_;refine EB (s' :=(.ptr i0 w0 0 0:: .int .i64 a1::u::u::u::v10::u:: .int .i64 Ha::u::u::u::u::u::u::u::u::u::u::u::u::u::u::u::u::u::u::u:: .bool false::u::u::u::u::u::u::u::u::u::u::u::u::u::u::u::u::u::u::u::u::u::u::u::u::u::u::u::u::u::u::u::u::u::u::u::u::u::[])) rfl ?_
     exact CA IP ⟨_,(Option.some.inj h).symm,rfl,hS⟩
   ·obtain ⟨Kc,Fl,rfl,hS⟩:=hq;obtain rfl:=Fl.symm;replace h:=Rp;try dsimp only at h
    refine BJ Mj ?_;refine BH ?_;simp only [W];refine B0 h (fun hc h=> ?_) (fun hc h=> ?_)
    ·refine BE ?_;refine BJ HO ?_;refine BC fun Ni Im=> ?_;refine BD fun Pv Jm=> ?_;refine BC fun Mh Ik=> ?_;refine B1 gC ?_;try simp only [W,Nat.reduceAdd]
     refine Cu h fun Lc Nj h=> ?_;obtain ⟨GZ,Kd⟩:=Lc;try dsimp only at h
     refine HZ Nj (hS.C2 2 [1,0] (by decide)) fun H hS=> ?_
     try simp only [W]
     refine BJ Ik ?_;refine BC fun Mk Io=> ?_;refine B1 gC ?_;try simp only [W,Nat.reduceAdd]
     refine Cu h fun Rq Rr h=> ?_;obtain ⟨LG,LH⟩:=Rq;try dsimp only at h
     refine HZ Rr hS fun H hS=> ?_;try simp only [W]
     refine BJ Io ?_;refine BC fun Pn HM=> ?_;refine B1 gC ?_;try simp only [W,Fe,Nat.reduceAdd]
     refine Cp 1 hS rfl rfl rfl rfl rfl h (fun LI Wy Wz WA Rs h Rt=> ?_) GK.ne;obtain ⟨WB,Ru,Rv⟩:=hS.elem 1 rfl Rt Rs;try simp only [W,Fe,Ru,Rv]
     refine BJ HM ?_;refine BC fun Nk Ip=> ?_;refine B1 gC ?_;try simp only [W,Fe,Nat.reduceAdd]
     refine Cp 1 hS rfl rfl rfl rfl rfl h (fun HV WC WD WE Rw h Rx=> ?_) GK.ne;obtain ⟨WG,Ry,Rz⟩:=hS.elem 1 rfl Rx Rw;try simp only [W,Fe,Ry,Rz]
     refine Cp 1 hS rfl rfl rfl rfl rfl h (fun WH WI WJ WK Pw h Px=> ?_) GK.ne;obtain ⟨WL,WM,WN⟩:=hS.elem 1 rfl Px Pw;try simp only [W]
     refine Cq (a:= .int .i64 HV) (y' :=HV) 1 hS rfl Px Pw rfl rfl rfl rfl rfl rfl rfl fun H hS=> ?_
     try simp only [W]
     refine BJ Ip ?_;refine B1 gC ?_;try simp only [W,Fe,Nat.reduceAdd]
     refine Cp 1 hS rfl rfl rfl rfl rfl h (fun WO WQ WR WS Py h Pz=> ?_) GK.ne;obtain ⟨WT,WU,WV⟩:=hS.elem 1 rfl Pz Py;try simp only [W]
     refine Cq (a:= .int .i64 LI) (y' :=LI) 1 hS rfl Pz Py rfl rfl rfl rfl rfl rfl rfl fun H hS=> ?_
     try simp only [W]
     refine BN Jm ?_;refine BJ Im ?_;refine B1 gC ?_;try simp only [W,Fe,Nat.reduceAdd]
     exact Cw La h ⟨rfl,(hS.C2 2 [1,0] (by decide))⟩
    ·refine BG ?_;refine BL HO ?_;try obtain rfl:=Option.some.inj h
     obtain rfl:=Ng _ rfl;have h:(some (F8,IE,F0,F3):Option ((List Int)×(List Int)×Int×Int))=some (F8,IE,F0,F3):=rfl;refine Cx La ?_;refine BP KW ?_;exact CA Ij ⟨_,_,_,_,(Option.some.inj h).symm,rfl,hS⟩
  ·obtain ⟨GC,F5,GD,Hv,rfl,rfl,hS⟩:=hq;replace h:=Nf;try dsimp only at h
   refine BJ HC ?_;refine BC fun M_ Il=> ?_;refine BC fun RA Nl=> ?_;obtain ⟨Ld,h,Le⟩:=Option.bind_eq_some_iff.1 h;refine Cz gC (fun s H=> ∃Kf:Bool,∃JD:List Int,∃JE:Int,∃GF:Int,Ld=(Kf,JD,JE,GF)∧s=(.ptr i0 w0 0 0:: .int .i64 a1::u::u::u::v10::u::u::u::u::u::u::u::u::u::u::u::u::u::u::u::u::u::u::u::u::u::u::u::u::u::u::u::u::u::u::u::u::u::u::u::u::u::u::u::u::u::u::u::u::u::u::u::u::u::u:: .bool Kf::u::u::u::u::u::u::u::u::[])∧ap H (⟨v10,1,GC.map (AV.int .i64)⟩::⟨.ptr i0 w0 0 0,3,[.agg [.fz (JD.map (AV.int .u8)),.int .i64 JE,.int .u64 GF]]⟩::F)) (fun PA IQ=> ?_) (fun s H hq=> ?_)
   ·refine BC fun Nm HP=> ?_;refine B1 gC ?_;try simp only [W,Fe,Nat.reduceAdd]
    refine C8 h (fun hc h=> ?_) (fun hc h=> ?_)
    ·try simp only [W,hc]
     refine Cu h fun JC RB h=> ?_;obtain ⟨LJ,LK⟩:=JC;try dsimp only at h
     refine MV RB (hS.C2 2 [1,0] (by decide)) fun H hS=> ?_
     try simp only [W,reduceIte]
     refine BJ HP ?_;refine EB (s' :=(.ptr i0 w0 0 0:: .int .i64 a1::u::u::u::v10::u::u::u::u::u::u::u::u::u::u::u::u::u::u::u::u::u::u::u::u::u::u::u::u::u::u::u::u::u::u::u::u::u::u::u::u::u::u::u::u::u::u::u::u::u::u::u::u::u::u:: .bool LJ::u::u::u::u::u::u::u::u::[])) rfl ?_
     exact CA IQ ⟨_,_,_,_,(Option.some.inj h).symm,rfl,(hS.C2 2 [1,0] (by decide))⟩
    ·try simp only [W,hc]
     refine BJ HP ?_;refine EB (s' :=(.ptr i0 w0 0 0:: .int .i64 a1::u::u::u::v10::u::u::u::u::u::u::u::u::u::u::u::u::u::u::u::u::u::u::u::u::u::u::u::u::u::u::u::u::u::u::u::u::u::u::u::u::u::u::u::u::u::u::u::u::u::u::u::u::u::u:: .bool false::u::u::u::u::u::u::u::u::[])) rfl ?_
     exact CA IQ ⟨_,_,_,_,(Option.some.inj h).symm,rfl,hS⟩
   ·obtain ⟨Kf,JD,JE,GF,rfl,rfl,hS⟩:=hq;replace h:=Le;try dsimp only at h
    refine BJ Nl ?_;obtain ⟨RC,h,RD⟩:=Option.bind_eq_some_iff.1 h;refine Cz gC (fun s H=> ∃Kg:List Int,∃Kh:List Int,∃Ki:Int,∃Kj:Int,RC=(Kg,Kh,Ki,Kj)∧s=(u::u::u::u::u::v10::u::u::u::u::u::u::u::u::u::u::u::u::u::u::u::u::u::u::u::u::u::u::u::u::u::u::u::u::u::u::u::u::u::u::u::u::u::u::u::u::u::u::u::u::u::u::u::u::u::u::u::u::u::u::u::u::u::u::u::[])∧ap H (⟨v10,1,Kg.map (AV.int .i64)⟩::⟨.ptr i0 w0 0 0,3,[.agg [.fz (Kh.map (AV.int .u8)),.int .i64 Ki,.int .u64 Kj]]⟩::F)) (fun WW PB=> ?_) (fun s H hq=> ?_)
    ·refine BC fun WX PC=> ?_;refine BH ?_;simp only [W];refine B0 h (fun hc h=> ?_) (fun hc h=> ?_)
     ·refine B1 gC ?_;try simp only [W,Fe,Nat.reduceAdd]
      refine Cu h fun RE RF h=> ?_;obtain ⟨LL,LM⟩:=RE;try dsimp only at h
      refine HZ RF (hS.C2 2 [1,0] (by decide)) fun H hS=> ?_
      try simp only [W,Fe]
      refine Cp 1 hS rfl rfl rfl rfl rfl h (fun MP WY WZ W0 Ml h PD=> ?_) GK.ne;obtain ⟨W1,W2,W3⟩:=hS.elem 1 rfl PD Ml;try simp only [W]
      refine Cq (a:= .int .i64 (IntKind.i64.wrap (LL-1))) (y' :=(IntKind.i64.wrap (LL-1))) 1 hS rfl PD Ml rfl rfl rfl rfl rfl rfl rfl fun H hS=> ?_
      try simp only [W]
      refine BJ PC ?_;refine EB (s' :=(u::u::u::u::u::v10::u::u::u::u::u::u::u::u::u::u::u::u::u::u::u::u::u::u::u::u::u::u::u::u::u::u::u::u::u::u::u::u::u::u::u::u::u::u::u::u::u::u::u::u::u::u::u::u::u::u::u::u::u::u::u::u::u::u::u::[])) rfl ?_
      exact CA PB ⟨_,_,_,_,(Option.some.inj h).symm,rfl,(hS.C2 2 [1,0] (by decide))⟩
     ·refine BE ?_;refine BJ PC ?_;refine EB (s' :=(u::u::u::u::u::v10::u::u::u::u::u::u::u::u::u::u::u::u::u::u::u::u::u::u::u::u::u::u::u::u::u::u::u::u::u::u::u::u::u::u::u::u::u::u::u::u::u::u::u::u::u::u::u::u::u::u::u::u::u::u::u::u::u::u::u::[])) rfl ?_
      exact CA PB ⟨_,_,_,_,(Option.some.inj h).symm,rfl,hS⟩
    ·obtain ⟨Kg,Kh,Ki,Kj,rfl,rfl,hS⟩:=hq;replace h:=RD;try dsimp only at h
     refine BJ Il ?_;refine BC fun W4 RG=> ?_;refine B1 gC ?_;try simp only [W,Nat.reduceAdd]
     refine BJ RG ?_;refine BF ?_;refine BU Ff rfl ?_;try obtain rfl:=Option.some.inj h
     exact hP _ GK _ hS
theorem RH {a0:List Int} {r:(List Task×List Int)} (h:Kk a0=some r) {F:List It} {H:J} (hS:ap H (F)) {P:AV→J→Prop} (hP: ∀Iq:AV,aJ Iq→ ∀IS:AV,aJ IS→ ∀H',ap H' (⟨Iq,2,r.1.map Fg⟩::⟨IS,1,r.2.map (AV.int .i64)⟩::F)→P (.aA [Iq,IS]) H'):aw C 39 [.fz (a0.map (AV.int .u8))] H P:=by
 refine B4 gC (res:=[.tmp 2,.tmp 3]) (n:=16) rfl rfl rfl rfl fun K0 Ff=> ?_;simp only [W,Nat.reduceSub,Nat.reduceAdd,List.replicate];unfold Kk at h;refine BC fun K1 Fh=> ?_;refine B1 gC ?_;try simp only [W,Nat.reduceAdd]
 refine BJ Fh ?_;refine BC fun K2 zF=> ?_;refine B1 gC ?_;try simp only [W,Fe,Nat.reduceAdd]
 refine C_ rfl rfl rfl rfl rfl ?_;try simp only [W]
 refine Ch hS rfl rfl rfl rfl fun W5 W6 H hS=> ?_;try simp only [W]
 refine BJ zF ?_;refine BC fun K5 FQ=> ?_;refine B1 gC ?_;try simp only [W,Nat.reduceAdd]
 refine Cu h fun FJ H4 h=> ?_;obtain ⟨Fm,Gl⟩:=FJ;try dsimp only at h
 refine Q2 H4 hS fun GQ G5 H hS=> ?_;try simp only [W]
 refine BJ FQ ?_;refine BC fun JQ G4=> ?_;refine B1 gC ?_;try simp only [W,Fe,Nat.reduceAdd]
 refine uE 0 hS rfl G5 rfl ?_;try simp only [W]
 refine Cu h fun RI RJ h=> ?_;obtain ⟨Kl,Mm⟩:=RI;try dsimp only at h
 refine Rj RJ (hS.C2 2 [1,0] (by decide)) fun RK Mn H hS=> ?_
 try simp only [W]
 refine BJ G4 ?_;refine BF ?_;refine BV Ff rfl rfl ?_;try obtain rfl:=Option.some.inj h
 exact hP _ G5 _ Mn _ (hS.C2 3 [2,0] (by decide))
theorem RL {a0:List Int} {r:(List Task×List Int)} (h:Km a0=some r) {F:List It} {H:J} (hS:ap H (F)) {P:AV→J→Prop} (hP: ∀v10:AV,aJ v10→ ∀Gd:AV,aJ Gd→ ∀H',ap H' (⟨v10,2,r.1.map Fg⟩::⟨Gd,1,r.2.map (AV.int .i64)⟩::F)→P (.aA [v10,Gd]) H'):aw C 59 [.fz (a0.map (AV.int .u8))] H P:=by
 refine B4 gC (res:=[.tmp 2,.tmp 3]) (n:=8) rfl rfl rfl rfl fun K0 Ff=> ?_;simp only [W,Nat.reduceSub,Nat.reduceAdd,List.replicate];unfold Km at h;refine BC fun K1 Fh=> ?_;refine B1 gC ?_;try simp only [W,Nat.reduceAdd]
 refine BJ Fh ?_;refine BC fun K2 zF=> ?_;refine B1 gC ?_;try simp only [W,Nat.reduceAdd]
 refine Cu h fun b3 kV h=> ?_;obtain ⟨FM,Fy⟩:=b3;try dsimp only at h
 refine RH kV hS fun v6 GP FA Jn H hS=> ?_;try simp only [W]
 refine BJ zF ?_;refine BF ?_;refine BV Ff rfl rfl ?_;try obtain rfl:=Option.some.inj h
 exact hP _ GP _ Jn _ hS
theorem RM {a0:List Task} {g1:Task→Option Bool} {f1:FuncId} {c1:List AV} {r:(Int)} (h:Kn a0 g1=some r) {F:List It} {H:J} (cP: ∀{x0:Task} {r:Bool},g1 x0=some r→ ∀(L:List It) (n:Nat),L.drop n=F→ ∀(H:J),ap H L→ ∀(P:AV→J→Prop),(∀H',ap H' L→P (.bool r) H')→aw C f1 ([.agg [.int .i64 x0.Fi,.int .i64 x0.End]] ++ c1) H P) (hS:ap H (F)) {P:AV→J→Prop} (hP: ∀H',ap H' (F)→P (.int .i64 r) H'):aw C 295 [.fz (a0.map Fg),.fn f1 c1] H P:=by
 refine B4 gC (res:=[.tmp 4]) (n:=19) rfl rfl rfl rfl fun K0 Ff=> ?_;simp only [W,Nat.reduceSub,Nat.reduceAdd,List.replicate];unfold Kn at h;refine BC fun K1 Fh=> ?_;refine B1 gC ?_;try simp only [W,Nat.reduceAdd]
 refine BJ Fh ?_;refine BC fun K2 zF=> ?_;refine BC fun K3 Fw=> ?_;refine B1 gC ?_;try simp only [W,Fe,Nat.reduceAdd]
 refine BJ Fw ?_;obtain ⟨Ho,HQ,GR⟩:=Option.bind_eq_some_iff.1 h;refine Cz gC (fun s H=>Ho=LR.next ()∧s=[u,u,u,u,u,u,u,u,u,u,u,u,u,u,u,u,u,u,u]∧ap H (F)) (fun K7 FW=> ?_) (fun s H hq=> ?_)
 ·refine BD fun K8 F1=> ?_;refine Cv gC HQ (fun x s H=>s=[.fz (a0.map Fg),.fn f1 c1,u,u,u,u,u,.int .i64 (a0.length:Int),.int .i64 x,u,u,u,u,u,u,u,u,u,u]∧ap H (F)) ⟨rfl,hS⟩ (fun Fp Hn s H h GS hi K9 FU=> ?_)
  skip
  try dsimp only at hi
  obtain ⟨rfl,hS⟩:=hi;simp only [MN] at h;refine BC fun Hz F2=> ?_;refine B1 gC ?_;try simp only [W,Fe,Nat.reduceAdd]
  refine BJ F2 ?_;refine BC fun HA FP=> ?_;refine BH ?_;simp only [W];refine B0 h (fun hc h=> ?_) (fun hc h=> ?_)
  ·refine BE ?_;refine BJ FP ?_;refine BC fun Hl FF=> ?_;refine BD fun HK FV=> ?_;refine BC fun Hm FL=> ?_;refine B1 gC ?_;try simp only [W,Nat.reduceAdd]
   refine BJ FL ?_;refine BC fun IK Gq=> ?_;refine B1 gC ?_;try simp only [W,Fe,Nat.reduceAdd]
   refine Co rfl rfl rfl (fun _=>rfl) h fun Hh KU h=> ?_;try simp only [W,Fe,Ga,reduceIte,Nat.reduceAdd,Nat.reduceLeDiff]
   refine Cu h fun HT MZ h=> ?_;refine cP MZ _ 0 rfl _ hS _ fun H hS=> ?_;try simp only [W]
   refine BJ Gq ?_;refine BH ?_;simp only [W];refine B0 h (fun hc h=> ?_) (fun hc h=> ?_)
   ·refine BC fun H8 Gn=> ?_;refine B1 gC ?_;try simp only [W,Nat.reduceAdd]
    refine BJ Gn ?_;refine BF ?_;refine BR FV ?_;refine BK FF ?_;try obtain rfl:=Option.some.inj h
    obtain rfl:=GS _ rfl;have h:(some (LR.done Fp):Option (LR Unit (Int)))=some (LR.done Fp):=rfl;refine Cy FU ?_;refine BR F1 ?_;try obtain rfl:=Option.some.inj h
    obtain rfl:=Option.some.inj GR;have h:(some Fp:Option (Int))=some Fp:=rfl;refine CC FW ?_;refine BK zF ?_;refine BU Ff rfl ?_;try obtain rfl:=Option.some.inj h
    exact hP _ hS
   ·refine BE ?_;refine BN FV ?_;refine BJ FF ?_;refine B1 gC ?_;try simp only [W,Fe,Nat.reduceAdd]
    exact Cw FU h ⟨rfl,hS⟩
  ·refine BG ?_;refine BL FP ?_;try obtain rfl:=Option.some.inj h
   obtain rfl:=GS _ rfl;have h:(some (LR.next ()):Option (LR Unit (Int)))=some (LR.next ()):=rfl
   refine Cx FU ?_;refine BP F1 ?_;exact CA FW ⟨(Option.some.inj h).symm,rfl,hS⟩
 ·obtain ⟨rfl,rfl,hS⟩:=hq;replace h:=GR;try dsimp only at h
  refine BJ zF ?_;refine BC fun Nn Jo=> ?_;refine B1 gC ?_;try simp only [W,Nat.reduceAdd]
  refine BJ Jo ?_;refine BF ?_;refine BU Ff rfl ?_;try obtain rfl:=Option.some.inj h
  exact hP _ hS
theorem RN {a0:List Task} {g1:Task→Option Bool} {f1:FuncId} {c1:List AV} {r:(Bool)} (h:Ko a0 g1=some r) {F:List It} {H:J} (cP: ∀{x0:Task} {r:Bool},g1 x0=some r→ ∀(L:List It) (n:Nat),L.drop n=F→ ∀(H:J),ap H L→ ∀(P:AV→J→Prop),(∀H',ap H' L→P (.bool r) H')→aw C f1 ([.agg [.int .i64 x0.Fi,.int .i64 x0.End]] ++ c1) H P) (hS:ap H (F)) {P:AV→J→Prop} (hP: ∀H',ap H' (F)→P (.bool r) H'):aw C 205 [.fz (a0.map Fg),.fn f1 c1] H P:=by
 refine B4 gC (res:=[.tmp 4]) (n:=9) rfl rfl rfl rfl fun K0 Ff=> ?_;simp only [W,Nat.reduceSub,Nat.reduceAdd,List.replicate];unfold Ko at h;refine BC fun K1 Fh=> ?_;refine B1 gC ?_;try simp only [W,Nat.reduceAdd]
 refine BJ Fh ?_;refine BC fun K2 zF=> ?_;refine B1 gC ?_;try simp only [W,Nat.reduceAdd]
 refine Cu h fun b3 kV h=> ?_;refine RM kV cP hS fun H hS=> ?_;try simp only [W,Fe]
 refine BJ zF ?_;refine BF ?_;refine BU Ff rfl ?_;try obtain rfl:=Option.some.inj h
 exact hP _ hS
theorem PE {a0:Int} {a1:Int} {a2:Int} {r:(Bool)} (h:JF a0 a1 a2=some r) {F:List It} {H:J} (hS:ap H (F)) {P:AV→J→Prop} (hP: ∀H',ap H' (F)→P (.bool r) H'):aw C 157 [.int .i64 a0,.int .i64 a1,.int .i64 a2] H P:=by
 refine B4 gC (res:=[.tmp 6]) (n:=15) rfl rfl rfl rfl fun K0 Ff=> ?_;simp only [W,Nat.reduceSub,Nat.reduceAdd,List.replicate];unfold JF at h;refine BC fun K1 Fh=> ?_;refine B1 gC ?_;try simp only [W,Nat.reduceAdd]
 refine BJ Fh ?_;refine BC fun K2 zF=> ?_;refine B1 gC ?_;try simp only [W,Fe,Nat.reduceAdd]
 refine C8 h (fun hc h=> ?_) (fun hc h=> ?_)
 ·try simp only [W,Fe,reduceIte,hc]
  refine BJ zF ?_;refine BF ?_;refine BU Ff rfl ?_;try obtain rfl:=Option.some.inj h
  exact hP _ hS
 ·try simp only [W,hc]
  refine BJ zF ?_;refine BF ?_;refine BU Ff rfl ?_;try obtain rfl:=Option.some.inj h
  exact hP _ hS
theorem RO {a0:Task} {r:(Bool)} (h:LN a0=some r) {F:List It} {H:J} (hS:ap H (F)) {P:AV→J→Prop} (hP: ∀H',ap H' (F)→P (.bool r) H'):aw C 206 [.agg [.int .i64 a0.Fi,.int .i64 a0.End]] H P:=by
 refine B4 gC (res:=[.tmp 2]) (n:=13) rfl rfl rfl rfl fun K0 Ff=> ?_;simp only [W,Nat.reduceSub,Nat.reduceAdd,List.replicate];unfold LN at h;refine BC fun K1 Fh=> ?_;refine B1 gC ?_;try simp only [W,Nat.reduceAdd]
 refine Ch hS rfl rfl rfl rfl fun Lf Lg H hS=> ?_;try simp only [W]
 refine BJ Fh ?_;refine BC fun K4 F6=> ?_;refine B1 gC ?_;try simp only [W,Fe,Nat.reduceAdd,Nat.reduceBEq,hS.var 0 rfl]
 refine Cu h fun Fy Lh h=> ?_;refine PE Lh hS fun H hS=> ?_;try simp only [W]
 refine C8 h (fun hc h=> ?_) (fun hc h=> ?_)
 ·try simp only [W,hc]
  refine BJ F6 ?_;refine BF ?_;refine BU Ff rfl ?_;try obtain rfl:=Option.some.inj h
  exact hP _ (hS.C2 1 [] (by decide))
 ·try simp only [W,Fe,Nat.reduceAdd,Nat.reduceBEq,hS.var 0 rfl,hc]
  refine Cu h fun FJ H4 h=> ?_;refine PE H4 hS fun H hS=> ?_;try simp only [W,reduceIte,Bool.false_eq_true]
  refine BJ F6 ?_;refine BF ?_;refine BU Ff rfl ?_;try obtain rfl:=Option.some.inj h
  exact hP _ (hS.C2 1 [] (by decide))
theorem Mo {a0:List Task} {r:(Bool)} (h:IF a0=some r) {F:List It} {H:J} (hS:ap H (F)) {P:AV→J→Prop} (hP: ∀H',ap H' (F)→P (.bool r) H'):aw C 66 [.fz (a0.map Fg)] H P:=by
 refine B4 gC (res:=[.tmp 2]) (n:=11) rfl rfl rfl rfl fun K0 Ff=> ?_;simp only [W,Nat.reduceSub,Nat.reduceAdd,List.replicate];unfold IF at h;refine BC fun K1 Fh=> ?_;refine B1 gC ?_;try simp only [W,Nat.reduceAdd]
 refine BJ Fh ?_;refine BC fun K2 zF=> ?_;refine B1 gC ?_;try simp only [W,Fe,Nat.reduceAdd]
 refine C8 h (fun hc h=> ?_) (fun hc h=> ?_)
 ·try simp only [W,hc]
  refine Cu h fun b3 kV h=> ?_;refine RN kV (fun h _ n hL _ hS _ hP=>RO h hS hP) hS fun H hS=> ?_;try simp only [W,reduceIte]
  refine BJ zF ?_;refine BF ?_;refine BU Ff rfl ?_;try obtain rfl:=Option.some.inj h
  exact hP _ hS
 ·try simp only [W,hc]
  refine BJ zF ?_;refine BF ?_;refine BU Ff rfl ?_;try obtain rfl:=Option.some.inj h
  exact hP _ hS
theorem RP {a0:List Int} {a1:Int} {r:(Int)} (h:LP a0 a1=some r) {F:List It} {H:J} (hS:ap H (F)) {P:AV→J→Prop} (hP: ∀H',ap H' (F)→P (.int .i64 r) H'):aw C 291 [.fz (a0.map (AV.int .i64)),.int .i64 a1] H P:=by
 refine B4 gC (res:=[.tmp 4]) (n:=19) rfl rfl rfl rfl fun K0 Ff=> ?_;simp only [W,Nat.reduceSub,Nat.reduceAdd,List.replicate];unfold LP at h;refine BC fun K1 Fh=> ?_;refine B1 gC ?_;try simp only [W,Nat.reduceAdd]
 refine BJ Fh ?_;refine BC fun K2 zF=> ?_;refine BC fun K3 Fw=> ?_;refine B1 gC ?_;try simp only [W,Fe,Nat.reduceAdd]
 refine BJ Fw ?_;obtain ⟨Ho,HQ,GR⟩:=Option.bind_eq_some_iff.1 h;refine Cz gC (fun s H=>Ho=LR.next ()∧s=[u,u,u,u,u,u,u,u,u,u,u,u,u,u,u,u,u,u,u]∧ap H (F)) (fun K7 FW=> ?_) (fun s H hq=> ?_)
 ·refine BD fun K8 F1=> ?_;refine Cv gC HQ (fun x s H=>s=[.fz (a0.map (AV.int .i64)),.int .i64 a1,u,u,u,u,u,.int .i64 (a0.length:Int),.int .i64 x,u,u,u,u,u,u,u,u,u,u]∧ap H (F)) ⟨rfl,hS⟩ (fun Fp Hn s H h GS hi K9 FU=> ?_)
  skip
  try dsimp only at hi
  obtain ⟨rfl,hS⟩:=hi;simp only [LO] at h;refine BC fun Hz F2=> ?_;refine B1 gC ?_;try simp only [W,Fe,Nat.reduceAdd]
  refine BJ F2 ?_;refine BC fun HA FP=> ?_;refine BH ?_;simp only [W];refine B0 h (fun hc h=> ?_) (fun hc h=> ?_)
  ·refine BE ?_;refine BJ FP ?_;refine BC fun Hl FF=> ?_;refine BD fun HK FV=> ?_;refine BC fun Hm FL=> ?_;refine B1 gC ?_;try simp only [W,Nat.reduceAdd]
   refine BJ FL ?_;refine BC fun IK Gq=> ?_;refine B1 gC ?_;try simp only [W,Fe,Nat.reduceAdd]
   refine Co rfl rfl rfl (fun _=>rfl) h fun Hh KU h=> ?_;try simp only [W,Fe]
   refine BJ Gq ?_;refine BH ?_;simp only [W];refine B0 h (fun hc h=> ?_) (fun hc h=> ?_)
   ·refine BC fun HB FX=> ?_;refine B1 gC ?_;try simp only [W,Nat.reduceAdd]
    refine BJ FX ?_;refine BF ?_;refine BR FV ?_;refine BK FF ?_;try obtain rfl:=Option.some.inj h
    obtain rfl:=GS _ rfl;have h:(some (LR.done Fp):Option (LR Unit (Int)))=some (LR.done Fp):=rfl;refine Cy FU ?_;refine BR F1 ?_;try obtain rfl:=Option.some.inj h
    obtain rfl:=Option.some.inj GR;have h:(some Fp:Option (Int))=some Fp:=rfl;refine CC FW ?_;refine BK zF ?_;refine BU Ff rfl ?_;try obtain rfl:=Option.some.inj h
    exact hP _ hS
   ·refine BE ?_;refine BN FV ?_;refine BJ FF ?_;refine B1 gC ?_;try simp only [W,Fe,Nat.reduceAdd]
    exact Cw FU h ⟨rfl,hS⟩
  ·refine BG ?_;refine BL FP ?_;try obtain rfl:=Option.some.inj h
   obtain rfl:=GS _ rfl;have h:(some (LR.next ()):Option (LR Unit (Int)))=some (LR.next ()):=rfl
   refine Cx FU ?_;refine BP F1 ?_;exact CA FW ⟨(Option.some.inj h).symm,rfl,hS⟩
 ·obtain ⟨rfl,rfl,hS⟩:=hq;replace h:=GR;try dsimp only at h
  refine BJ zF ?_;refine BC fun Jp GU=> ?_;refine B1 gC ?_;try simp only [W,Nat.reduceAdd]
  refine BJ GU ?_;refine BF ?_;refine BU Ff rfl ?_;try obtain rfl:=Option.some.inj h
  exact hP _ hS
theorem RQ {a0:List Int} {a1:Int} {r:(Bool)} (h:Kp a0 a1=some r) {F:List It} {H:J} (hS:ap H (F)) {P:AV→J→Prop} (hP: ∀H',ap H' (F)→P (.bool r) H'):aw C 290 [.fz (a0.map (AV.int .i64)),.int .i64 a1] H P:=by
 refine B4 gC (res:=[.tmp 4]) (n:=9) rfl rfl rfl rfl fun K0 Ff=> ?_;simp only [W,Nat.reduceSub,Nat.reduceAdd,List.replicate];unfold Kp at h;refine BC fun K1 Fh=> ?_;refine B1 gC ?_;try simp only [W,Nat.reduceAdd]
 refine BJ Fh ?_;refine BC fun K2 zF=> ?_;refine B1 gC ?_;try simp only [W,Nat.reduceAdd]
 refine Cu h fun b3 kV h=> ?_;refine RP kV hS fun H hS=> ?_;try simp only [W,Fe]
 refine BJ zF ?_;refine BF ?_;refine BU Ff rfl ?_;try obtain rfl:=Option.some.inj h
 exact hP _ hS
theorem RR {a0:List Int} {a1:Int} {r:(Bool)} (h:Kq a0 a1=some r) {F:List It} {H:J} (hS:ap H (F)) {P:AV→J→Prop} (hP: ∀H',ap H' (F)→P (.bool r) H'):aw C 185 [.fz (a0.map (AV.int .i64)),.int .i64 a1] H P:=by
 refine B4 gC (res:=[.tmp 4]) (n:=19) rfl rfl rfl rfl fun K0 Ff=> ?_;simp only [W,Nat.reduceSub,Nat.reduceAdd,List.replicate];unfold Kq at h;refine BC fun K1 Fh=> ?_;refine B1 gC ?_;try simp only [W,Nat.reduceAdd]
 refine BJ Fh ?_;refine BC fun K2 zF=> ?_;refine BC fun K3 Fw=> ?_;refine B1 gC ?_;try simp only [W,Nat.reduceAdd]
 refine BJ Fw ?_;obtain ⟨Ho,HQ,GR⟩:=Option.bind_eq_some_iff.1 h;refine Cz gC (fun s H=>Ho=LR.next ()∧s=[.fz (a0.map (AV.int .i64)),.int .i64 a1,u,u,u,u,u,u,u,u,u,u,u,u,u,u,u,u,u]∧ap H (F)) (fun K7 FW=> ?_) (fun s H hq=> ?_)
 ·refine BD fun K8 F1=> ?_;refine Cv gC HQ (fun x s H=>s=[.fz (a0.map (AV.int .i64)),.int .i64 a1,u,u,u,u,.int .i64 a1,.int .i64 x,u,u,u,u,u,u,u,u,u,u,u]∧ap H (F)) ⟨rfl,hS⟩ (fun Fp Hn s H h GS hi K9 FU=> ?_)
  skip
  try dsimp only at hi
  obtain ⟨rfl,hS⟩:=hi;simp only [LQ] at h;refine BC fun Hz F2=> ?_;refine B1 gC ?_;try simp only [W,Fe,Nat.reduceAdd]
  refine BJ F2 ?_;refine BC fun HA FP=> ?_;refine BH ?_;simp only [W];refine B0 h (fun hc h=> ?_) (fun hc h=> ?_)
  ·refine BE ?_;refine BJ FP ?_;refine BC fun Hl FF=> ?_;refine BD fun HK FV=> ?_;refine BC fun Hm FL=> ?_;refine B1 gC ?_;try simp only [W,Nat.reduceAdd]
   refine BJ FL ?_;refine BC fun IK Gq=> ?_;refine B1 gC ?_;try simp only [W,Nat.reduceAdd]
   refine Cu h fun Hh KU h=> ?_;refine RQ KU hS fun H hS=> ?_;try simp only [W]
   refine BJ Gq ?_;refine BH ?_;simp only [W];refine B0 h (fun hc h=> ?_) (fun hc h=> ?_)
   ·refine BC fun HB FX=> ?_;refine B1 gC ?_;try simp only [W,Nat.reduceAdd]
    refine BJ FX ?_;refine BF ?_;refine BR FV ?_;refine BK FF ?_;try obtain rfl:=Option.some.inj h
    obtain rfl:=GS _ rfl;have h:(some (LR.done false):Option (LR Unit (Bool)))=some (LR.done false):=rfl;refine Cy FU ?_;refine BR F1 ?_;try obtain rfl:=Option.some.inj h
    obtain rfl:=Option.some.inj GR;have h:(some false:Option (Bool))=some false:=rfl;refine CC FW ?_;refine BK zF ?_;refine BU Ff rfl ?_;try obtain rfl:=Option.some.inj h
    exact hP _ hS
   ·refine BE ?_;refine BN FV ?_;refine BJ FF ?_;refine B1 gC ?_;try simp only [W,Fe,Nat.reduceAdd]
    exact Cw FU h ⟨rfl,hS⟩
  ·refine BG ?_;refine BL FP ?_;try obtain rfl:=Option.some.inj h
   obtain rfl:=GS _ rfl;have h:(some (LR.next ()):Option (LR Unit (Bool)))=some (LR.next ()):=rfl
   refine Cx FU ?_;refine BP F1 ?_;exact CA FW ⟨(Option.some.inj h).symm,rfl,hS⟩
 ·obtain ⟨rfl,rfl,hS⟩:=hq;replace h:=GR;try dsimp only at h
  refine BJ zF ?_;refine BC fun Jp GU=> ?_;refine B1 gC ?_;try simp only [W,Fe,Nat.reduceAdd]
  refine BJ GU ?_;refine BF ?_;refine BU Ff rfl ?_;try obtain rfl:=Option.some.inj h
  exact hP _ hS
theorem RS {a0:List Task} {a1:List Int} {r:(List Int)} (h:Kr a0 a1=some r) {F:List It} {H:J} (hS:ap H (F)) {P:AV→J→Prop} (hP: ∀IT:AV,aJ IT→ ∀H',ap H' (⟨IT,1,r.map (AV.int .i64)⟩::F)→P (IT) H'):aw C 186 [.fz (a0.map Fg),.fz (a1.map (AV.int .i64))] H P:=by
 refine B4 gC (res:=[.tmp 4]) (n:=31) rfl rfl rfl rfl fun K0 Ff=> ?_;simp only [W,Nat.reduceSub,Nat.reduceAdd,List.replicate];unfold Kr at h;refine BC fun K1 Fh=> ?_;refine B1 gC ?_;try simp only [W,Nat.reduceAdd]
 refine BJ Fh ?_;refine BC fun K2 zF=> ?_;refine B1 gC ?_;try simp only [W,Fe,Nat.reduceAdd]
 refine z9 (c:=(AV.int .i64)) hS rfl rfl rfl rfl rfl rfl h fun v3 H Fo Li hm h hS=> ?_;try simp only [W]
 refine BJ zF ?_;refine BC fun K6 Gi=> ?_;refine BC fun K7 FW=> ?_;refine B1 gC ?_;try simp only [W,Fe,Nat.reduceAdd]
 refine BJ FW ?_;obtain ⟨RT,RU,RV⟩:=Option.bind_eq_some_iff.1 h;refine Cz gC (fun s H=> ∃FC:List Int,RT=(FC)∧s=[u,u,u,u,u,v3,u,u,u,u,u,u,u,u,u,u,u,u,u,u,u,u,u,u,u,u,u,u,u,u,u]∧ap H (⟨v3,1,FC.map (AV.int .i64)⟩::F)) (fun HA FP=> ?_) (fun s H hq=> ?_)
 ·refine BD fun Hl FF=> ?_;refine Cv gC RU (fun x s H=>match x with|(Fk,Fq,FE)=>s=[.fz (a0.map Fg),u,u,u,u,v3,.int .i64 Fq,u,u,u,u,u,.fz (a1.map (AV.int .i64)),.int .i64 (a1.length:Int),.int .i64 FE,u,u,u,u,u,u,u,u,u,u,u,u,u,u,u,u]∧ap H (⟨v3,1,Fk.map (AV.int .i64)⟩::F)) ⟨rfl,hS⟩ (fun x W7 s H h RW hi HK FV=> ?_)
  obtain ⟨Fk,Fq,FE⟩:=x;try dsimp only at hi
  obtain ⟨rfl,hS⟩:=hi;simp only [LS] at h;refine BC fun HB FX=> ?_;refine B1 gC ?_;try simp only [W,Fe,Nat.reduceAdd]
  refine BJ FX ?_;refine BC fun H8 Gn=> ?_;refine BH ?_;simp only [W];refine B0 h (fun hc h=> ?_) (fun hc h=> ?_)
  ·refine BE ?_;refine BJ Gn ?_;refine BC fun H7 Gg=> ?_;refine BD fun IL GJ=> ?_;refine BC fun Jq GL=> ?_;refine B1 gC ?_;try simp only [W,Fe,Nat.reduceAdd]
   refine Co rfl rfl rfl (fun _=>rfl) h fun GI W8 h=> ?_;try simp only [W,Fe]
   refine BJ GL ?_;refine BC fun Np Ir=> ?_;refine B1 gC ?_;try simp only [W,Fe,Nat.reduceAdd]
   refine Co rfl rfl rfl (fun _=>rfl) h fun HI Mp h=> ?_;try simp only [W,Fe,Ga,Nat.reduceAdd,Nat.reduceBEq]
   refine BJ Ir ?_;refine B1 gC ?_;try simp only [W,Fe,Nat.reduceAdd]
   refine Cp 0 hS rfl rfl rfl rfl rfl h (fun GN W9 W_ Xa IU h PF=> ?_) Li.ne;obtain ⟨Xb,Xc,Xd⟩:=hS.elem 0 rfl PF IU;try simp only [W]
   refine Cq (a:= .int .i64 (IntKind.i64.wrap (Fq+HI.Fi))) (y' :=(IntKind.i64.wrap (Fq+HI.Fi))) 0 hS rfl PF IU rfl rfl rfl rfl rfl rfl rfl fun H hS=> ?_
   try simp only [W]
   refine BN GJ ?_;refine BJ Gg ?_;refine B1 gC ?_;try simp only [W,Fe,Nat.reduceAdd]
   exact Cw FV h ⟨rfl,hS⟩
  ·refine BG ?_;refine BL Gn ?_;try obtain rfl:=Option.some.inj h
   obtain rfl:=RW _ rfl;have h:(some (Fk):Option ((List Int)))=some (Fk):=rfl;refine Cx FV ?_;refine BP FF ?_;exact CA FP ⟨_,(Option.some.inj h).symm,rfl,hS⟩
 ·obtain ⟨FC,Fl,rfl,hS⟩:=hq;obtain rfl:=Fl.symm;replace h:=RV;try dsimp only at h
  refine BJ Gi ?_;refine BC fun Nq Is=> ?_;refine B1 gC ?_;try simp only [W,Nat.reduceAdd]
  refine BJ Is ?_;refine BF ?_;refine BU Ff rfl ?_;try obtain rfl:=Option.some.inj h
  exact hP _ Li _ hS
theorem RX {a0:List Task} {a1:List Int} {r:(Int)} (h:Ks a0 a1=some r) {F:List It} {H:J} (hS:ap H (F)) {P:AV→J→Prop} (hP: ∀H',ap H' (F)→P (.int .i64 r) H'):aw C 201 [.fz (a0.map Fg),.fz (a1.map (AV.int .i64))] H P:=by
 refine B4 gC (res:=[.tmp 4]) (n:=32) rfl rfl rfl rfl fun K0 Ff=> ?_;simp only [W,Nat.reduceSub,Nat.reduceAdd,List.replicate];unfold Ks at h;refine BC fun K1 Fh=> ?_;refine B1 gC ?_;try simp only [W,Nat.reduceAdd]
 refine BJ Fh ?_;refine BC fun K2 zF=> ?_;refine B1 gC ?_;try simp only [W,Nat.reduceAdd]
 refine Cu h fun b3 kV h=> ?_;refine RS kV hS fun v4 RY H hS=> ?_;try simp only [W]
 refine BJ zF ?_;refine BC fun K6 Gi=> ?_;refine BC fun K7 FW=> ?_;refine B1 gC ?_;try simp only [W,Fe,Nat.reduceAdd]
 refine BJ FW ?_;obtain ⟨Hn,Jj,Jk⟩:=Option.bind_eq_some_iff.1 h;refine Cz gC (fun s H=> ∃FE:Int,Hn=(FE)∧s=[u,u,u,u,u,.int .i64 FE,u,u,u,u,u,u,u,u,u,u,u,u,u,u,u,u,u,u,u,u,u,u,u,u,u,u]∧ap H (F)) (fun Hz F2=> ?_) (fun s H hq=> ?_)
 ·refine BD fun HA FP=> ?_;refine Cv gC Jj (fun x s H=>match x with|(Fk,Fq)=>s=[.fz (a0.map Fg),u,u,u,u,.int .i64 Fk,v4,u,u,u,u,u,.fz (a1.map (AV.int .i64)),.int .i64 (a1.length:Int),.int .i64 Fq,u,u,u,u,u,u,u,u,u,u,u,u,u,u,u,u,u]∧ap H (⟨v4,1,b3.map (AV.int .i64)⟩::F)) ⟨rfl,hS⟩ (fun x Nb s H h Jl hi Hl FF=> ?_)
  obtain ⟨Fk,Fq⟩:=x;try dsimp only at hi
  obtain ⟨rfl,hS⟩:=hi;simp only [LU] at h;refine BC fun Ii Gh=> ?_;refine B1 gC ?_;try simp only [W,Fe,Nat.reduceAdd]
  refine BJ Gh ?_;refine BC fun HB FX=> ?_;refine BH ?_;simp only [W];refine B0 h (fun hc h=> ?_) (fun hc h=> ?_)
  ·refine BE ?_;refine BJ FX ?_;refine BC fun H8 Gn=> ?_;obtain ⟨Nr,h,Ns⟩:=Option.bind_eq_some_iff.1 h;refine Cz gC (fun s H=> ∃G9:Int,Nr=(G9)∧s=[.fz (a0.map Fg),u,u,u,u,.int .i64 G9,v4,u,u,u,u,u,.fz (a1.map (AV.int .i64)),.int .i64 (a1.length:Int),.int .i64 Fq,u,u,u,u,u,u,u,u,u,u,u,u,u,u,u,u,u]∧ap H (⟨v4,1,b3.map (AV.int .i64)⟩::F)) (fun Np Ir=> ?_) (fun s H hq=> ?_)
   ·refine BD fun H7 Gg=> ?_;refine BC fun Jp GU=> ?_;refine B1 gC ?_;try simp only [W,Fe,Nat.reduceAdd]
    refine Co rfl rfl rfl (fun _=>rfl) h fun GN IU h=> ?_;try simp only [W,Fe]
    refine BJ GU ?_;refine BC fun Lj Hp=> ?_;refine B3 gC (by kernel_rfl) ?_
    try simp only [W,Fe,Nat.reduceAdd]
    refine Cp 0 hS rfl rfl rfl rfl rfl h (fun HW Xe Xf Xg Lk h RZ=> ?_) RY.ne;obtain ⟨Xh,R0,R1⟩:=hS.elem 0 rfl RZ Lk;try simp only [W,Fe,R0,R1]
    refine Co rfl rfl rfl (fun _=>rfl) h fun Ja Pt h=> ?_;try simp only [W,Fe,Ga,Nat.reduceAdd,Nat.reduceBEq]
    refine BJ Hp ?_;obtain ⟨PG,h,Nt⟩:=Option.bind_eq_some_iff.1 h;refine Cz gC (fun s H=> ∃GB:Int,PG=(GB)∧s=[.fz (a0.map Fg),u,u,u,u,.int .i64 GB,v4,u,u,u,u,u,.fz (a1.map (AV.int .i64)),.int .i64 (a1.length:Int),.int .i64 Fq,u,u,u,u,u,u,u,u,u,u,u,u,u,u,u,u,u]∧ap H (⟨v4,1,b3.map (AV.int .i64)⟩::F)) (fun Nu Iu=> ?_) (fun s H hq=> ?_)
    ·refine BC fun Nv IV=> ?_;refine BH ?_;simp only [W];refine B0 h (fun hc h=> ?_) (fun hc h=> ?_)
     ·refine B1 gC ?_;try simp only [W,Fe,Nat.reduceAdd]
      refine BJ IV ?_;refine BI ?_;exact CA Iu ⟨_,(Option.some.inj h).symm,rfl,hS⟩
     ·refine BE ?_;refine BJ IV ?_;refine BI ?_;exact CA Iu ⟨_,(Option.some.inj h).symm,rfl,hS⟩
    ·obtain ⟨GB,Fl,rfl,hS⟩:=hq;obtain rfl:=Fl.symm;replace h:=Nt;try dsimp only at h
     refine BM Gg ?_;exact CA Ir ⟨_,(Option.some.inj h).symm,rfl,hS⟩
   ·obtain ⟨G9,Fl,rfl,hS⟩:=hq;obtain rfl:=Fl.symm;replace h:=Ns;try dsimp only at h
    refine BJ Gn ?_;refine B1 gC ?_;try simp only [W,Fe,Nat.reduceAdd]
    exact Cw FF h ⟨rfl,hS⟩
  ·refine BG ?_;refine BL FX ?_;try obtain rfl:=Option.some.inj h
   obtain rfl:=Jl _ rfl;have h:(some (Fk):Option (Int))=some (Fk):=rfl;refine Cx FF ?_;refine BP FP ?_;exact CA F2 ⟨_,(Option.some.inj h).symm,rfl,(hS.C2 1 [] (by decide))⟩
 ·obtain ⟨FE,Fl,rfl,hS⟩:=hq;obtain rfl:=Fl.symm;replace h:=Jk;try dsimp only at h
  refine BJ Gi ?_;refine BC fun M1 IN=> ?_;refine B1 gC ?_;try simp only [W,Nat.reduceAdd]
  refine BJ IN ?_;refine BF ?_;refine BU Ff rfl ?_;try obtain rfl:=Option.some.inj h
  exact hP _ hS
theorem PH {a0:List Task} {a1:List Int} {r:(Int×Bool)} (h:HX a0 a1=some r) {F:List It} {H:J} (hS:ap H (F)) {P:AV→J→Prop} (hP: ∀H',ap H' (F)→P (.aA [.int .i64 r.1,.bool r.2]) H'):aw C 60 [.fz (a0.map Fg),.fz (a1.map (AV.int .i64))] H P:=by
 refine B4 gC (res:=[.tmp 4,.tmp 5]) (n:=19) rfl rfl rfl rfl fun K0 Ff=> ?_;simp only [W,Nat.reduceSub,Nat.reduceAdd,List.replicate];unfold HX at h;refine BC fun K1 Fh=> ?_;refine B1 gC ?_;try simp only [W,Nat.reduceAdd]
 refine BJ Fh ?_;refine BC fun K2 zF=> ?_;refine BC fun K3 Fw=> ?_;obtain ⟨Ho,h,g6⟩:=Option.bind_eq_some_iff.1 h;refine Cz gC (fun s H=> ∃Fp:Bool,Ho=(Fp)∧s=[.fz (a0.map Fg),.fz (a1.map (AV.int .i64)),u,u,u,u,u,u,u,u,u,u,u,u,u,.bool Fp,u,u,u]∧ap H (F)) (fun K7 FW=> ?_) (fun s H hq=> ?_)
 ·refine BC fun K8 F1=> ?_;refine B1 gC ?_;try simp only [W,Nat.reduceAdd]
  refine Cu h fun Hi MX h=> ?_;refine Mo MX hS fun H hS=> ?_;try simp only [W]
  refine C8 h (fun hc h=> ?_) (fun hc h=> ?_)
  ·try simp only [W,hc]
   refine BJ F1 ?_;refine BI ?_;exact CA FW ⟨_,(Option.some.inj h).symm,rfl,hS⟩
  ·try simp only [W,Fe,hc]
   refine Cu h fun HF Pb h=> ?_;refine RR Pb hS fun H hS=> ?_;try simp only [W,reduceIte,Bool.false_eq_true]
   refine BJ F1 ?_;refine BI ?_;exact CA FW ⟨_,(Option.some.inj h).symm,rfl,hS⟩
 ·obtain ⟨Fp,Fl,rfl,hS⟩:=hq;obtain rfl:=Fl.symm;replace h:=g6;try dsimp only at h
  refine BJ Fw ?_;refine BH ?_;simp only [W];refine B0 h (fun hc h=> ?_) (fun hc h=> ?_)
  ·refine BC fun JQ G4=> ?_;refine B1 gC ?_;try simp only [W,Nat.reduceAdd]
   refine BJ G4 ?_;refine BF ?_;refine BK zF ?_;refine BV Ff rfl rfl ?_;try obtain rfl:=Option.some.inj h
   exact hP _ hS
  ·refine BE ?_;refine BJ zF ?_;refine BC fun Jh Gw=> ?_;refine B1 gC ?_;try simp only [W,Nat.reduceAdd]
   refine Cu h fun Kl R2 h=> ?_;refine RX R2 hS fun H hS=> ?_;try simp only [W]
   refine BJ Gw ?_;refine BF ?_;refine BV Ff rfl rfl ?_;try obtain rfl:=Option.some.inj h
   exact hP _ hS
theorem Nw {a0:Int} {a1:Int} {a2:Int} {r:(Bool)} (h:Jb a0 a1 a2=some r) {F:List It} {H:J} (hS:ap H (F)) {P:AV→J→Prop} (hP: ∀H',ap H' (F)→P (.bool r) H'):aw C 164 [.int .i64 a0,.int .i64 a1,.int .i64 a2] H P:=by
 refine B4 gC (res:=[.tmp 6]) (n:=15) rfl rfl rfl rfl fun K0 Ff=> ?_;simp only [W,Nat.reduceSub,Nat.reduceAdd,List.replicate];unfold Jb at h;refine BC fun K1 Fh=> ?_;refine B1 gC ?_;try simp only [W,Nat.reduceAdd]
 refine BJ Fh ?_;refine BC fun K2 zF=> ?_;refine B1 gC ?_;try simp only [W,Fe,Nat.reduceAdd]
 refine C8 h (fun hc h=> ?_) (fun hc h=> ?_)
 ·try simp only [W,Fe,reduceIte,hc]
  refine BJ zF ?_;refine BF ?_;refine BU Ff rfl ?_;try obtain rfl:=Option.some.inj h
  exact hP _ hS
 ·try simp only [W,hc]
  refine BJ zF ?_;refine BF ?_;refine BU Ff rfl ?_;try obtain rfl:=Option.some.inj h
  exact hP _ hS
theorem Nx {a0:List Task} {r:(Bool)} (h:Jc a0=some r) {F:List It} {H:J} (hS:ap H (F)) {P:AV→J→Prop} (hP: ∀H',ap H' (F)→P (.bool r) H'):aw C 183 [.fz (a0.map Fg)] H P:=by
 refine B4 gC (res:=[.tmp 2]) (n:=25) rfl rfl rfl rfl fun K0 Ff=> ?_;simp only [W,Nat.reduceSub,Nat.reduceAdd,List.replicate];unfold Jc at h;refine BC fun K1 Fh=> ?_;refine B1 gC ?_;try simp only [W,Nat.reduceAdd]
 refine BJ Fh ?_;refine BC fun K2 zF=> ?_;refine BC fun K3 Fw=> ?_;refine B1 gC ?_;try simp only [W,Fe,Nat.reduceAdd]
 refine BJ Fw ?_;obtain ⟨Ho,HQ,GR⟩:=Option.bind_eq_some_iff.1 h;refine Cz gC (fun s H=>Ho=LR.next ()∧s=[.fz (a0.map Fg),u,u,u,u,u,u,u,u,u,u,u,u,u,u,u,u,u,u,u,u,u,u,u,u]∧ap H (F)) (fun K7 FW=> ?_) (fun s H hq=> ?_)
 ·refine BD fun K8 F1=> ?_;refine Cv gC HQ (fun x s H=>s=[.fz (a0.map Fg),u,u,u,u,.fz (a0.map Fg),.int .i64 (a0.length:Int),.int .i64 x,u,u,u,u,u,u,u,u,u,u,u,u,u,u,u,u,u]∧ap H (F)) ⟨rfl,hS⟩ (fun Fp Hn s H h GS hi K9 FU=> ?_)
  skip
  try dsimp only at hi
  obtain ⟨rfl,hS⟩:=hi;simp only [Kt] at h;refine BC fun Hz F2=> ?_;refine B1 gC ?_;try simp only [W,Fe,Nat.reduceAdd]
  refine BJ F2 ?_;refine BC fun HA FP=> ?_;refine BH ?_;simp only [W];refine B0 h (fun hc h=> ?_) (fun hc h=> ?_)
  ·refine BE ?_;refine BJ FP ?_;refine BC fun Hl FF=> ?_;refine BD fun HK FV=> ?_;refine BC fun Hm FL=> ?_;refine B1 gC ?_;try simp only [W,Fe,Nat.reduceAdd]
   refine Co rfl rfl rfl (fun _=>rfl) h fun Hb Ny h=> ?_;try simp only [W,Fe,Ga,reduceIte,Nat.reduceAdd,Nat.reduceLeDiff]
   refine Ci hS rfl rfl fun Xi Xj H hS=> ?_;try simp only [W]
   refine Cj (a:= .agg [.int .i64 Hb.Fi,.int .i64 Hb.End]) (y' := .agg [.int .i64 Hb.Fi,.int .i64 Hb.End]) 0 hS rfl rfl rfl rfl rfl rfl rfl rfl fun H hS=> ?_
   try simp only [W]
   refine BJ FL ?_;refine BC fun H8 Gn=> ?_;obtain ⟨R3,h,R4⟩:=Option.bind_eq_some_iff.1 h;refine Cz gC (fun s H=> ∃Ku:Bool,R3=(Ku)∧s=[.fz (a0.map Fg),u,u,u,u,.fz (a0.map Fg),.int .i64 (a0.length:Int),.int .i64 Fp,u,u,u,u,u,u,u,u,u,u,u,u,.bool Ku,u,u,u,u]∧ap H (F)) (fun JU GV=> ?_) (fun s H hq=> ?_)
   ·refine BC fun Np Ir=> ?_;refine B1 gC ?_;try simp only [W,Fe,Nat.reduceAdd,Nat.reduceBEq,hS.var 0 rfl]
    refine Cu h fun HI Mp h=> ?_;refine Nw Mp hS fun H hS=> ?_;try simp only [W]
    refine C8 h (fun hc h=> ?_) (fun hc h=> ?_)
    ·try simp only [W,hc]
     refine BJ Ir ?_;refine BI ?_;exact CA GV ⟨_,(Option.some.inj h).symm,rfl,(hS.C2 1 [] (by decide))⟩
    ·try simp only [W,Fe,Nat.reduceAdd,Nat.reduceBEq,hS.var 0 rfl,hc]
     refine Cu h fun GN IU h=> ?_;refine Nw IU hS fun H hS=> ?_;try simp only [W,reduceIte,Bool.false_eq_true]
     refine BJ Ir ?_;refine BI ?_;exact CA GV ⟨_,(Option.some.inj h).symm,rfl,(hS.C2 1 [] (by decide))⟩
   ·obtain ⟨Ku,Fl,rfl,hS⟩:=hq;obtain rfl:=Fl.symm;replace h:=R4;try dsimp only at h
    refine BJ Gn ?_;refine BH ?_;simp only [W];refine B0 h (fun hc h=> ?_) (fun hc h=> ?_)
    ·refine BC fun Lj Hp=> ?_;refine B1 gC ?_;try simp only [W,Nat.reduceAdd]
     refine BJ Hp ?_;refine BF ?_;refine BR FV ?_;refine BK FF ?_;try obtain rfl:=Option.some.inj h
     obtain rfl:=GS _ rfl;have h:(some (LR.done false):Option (LR Unit (Bool)))=some (LR.done false):=rfl;refine Cy FU ?_;refine BR F1 ?_;try obtain rfl:=Option.some.inj h
     obtain rfl:=Option.some.inj GR;have h:(some false:Option (Bool))=some false:=rfl;refine CC FW ?_;refine BK zF ?_;refine BU Ff rfl ?_;try obtain rfl:=Option.some.inj h
     exact hP _ hS
    ·refine BE ?_;refine BN FV ?_;refine BJ FF ?_;refine B1 gC ?_;try simp only [W,Fe,Nat.reduceAdd]
     exact Cw FU h ⟨rfl,hS⟩
  ·refine BG ?_;refine BL FP ?_;try obtain rfl:=Option.some.inj h
   obtain rfl:=GS _ rfl;have h:(some (LR.next ()):Option (LR Unit (Bool)))=some (LR.next ()):=rfl
   refine Cx FU ?_;refine BP F1 ?_;exact CA FW ⟨(Option.some.inj h).symm,rfl,hS⟩
 ·obtain ⟨rfl,rfl,hS⟩:=hq;replace h:=GR;try dsimp only at h
  refine BJ zF ?_;refine BC fun Nu Iu=> ?_;refine B1 gC ?_;try simp only [W,Fe,Nat.reduceAdd]
  refine BJ Iu ?_;refine BF ?_;refine BU Ff rfl ?_;try obtain rfl:=Option.some.inj h
  exact hP _ hS
theorem R5 {a0:List Int} {a1:Int} {r:(Bool)} (h:Kv a0 a1=some r) {F:List It} {H:J} (hS:ap H (F)) {P:AV→J→Prop} (hP: ∀H',ap H' (F)→P (.bool r) H'):aw C 319 [.fz (a0.map (AV.int .i64)),.int .i64 a1] H P:=by
 refine B4 gC (res:=[.tmp 4]) (n:=17) rfl rfl rfl rfl fun K0 Ff=> ?_;simp only [W,Nat.reduceSub,Nat.reduceAdd,List.replicate];unfold Kv at h;refine BC fun K1 Fh=> ?_;refine B1 gC ?_;try simp only [W,Nat.reduceAdd]
 refine BJ Fh ?_;refine BC fun K2 zF=> ?_;refine BC fun K3 Fw=> ?_;refine B1 gC ?_;try simp only [W,Fe,Nat.reduceAdd]
 refine BJ Fw ?_;obtain ⟨Ho,HQ,GR⟩:=Option.bind_eq_some_iff.1 h;refine Cz gC (fun s H=>Ho=LR.next ()∧s=[u,u,u,u,u,u,u,u,u,u,u,u,u,u,u,u,u]∧ap H (F)) (fun K7 FW=> ?_) (fun s H hq=> ?_)
 ·refine BD fun K8 F1=> ?_;refine Cv gC HQ (fun x s H=>s=[u,.int .i64 a1,u,u,u,u,u,.fz (a0.map (AV.int .i64)),.int .i64 (a0.length:Int),.int .i64 x,u,u,u,u,u,u,u]∧ap H (F)) ⟨rfl,hS⟩ (fun Fp Hn s H h GS hi K9 FU=> ?_)
  skip
  try dsimp only at hi
  obtain ⟨rfl,hS⟩:=hi;simp only [LV] at h;refine BC fun Hz F2=> ?_;refine B1 gC ?_;try simp only [W,Fe,Nat.reduceAdd]
  refine BJ F2 ?_;refine BC fun HA FP=> ?_;refine BH ?_;simp only [W];refine B0 h (fun hc h=> ?_) (fun hc h=> ?_)
  ·refine BE ?_;refine BJ FP ?_;refine BC fun Hl FF=> ?_;refine BD fun HK FV=> ?_;refine BC fun Hm FL=> ?_;refine B1 gC ?_;try simp only [W,Fe,Nat.reduceAdd]
   refine Co rfl rfl rfl (fun _=>rfl) h fun Hb Ny h=> ?_;try simp only [W,Fe]
   refine BJ FL ?_;refine BC fun Ii Gh=> ?_;refine B1 gC ?_;try simp only [W,Fe,Nat.reduceAdd]
   refine BJ Gh ?_;refine BH ?_;simp only [W];refine B0 h (fun hc h=> ?_) (fun hc h=> ?_)
   ·refine BC fun HB FX=> ?_;refine B1 gC ?_;try simp only [W,Nat.reduceAdd]
    refine BJ FX ?_;refine BF ?_;refine BR FV ?_;refine BK FF ?_;try obtain rfl:=Option.some.inj h
    obtain rfl:=GS _ rfl;have h:(some (LR.done true):Option (LR Unit (Bool)))=some (LR.done true):=rfl;refine Cy FU ?_;refine BR F1 ?_;try obtain rfl:=Option.some.inj h
    obtain rfl:=Option.some.inj GR;have h:(some true:Option (Bool))=some true:=rfl;refine CC FW ?_;refine BK zF ?_;refine BU Ff rfl ?_;try obtain rfl:=Option.some.inj h
    exact hP _ hS
   ·refine BE ?_;refine BN FV ?_;refine BJ FF ?_;refine B1 gC ?_;try simp only [W,Fe,Nat.reduceAdd]
    exact Cw FU h ⟨rfl,hS⟩
  ·refine BG ?_;refine BL FP ?_;try obtain rfl:=Option.some.inj h
   obtain rfl:=GS _ rfl;have h:(some (LR.next ()):Option (LR Unit (Bool)))=some (LR.next ()):=rfl
   refine Cx FU ?_;refine BP F1 ?_;exact CA FW ⟨(Option.some.inj h).symm,rfl,hS⟩
 ·obtain ⟨rfl,rfl,hS⟩:=hq;replace h:=GR;try dsimp only at h
  refine BJ zF ?_;refine BC fun Jp GU=> ?_;refine B1 gC ?_;try simp only [W,Nat.reduceAdd]
  refine BJ GU ?_;refine BF ?_;refine BU Ff rfl ?_;try obtain rfl:=Option.some.inj h
  exact hP _ hS
theorem R6 {a0:List Int} {a1:Int} {r:(Bool)} (h:Kw a0 a1=some r) {F:List It} {H:J} (hS:ap H (F)) {P:AV→J→Prop} (hP: ∀H',ap H' (F)→P (.bool r) H'):aw C 288 [.fz (a0.map (AV.int .i64)),.int .i64 a1] H P:=by
 refine B4 gC (res:=[.tmp 4]) (n:=31) rfl rfl rfl rfl fun K0 Ff=> ?_;simp only [W,Nat.reduceSub,Nat.reduceAdd,List.replicate];unfold Kw at h;refine BC fun K1 Fh=> ?_;refine B1 gC ?_;try simp only [W,Nat.reduceAdd]
 refine BJ Fh ?_;refine BC fun K2 zF=> ?_;refine BC fun K3 Fw=> ?_;refine B1 gC ?_;try simp only [W,Fe,Nat.reduceAdd]
 refine BJ Fw ?_;refine BH ?_;simp only [W];refine B0 h (fun hc h=> ?_) (fun hc h=> ?_)
 ·refine BC fun K4 F6=> ?_;refine B1 gC ?_;try simp only [W,Nat.reduceAdd]
  refine BJ F6 ?_;refine BF ?_;refine BK zF ?_;refine BU Ff rfl ?_;try obtain rfl:=Option.some.inj h
  exact hP _ hS
 ·refine BE ?_;refine BJ zF ?_;refine BC fun K5 FQ=> ?_;refine BC fun K6 Gi=> ?_;refine B1 gC ?_;try simp only [W,Fe,Nat.reduceAdd]
  refine BJ Gi ?_;obtain ⟨Nz,NA,Ll⟩:=Option.bind_eq_some_iff.1 h;refine Cz gC (fun s H=>Nz=LR.next ()∧s=[u,u,u,u,u,u,u,u,u,u,u,u,u,u,u,u,u,u,u,u,u,u,u,u,u,u,u,u,u,u,u]∧ap H (F)) (fun MT Ih=> ?_) (fun s H hq=> ?_)
  ·refine BD fun JQ G4=> ?_;refine Cv gC NA (fun x s H=>s=[.fz (a0.map (AV.int .i64)),.int .i64 a1,u,u,u,u,u,u,u,u,u,.fz (a0.map (AV.int .i64)),.int .i64 (a0.length:Int),.int .i64 x,u,u,u,u,u,u,u,u,u,u,u,u,u,u,u,u,u]∧ap H (F)) ⟨rfl,hS⟩ (fun F4 R7 s H h Ln hi Jh Gw=> ?_)
   skip
   try dsimp only at hi
   obtain ⟨rfl,hS⟩:=hi;simp only [LW] at h;refine BC fun HK FV=> ?_;refine B1 gC ?_;try simp only [W,Fe,Nat.reduceAdd]
   refine BJ FV ?_;refine BC fun Hm FL=> ?_;refine BH ?_;simp only [W];refine B0 h (fun hc h=> ?_) (fun hc h=> ?_)
   ·refine BE ?_;refine BJ FL ?_;refine BC fun IK Gq=> ?_;refine BD fun Ii Gh=> ?_;refine BC fun HB FX=> ?_;refine B1 gC ?_;try simp only [W,Fe,Nat.reduceAdd]
    refine Co rfl rfl rfl (fun _=>rfl) h fun G8 PI h=> ?_;try simp only [W,Fe]
    refine BJ FX ?_;refine BC fun H7 Gg=> ?_;obtain ⟨Nr,h,Ns⟩:=Option.bind_eq_some_iff.1 h;refine Cz gC (fun s H=> ∃G9:Bool,Nr=(G9)∧s=[.fz (a0.map (AV.int .i64)),.int .i64 a1,u,u,u,u,u,u,u,u,u,.fz (a0.map (AV.int .i64)),.int .i64 (a0.length:Int),.int .i64 F4,u,u,u,u,u,u,u,u,u,u,u,u,u,u,u,.bool G9,u]∧ap H (F)) (fun Np Ir=> ?_) (fun s H hq=> ?_)
    ·refine BC fun Jp GU=> ?_;refine B1 gC ?_;try simp only [W,Fe,Nat.reduceAdd]
     refine Cu h fun GN IU h=> ?_;refine Nw IU hS fun H hS=> ?_;try simp only [W]
     refine C8 h (fun hc h=> ?_) (fun hc h=> ?_)
     ·try simp only [W,hc]
      refine BJ GU ?_;refine BI ?_;exact CA Ir ⟨_,(Option.some.inj h).symm,rfl,hS⟩
     ·try simp only [W,Fe,hc]
      refine CK rfl rfl rfl (fun _=>rfl) h fun F7 Xk h=> ?_;try simp only [W]
      refine Cu h fun HW Lk h=> ?_;refine R5 Lk hS fun H hS=> ?_;try simp only [W,reduceIte,Bool.false_eq_true]
      refine BJ GU ?_;refine BI ?_;exact CA Ir ⟨_,(Option.some.inj h).symm,rfl,hS⟩
    ·obtain ⟨G9,Fl,rfl,hS⟩:=hq;obtain rfl:=Fl.symm;replace h:=Ns;try dsimp only at h
     refine BJ Gg ?_;refine BH ?_;simp only [W];refine B0 h (fun hc h=> ?_) (fun hc h=> ?_)
     ·refine BC fun K_ HD=> ?_;refine B1 gC ?_;try simp only [W,Nat.reduceAdd]
      refine BJ HD ?_;refine BF ?_;refine BR Gh ?_;refine BK Gq ?_;try obtain rfl:=Option.some.inj h
      obtain rfl:=Ln _ rfl;have h:(some (LR.done false):Option (LR Unit (Bool)))=some (LR.done false):=rfl;refine Cy Gw ?_;refine BR G4 ?_;try obtain rfl:=Option.some.inj h
      obtain rfl:=Option.some.inj Ll;have h:(some false:Option (Bool))=some false:=rfl;refine CC Ih ?_;refine BK FQ ?_;refine BU Ff rfl ?_;try obtain rfl:=Option.some.inj h
      exact hP _ hS
     ·refine BE ?_;refine BN Gh ?_;refine BJ Gq ?_;refine B1 gC ?_;try simp only [W,Fe,Nat.reduceAdd]
      exact Cw Gw h ⟨rfl,hS⟩
   ·refine BG ?_;refine BL FL ?_;try obtain rfl:=Option.some.inj h
    obtain rfl:=Ln _ rfl;have h:(some (LR.next ()):Option (LR Unit (Bool)))=some (LR.next ()):=rfl
    refine Cx Gw ?_;refine BP G4 ?_;exact CA Ih ⟨(Option.some.inj h).symm,rfl,hS⟩
  ·obtain ⟨rfl,rfl,hS⟩:=hq;replace h:=Ll;try dsimp only at h
   refine BJ FQ ?_;refine BC fun Pe KV=> ?_;refine B1 gC ?_;try simp only [W,Nat.reduceAdd]
   refine BJ KV ?_;refine BF ?_;refine BU Ff rfl ?_;try obtain rfl:=Option.some.inj h
   exact hP _ hS
theorem R8 {a0:List Task} {a1:List Int} {r:(Bool)} (h:LX a0 a1=some r) {F:List It} {H:J} (hS:ap H (F)) {P:AV→J→Prop} (hP: ∀H',ap H' (F)→P (.bool r) H'):aw C 179 [.fz (a0.map Fg),.fz (a1.map (AV.int .i64))] H P:=by
 refine B4 gC (res:=[.tmp 4]) (n:=13) rfl rfl rfl rfl fun K0 Ff=> ?_;simp only [W,Nat.reduceSub,Nat.reduceAdd,List.replicate];unfold LX at h;refine BC fun K1 Fh=> ?_;refine B1 gC ?_;try simp only [W,Nat.reduceAdd]
 refine BJ Fh ?_;refine BC fun K2 zF=> ?_;refine B1 gC ?_;try simp only [W,Nat.reduceAdd]
 refine Cu h fun b3 kV h=> ?_;refine Nx kV hS fun H hS=> ?_;try simp only [W]
 refine C8 h (fun hc h=> ?_) (fun hc h=> ?_)
 ·try simp only [W,Fe,hc]
  refine Cu h fun FM He h=> ?_;refine R6 He hS fun H hS=> ?_;try simp only [W,reduceIte]
  refine BJ zF ?_;refine BF ?_;refine BU Ff rfl ?_;try obtain rfl:=Option.some.inj h
  exact hP _ hS
 ·try simp only [W,hc]
  refine BJ zF ?_;refine BF ?_;refine BU Ff rfl ?_;try obtain rfl:=Option.some.inj h
  exact hP _ hS
theorem R9 {a0:List Task} {a1:List Int} {r:(List Int)} (h:Kx a0 a1=some r) {F:List It} {H:J} (hS:ap H (F)) {P:AV→J→Prop} (hP: ∀Iv:AV,aJ Iv→ ∀H',ap H' (⟨Iv,1,r.map (AV.int .i64)⟩::F)→P (Iv) H'):aw C 180 [.fz (a0.map Fg),.fz (a1.map (AV.int .i64))] H P:=by
 refine B4 gC (res:=[.tmp 4]) (n:=31) rfl rfl rfl rfl fun K0 Ff=> ?_;simp only [W,Nat.reduceSub,Nat.reduceAdd,List.replicate];unfold Kx at h;refine BC fun K1 Fh=> ?_;refine B1 gC ?_;try simp only [W,Nat.reduceAdd]
 refine BJ Fh ?_;refine BC fun K2 zF=> ?_;refine B1 gC ?_;try simp only [W,Fe,Nat.reduceAdd]
 refine z9 (c:=(AV.int .i64)) hS rfl rfl rfl rfl rfl rfl h fun v3 H Fo Li hm h hS=> ?_;try simp only [W]
 refine BJ zF ?_;refine BC fun K6 Gi=> ?_;refine B1 gC ?_;try simp only [W,Nat.reduceAdd]
 refine BJ Gi ?_;refine BC fun K7 FW=> ?_;refine BC fun K8 F1=> ?_;refine B1 gC ?_;try simp only [W,Fe,Nat.reduceAdd]
 refine BJ F1 ?_;obtain ⟨NB,NC,ND⟩:=Option.bind_eq_some_iff.1 h;refine Cz gC (fun s H=> ∃FH:List Int,NB=(FH)∧s=[u,u,u,u,u,v3,u,u,u,u,u,u,u,u,u,u,u,u,u,u,u,u,u,u,u,u,u,u,u,u,u]∧ap H (⟨v3,1,FH.map (AV.int .i64)⟩::F)) (fun Hl FF=> ?_) (fun s H hq=> ?_)
 ·refine BD fun HK FV=> ?_;refine Cv gC NC (fun x s H=>match x with|(Fq,FE,FC)=>s=[.fz (a0.map Fg),u,u,u,u,v3,.int .i64 FE,u,u,u,u,u,.fz (a1.map (AV.int .i64)),.int .i64 (a1.length:Int),.int .i64 FC,u,u,u,u,u,u,u,u,u,u,u,u,u,u,u,u]∧ap H (⟨v3,1,Fq.map (AV.int .i64)⟩::F)) ⟨rfl,hS⟩ (fun x R_ s H h NE hi Hm FL=> ?_)
  obtain ⟨Fq,FE,FC⟩:=x;try dsimp only at hi
  obtain ⟨rfl,hS⟩:=hi;simp only [MO] at h;refine BC fun H8 Gn=> ?_;refine B1 gC ?_;try simp only [W,Fe,Nat.reduceAdd]
  refine BJ Gn ?_;refine BC fun H7 Gg=> ?_;refine BH ?_;simp only [W];refine B0 h (fun hc h=> ?_) (fun hc h=> ?_)
  ·refine BE ?_;refine BJ Gg ?_;refine BC fun IL GJ=> ?_;refine BD fun Jq GL=> ?_;refine BC fun JU GV=> ?_;refine B1 gC ?_;try simp only [W,Fe,Nat.reduceAdd]
   refine Co rfl rfl rfl (fun _=>rfl) h fun G0 NF h=> ?_;try simp only [W,Fe]
   refine BJ GV ?_;refine BC fun Jp GU=> ?_;refine B1 gC ?_;try simp only [W,Fe,Nat.reduceAdd]
   refine Co rfl rfl rfl (fun _=>rfl) h fun GN IU h=> ?_;try simp only [W,Fe,Ga,Nat.reduceAdd,Nat.reduceBEq]
   refine BJ GU ?_;refine B1 gC ?_;try simp only [W,Fe,Nat.reduceAdd]
   refine Cp 0 hS rfl rfl rfl rfl rfl h (fun Xl Xm Xn Xo PJ h PK=> ?_) Li.ne;obtain ⟨Xp,Xq,Xr⟩:=hS.elem 0 rfl PK PJ;try simp only [W]
   refine Cq (a:= .int .i64 (IntKind.i64.wrap (FE+GN.Fi))) (y' :=(IntKind.i64.wrap (FE+GN.Fi))) 0 hS rfl PK PJ rfl rfl rfl rfl rfl rfl rfl fun H hS=> ?_
   try simp only [W]
   refine BN GL ?_;refine BJ GJ ?_;refine B1 gC ?_;try simp only [W,Fe,Nat.reduceAdd]
   exact Cw FL h ⟨rfl,hS⟩
  ·refine BG ?_;refine BL Gg ?_;try obtain rfl:=Option.some.inj h
   obtain rfl:=NE _ rfl;have h:(some (Fq):Option ((List Int)))=some (Fq):=rfl;refine Cx FL ?_;refine BP FV ?_;exact CA FF ⟨_,(Option.some.inj h).symm,rfl,hS⟩
 ·obtain ⟨FH,Fl,rfl,hS⟩:=hq;obtain rfl:=Fl.symm;replace h:=ND;try dsimp only at h
  refine BJ FW ?_;refine BC fun NG Jr=> ?_;refine B1 gC ?_;try simp only [W,Nat.reduceAdd]
  refine BJ Jr ?_;refine BF ?_;refine BU Ff rfl ?_;try obtain rfl:=Option.some.inj h
  exact hP _ Li _ hS
theorem Sa {a0:Bool} {r:(Int)} (h:LY a0=some r) {F:List It} {H:J} (hS:ap H (F)) {P:AV→J→Prop} (hP: ∀H',ap H' (F)→P (.int .i64 r) H'):aw C 293 [.bool a0] H P:=by
 refine B4 gC (res:=[.tmp 2]) (n:=4) rfl rfl rfl rfl fun K0 Ff=> ?_;simp only [W,Nat.reduceSub,Nat.reduceAdd,List.replicate];unfold LY at h;refine BC fun K1 Fh=> ?_;refine B1 gC ?_;try simp only [W,Nat.reduceAdd]
 refine BJ Fh ?_;refine BC fun K2 zF=> ?_;refine BC fun K3 Fw=> ?_;refine B1 gC ?_;try simp only [W,Nat.reduceAdd]
 refine BJ Fw ?_;refine BH ?_;simp only [W];refine B0 h (fun hc h=> ?_) (fun hc h=> ?_)
 ·refine BC fun K4 F6=> ?_;refine B1 gC ?_;try simp only [W,Nat.reduceAdd]
  refine BJ F6 ?_;refine BF ?_;refine BK zF ?_;refine BU Ff rfl ?_;try obtain rfl:=Option.some.inj h
  exact hP _ hS
 ·refine BE ?_;refine BJ zF ?_;refine BC fun K5 FQ=> ?_;refine B1 gC ?_;try simp only [W,Nat.reduceAdd]
  refine BJ FQ ?_;refine BF ?_;refine BU Ff rfl ?_;try obtain rfl:=Option.some.inj h
  exact hP _ hS
theorem Sb {a0:List Task} {a1:List Int} {r:(Int)} (h:Ky a0 a1=some r) {F:List It} {H:J} (hS:ap H (F)) {P:AV→J→Prop} (hP: ∀H',ap H' (F)→P (.int .i64 r) H'):aw C 202 [.fz (a0.map Fg),.fz (a1.map (AV.int .i64))] H P:=by
 refine B4 gC (res:=[.tmp 4]) (n:=29) rfl rfl rfl rfl fun K0 Ff=> ?_;simp only [W,Nat.reduceSub,Nat.reduceAdd,List.replicate];unfold Ky at h;refine BC fun K1 Fh=> ?_;refine B1 gC ?_;try simp only [W,Nat.reduceAdd]
 refine BJ Fh ?_;refine BC fun K2 zF=> ?_;refine B1 gC ?_;try simp only [W,Nat.reduceAdd]
 refine BJ zF ?_;refine BC fun K3 Fw=> ?_;refine BC fun K4 F6=> ?_;refine B1 gC ?_;try simp only [W,Nat.reduceAdd]
 refine Cu h fun Fy Lh h=> ?_;refine R9 Lh hS fun v6 GP H hS=> ?_;try simp only [W,Fe]
 refine uE 0 hS rfl GP rfl ?_;try simp only [W]
 refine BJ F6 ?_;obtain ⟨Hn,Jj,Jk⟩:=Option.bind_eq_some_iff.1 h;refine Cz gC (fun s H=> ∃FE:Int,Hn=(FE)∧s=[u,u,u,u,u,.int .i64 FE,u,u,u,u,u,u,u,u,u,u,u,u,u,u,u,u,u,u,u,u,u,u,u]∧ap H (F)) (fun Hz F2=> ?_) (fun s H hq=> ?_)
 ·refine BD fun HA FP=> ?_;refine Cv gC Jj (fun x s H=>match x with|(Fk,Fq)=>s=[.fz (a0.map Fg),u,u,u,u,.int .i64 Fk,u,u,u,u,v6,.int .i64 (Fy.length:Int),.int .i64 Fq,u,u,u,u,u,u,u,u,u,u,u,u,u,u,u,u]∧ap H (⟨v6,1,Fy.map (AV.int .i64)⟩::F)) ⟨rfl,hS⟩ (fun x Nb s H h Jl hi Hl FF=> ?_)
  obtain ⟨Fk,Fq⟩:=x;try dsimp only at hi
  obtain ⟨rfl,hS⟩:=hi;simp only [LZ] at h;refine BC fun Ii Gh=> ?_;refine B1 gC ?_;try simp only [W,Fe,Nat.reduceAdd]
  refine BJ Gh ?_;refine BC fun HB FX=> ?_;refine BH ?_;simp only [W];refine B0 h (fun hc h=> ?_) (fun hc h=> ?_)
  ·refine BE ?_;refine BJ FX ?_;refine BC fun H8 Gn=> ?_;refine BD fun H7 Gg=> ?_;refine BC fun IL GJ=> ?_;refine B1 gC ?_;try simp only [W,Fe,Nat.reduceAdd]
   refine Cp 0 hS rfl rfl rfl rfl rfl h (fun FT Xs Xt Xu PM h Sc=> ?_) GP.ne;obtain ⟨Xv,Sd,Se⟩:=hS.elem 0 rfl Sc PM;try simp only [W,Fe,Sd,Se]
   refine BJ GJ ?_;refine B1 gC ?_;try simp only [W,Fe,Nat.reduceAdd]
   refine Co rfl rfl rfl (fun _=>rfl) h fun G0 NF h=> ?_;try simp only [W,Fe,Ga,Nat.reduceAdd,Nat.reduceBEq]
   refine Cu h fun HI Mp h=> ?_;refine Sa Mp hS fun H hS=> ?_;try simp only [W,Fe]
   refine BN Gg ?_;refine BJ Gn ?_;refine B1 gC ?_;try simp only [W,Fe,Nat.reduceAdd]
   exact Cw FF h ⟨rfl,hS⟩
  ·refine BG ?_;refine BL FX ?_;try obtain rfl:=Option.some.inj h
   obtain rfl:=Jl _ rfl;have h:(some (Fk):Option (Int))=some (Fk):=rfl;refine Cx FF ?_;refine BP FP ?_;exact CA F2 ⟨_,(Option.some.inj h).symm,rfl,(hS.C2 1 [] (by decide))⟩
 ·obtain ⟨FE,Fl,rfl,hS⟩:=hq;obtain rfl:=Fl.symm;replace h:=Jk;try dsimp only at h
  refine BJ Fw ?_;refine BC fun KZ HC=> ?_;refine B1 gC ?_;try simp only [W,Nat.reduceAdd]
  refine BJ HC ?_;refine BF ?_;refine BU Ff rfl ?_;try obtain rfl:=Option.some.inj h
  exact hP _ hS
theorem Sf {a0:List Task} {a1:List Int} {r:(Int×Bool)} (h:Jd a0 a1=some r) {F:List It} {H:J} (hS:ap H (F)) {P:AV→J→Prop} (hP: ∀H',ap H' (F)→P (.aA [.int .i64 r.1,.bool r.2]) H'):aw C 61 [.fz (a0.map Fg),.fz (a1.map (AV.int .i64))] H P:=by
 refine B4 gC (res:=[.tmp 4,.tmp 5]) (n:=13) rfl rfl rfl rfl fun K0 Ff=> ?_;simp only [W,Nat.reduceSub,Nat.reduceAdd,List.replicate];unfold Jd at h;refine BC fun K1 Fh=> ?_;refine B1 gC ?_;try simp only [W,Nat.reduceAdd]
 refine BJ Fh ?_;refine BC fun K2 zF=> ?_;refine BC fun K3 Fw=> ?_;refine B1 gC ?_;try simp only [W,Nat.reduceAdd]
 refine Cu h fun FM He h=> ?_;refine R8 He hS fun H hS=> ?_;try simp only [W]
 refine BJ Fw ?_;refine BH ?_;simp only [W];refine B0 h (fun hc h=> ?_) (fun hc h=> ?_)
 ·refine BC fun K5 FQ=> ?_;refine B1 gC ?_;try simp only [W,Nat.reduceAdd]
  refine BJ FQ ?_;refine BF ?_;refine BK zF ?_;refine BV Ff rfl rfl ?_;try obtain rfl:=Option.some.inj h
  exact hP _ hS
 ·refine BE ?_;refine BJ zF ?_;refine BC fun K6 Gi=> ?_;refine B1 gC ?_;try simp only [W,Nat.reduceAdd]
  refine Cu h fun Fm Iw h=> ?_;refine Sb Iw hS fun H hS=> ?_;try simp only [W]
  refine BJ Gi ?_;refine BF ?_;refine BV Ff rfl rfl ?_;try obtain rfl:=Option.some.inj h
  exact hP _ hS
theorem Sg {a0:Int} {a1:Int} {a2:List Task} {i2:Nat} {w2:Nat} {r:(Int)} (h:L3 a0 a1 a2=some r) {F:List It} {H:J} (kQ:⟨.ptr i2 w2 0 0,1,[.fz (a2.map Fg)]⟩∈F) (hS:ap H (F)) {P:AV→J→Prop} (hP: ∀H',ap H' (F)→P (.int .i64 r) H'):aw C 289 [.int .i64 a0,.int .i64 a1,.ptr i2 w2 0 0] H P:=by
 refine B4 gC (res:=[.tmp 5]) (n:=17) rfl rfl rfl rfl fun K0 Ff=> ?_;simp only [W,Nat.reduceSub,Nat.reduceAdd,List.replicate];unfold L3 at h;refine BC fun K1 Fh=> ?_;refine B1 gC ?_;try simp only [W,Nat.reduceAdd]
 refine BJ Fh ?_;refine BC fun K2 zF=> ?_;refine B3 gC (by kernel_rfl) ?_
 try simp only [W,Fe,Nat.reduceAdd,hS.CN kQ]
 refine Co rfl rfl rfl (fun _=>rfl) h fun b3 kV h=> ?_;try simp only [W,Fe,Ga,Nat.reduceAdd,Nat.reduceBEq,hS.CN kQ]
 refine Co rfl rfl rfl (fun _=>rfl) h fun FM He h=> ?_;try simp only [W,Fe,Ga,Nat.reduceAdd,Nat.reduceBEq]
 refine BJ zF ?_;refine BF ?_;refine BU Ff rfl ?_;try obtain rfl:=Option.some.inj h
 exact hP _ hS
theorem PN {a0:List Int} {a1:Int} {a2:Int} {g3:Int→Int→Option Int} {f3:FuncId} {c3:List AV} {m0:AV} {r:(List Int)} (h:IG a0 a1 a2 g3=some r) {F:List It} {H:J} (nZ: ∀{x0:Int} {GG:Int} {r:Int},g3 x0 GG=some r→ ∀(L:List It) (n:Nat),L.drop n=F→ ∀(H:J),ap H L→ ∀(P:AV→J→Prop),(∀H',ap H' L→P (.int .i64 r) H')→aw C f3 ([.int .i64 x0,.int .i64 GG] ++ c3) H P) (hS:ap H (⟨m0,1,a0.map (AV.int .i64)⟩::F)) (Gx:aJ m0) {P:AV→J→Prop} (hP: ∀H',ap H' (⟨m0,1,r.map (AV.int .i64)⟩::F)→P (.aA []) H'):aw C 321 [m0,.int .i64 a1,.int .i64 a2,.fn f3 c3] H P:=by
 refine B4 gC (res:=[]) (n:=53) rfl rfl rfl rfl fun K0 Ff=> ?_;simp only [W,Nat.reduceSub,Nat.reduceAdd,List.replicate];unfold IG at h;refine BC fun K1 Fh=> ?_;refine B1 gC ?_;try simp only [W,Fe,Nat.reduceAdd]
 refine BJ Fh ?_;obtain ⟨Ho,HQ,GR⟩:=Option.bind_eq_some_iff.1 h;refine Cz gC (fun s H=> ∃Fp:List Int,Ho=(Fp)∧s=[u,u,u,u,u,u,u,u,u,u,u,u,u,u,u,u,u,u,u,u,u,u,u,u,u,u,u,u,u,u,u,u,u,u,u,u,u,u,u,u,u,u,u,u,u,u,u,u,u,u,u,u,u]∧ap H (⟨m0,1,Fp.map (AV.int .i64)⟩::F)) (fun K7 FW=> ?_) (fun s H hq=> ?_)
 ·refine BD fun K8 F1=> ?_;refine Cv gC HQ (fun x s H=>match x with|(Hd,x3)=>s=[m0,.int .i64 a1,.int .i64 a2,.fn f3 c3,u,u,u,u,.int .i64 x3,u,u,u,u,u,u,u,u,u,u,u,u,u,u,u,u,u,u,u,u,u,u,u,u,u,u,u,u,u,u,u,u,u,u,u,u,u,u,u,u,u,u,u,u]∧ap H (⟨m0,1,Hd.map (AV.int .i64)⟩::F)) ⟨rfl,hS⟩ (fun x Hn s H h GS hi K9 FU=> ?_)
  obtain ⟨Hd,x3⟩:=x;try dsimp only at hi
  obtain ⟨rfl,hS⟩:=hi;simp only [L5] at h;refine BC fun Hz F2=> ?_;refine BC fun HA FP=> ?_;refine B1 gC ?_;try simp only [W,Fe,Nat.reduceAdd]
  refine BJ FP ?_;refine BH ?_;simp only [W];refine B0 h (fun hc h=> ?_) (fun hc h=> ?_)
  ·refine BE ?_;refine BJ F2 ?_;refine BC fun Hl FF=> ?_;refine BD fun HK FV=> ?_;refine BC fun Hm FL=> ?_;refine B1 gC ?_;try simp only [W,Nat.reduceAdd]
   refine BJ FL ?_;obtain ⟨NH,NI,NJ⟩:=Option.bind_eq_some_iff.1 h;refine Cz gC (fun s H=> ∃KA:List Int,NH=(KA)∧s=[m0,.int .i64 a1,.int .i64 a2,.fn f3 c3,u,u,u,u,.int .i64 x3,u,u,u,u,u,u,u,u,u,u,u,u,u,u,u,u,u,u,u,u,u,u,u,u,u,u,u,u,u,u,u,u,u,u,u,u,u,u,u,u,u,u,u,u]∧ap H (⟨m0,1,KA.map (AV.int .i64)⟩::F)) (fun IL GJ=> ?_) (fun s H hq=> ?_)
   ·refine BD fun Jq GL=> ?_;refine Cv gC NI (fun x s H=>match x with|(Gs,Gc)=>s=[m0,.int .i64 a1,.int .i64 a2,.fn f3 c3,u,u,u,u,.int .i64 x3,.int .i64 Gc,u,u,u,u,u,u,u,u,u,u,u,u,u,u,u,u,u,u,u,u,u,u,u,u,u,u,u,u,u,u,u,u,u,u,u,u,u,u,u,u,u,u,u]∧ap H (⟨m0,1,Gs.map (AV.int .i64)⟩::F)) ⟨rfl,hS⟩ (fun x Si s H h NK hi JU GV=> ?_)
    obtain ⟨Gs,Gc⟩:=x;try dsimp only at hi
    obtain ⟨rfl,hS⟩:=hi;simp only [Kz] at h;refine BC fun Lj Hp=> ?_;refine BC fun KZ HC=> ?_;obtain ⟨Sj,h,Sk⟩:=Option.bind_eq_some_iff.1 h;refine Cz gC (fun s H=> ∃GX:Bool,Sj=(GX)∧s=[m0,.int .i64 a1,.int .i64 a2,.fn f3 c3,u,u,u,u,.int .i64 x3,.int .i64 Gc,u,u,u,u,u,u,u,u,u,u,u,u,u,u,u,u,u,u,u,u,u,u,u,u,.bool GX,u,u,u,u,u,u,u,u,u,u,u,u,u,u,u,u,u,u]∧ap H (⟨m0,1,Gs.map (AV.int .i64)⟩::F)) (fun PO JV=> ?_) (fun s H hq=> ?_)
    ·refine BC fun NL Ix=> ?_;refine Da gC [(14,[])] (by kernel_rfl) rfl (by kernel_rfl) ?_
     try simp only [W,Fe,reduceIte,Nat.reduceAdd,iV,lQ,Nat.reduceEqDiff]
     refine C8 h (fun hc h=> ?_) (fun hc h=> ?_)
     ·try simp only [W,Fe,hc]
      refine Cp 0 hS rfl rfl rfl rfl rfl h (fun OE Xw Xx Xy Sl h Sm=> ?_) Gx.ne;obtain ⟨Xz,Sn,So⟩:=hS.elem 0 rfl Sm Sl;try simp only [W,Fe,Sn,So]
      refine Cp 0 hS rfl rfl rfl rfl rfl h (fun JG XA XB XC NM h Sp=> ?_) Gx.ne;obtain ⟨XD,Sq,Sr⟩:=hS.elem 0 rfl Sp NM;try simp only [W,Fe,Sq,Sr]
      refine Cu h fun G3 Ss h=> ?_;refine nZ Ss _ 1 rfl _ hS _ fun H hS=> ?_;try simp only [W,Fe,reduceIte]
      refine BJ Ix ?_;refine BI ?_;exact CA JV ⟨_,(Option.some.inj h).symm,rfl,hS⟩
     ·try simp only [W,hc]
      refine BJ Ix ?_;refine BI ?_;exact CA JV ⟨_,(Option.some.inj h).symm,rfl,hS⟩
    ·obtain ⟨GX,Fl,rfl,hS⟩:=hq;obtain rfl:=Fl.symm;replace h:=Sk;try dsimp only at h
     refine BJ HC ?_;refine BH ?_;simp only [W];refine B0 h (fun hc h=> ?_) (fun hc h=> ?_)
     ·refine BE ?_;refine BJ Hp ?_;refine BC fun PP JW=> ?_;refine BD fun PQ JX=> ?_;refine Da gC [(15,[2,3,4]),(17,[])] (by kernel_rfl) rfl (by kernel_rfl) ?_
      try simp only [W,Fe,reduceIte,Nat.reduceAdd,iV,lQ,Nat.reduceEqDiff]
      refine Cp 0 hS rfl rfl rfl rfl rfl h (fun Hc Su Sv Sw Iy h Iz=> ?_) Gx.ne;obtain ⟨Sx,NN,NO⟩:=hS.elem 0 rfl Iz Iy;try simp only [W,Fe,NN,NO]
      refine Cp 0 hS rfl rfl rfl rfl rfl h (fun L4 XE XF XG Js h Jt=> ?_) Gx.ne;obtain ⟨XH,Sy,Sz⟩:=hS.elem 0 rfl Jt Js;try simp only [W,Fe,Sy,Sz]
      refine Cp 0 hS rfl rfl rfl rfl rfl h (fun XI XJ XK XL IW h IX=> ?_) Gx.ne;obtain ⟨XM,XO,XP⟩:=hS.elem 0 rfl IX IW;try simp only [W]
      refine Cq (a:= .int .i64 Hc) (y' :=Hc) 0 hS rfl IX IW rfl rfl rfl rfl rfl rfl rfl fun H hS=> ?_
      refine Db ?_;refine Dc (by first|rfl|(simp [aP,W,Fe,Ga,bS,jM,aH,AV.cells];done)|exact DT 0 hS rfl rfl rfl rfl rfl Lo Lp rfl rfl rfl rfl|exact DU 0 hS rfl rfl Lo Lp rfl rfl rfl|exact DT 0 hS rfl rfl rfl rfl rfl Lq Lr rfl rfl rfl rfl|exact DU 0 hS rfl rfl Lq Lr rfl rfl rfl|exact DT 0 hS rfl rfl rfl rfl rfl Iz Iy rfl rfl rfl rfl|exact DU 0 hS rfl rfl Iz Iy rfl rfl rfl|exact DT 0 hS rfl rfl rfl rfl rfl Jt Js rfl rfl rfl rfl|exact DU 0 hS rfl rfl Jt Js rfl rfl rfl|exact DT 0 hS rfl rfl rfl rfl rfl IX IW rfl rfl rfl rfl|exact DU 0 hS rfl rfl IX IW rfl rfl rfl) ?_
      refine Dc (by first|rfl|(simp [aP,W,Fe,Ga,bS,jM,aH,AV.cells];done)|exact DT 0 hS rfl rfl rfl rfl rfl Lo Lp rfl rfl rfl rfl|exact DU 0 hS rfl rfl Lo Lp rfl rfl rfl|exact DT 0 hS rfl rfl rfl rfl rfl Lq Lr rfl rfl rfl rfl|exact DU 0 hS rfl rfl Lq Lr rfl rfl rfl|exact DT 0 hS rfl rfl rfl rfl rfl Iz Iy rfl rfl rfl rfl|exact DU 0 hS rfl rfl Iz Iy rfl rfl rfl|exact DT 0 hS rfl rfl rfl rfl rfl Jt Js rfl rfl rfl rfl|exact DU 0 hS rfl rfl Jt Js rfl rfl rfl|exact DT 0 hS rfl rfl rfl rfl rfl IX IW rfl rfl rfl rfl|exact DU 0 hS rfl rfl IX IW rfl rfl rfl) ?_
      refine Dc (by first|rfl|(simp [aP,W,Fe,Ga,bS,jM,aH,AV.cells];done)|exact DT 0 hS rfl rfl rfl rfl rfl Lo Lp rfl rfl rfl rfl|exact DU 0 hS rfl rfl Lo Lp rfl rfl rfl|exact DT 0 hS rfl rfl rfl rfl rfl Lq Lr rfl rfl rfl rfl|exact DU 0 hS rfl rfl Lq Lr rfl rfl rfl|exact DT 0 hS rfl rfl rfl rfl rfl Iz Iy rfl rfl rfl rfl|exact DU 0 hS rfl rfl Iz Iy rfl rfl rfl|exact DT 0 hS rfl rfl rfl rfl rfl Jt Js rfl rfl rfl rfl|exact DU 0 hS rfl rfl Jt Js rfl rfl rfl|exact DT 0 hS rfl rfl rfl rfl rfl IX IW rfl rfl rfl rfl|exact DU 0 hS rfl rfl IX IW rfl rfl rfl) ?_
      refine Dd ?_;try simp only [W,Fe]
      refine Cp 0 hS rfl rfl rfl rfl rfl h (fun LD XQ XR XS PR h PS=> ?_) Gx.ne;obtain ⟨XT,XU,XV⟩:=hS.elem 0 rfl PS PR;try simp only [W]
      refine Cq (a:= .int .i64 L4) (y' :=L4) 0 hS rfl PS PR rfl rfl rfl rfl rfl rfl rfl fun H hS=> ?_
      try simp only [W]
      refine BN JX ?_;refine BJ JW ?_;refine B1 gC ?_;try simp only [W,Fe,Nat.reduceAdd]
      exact Cw GV h ⟨rfl,hS⟩
     ·refine BG ?_;refine BL Hp ?_;try obtain rfl:=Option.some.inj h
      obtain rfl:=NK _ rfl;have h:(some (Gs):Option ((List Int)))=some (Gs):=rfl;refine Cx GV ?_;refine BP GL ?_;exact CA GJ ⟨_,(Option.some.inj h).symm,rfl,hS⟩
   ·obtain ⟨KA,Fl,rfl,hS⟩:=hq;obtain rfl:=Fl.symm;replace h:=NJ;try dsimp only at h
    refine BN FV ?_;refine BJ FF ?_;refine B1 gC ?_;try simp only [W,Fe,Nat.reduceAdd]
    exact Cw FU h ⟨rfl,hS⟩
  ·refine BG ?_;refine BL F2 ?_;try obtain rfl:=Option.some.inj h
   obtain rfl:=GS _ rfl;have h:(some (Hd):Option ((List Int)))=some (Hd):=rfl;refine Cx FU ?_;refine BP F1 ?_;exact CA FW ⟨_,(Option.some.inj h).symm,rfl,hS⟩
 ·obtain ⟨Fp,Fl,rfl,hS⟩:=hq;obtain rfl:=Fl.symm;replace h:=GR;try dsimp only at h
  refine BZ Ff ?_;try obtain rfl:=Option.some.inj h
  exact hP _ hS
theorem SA {a0:List Int} {a1:Int} {g2:Int→Int→Option Int} {f2:FuncId} {c2:List AV} {m0:AV} {r:(List Int)} (h:KD a0 a1 g2=some r) {F:List It} {H:J} (nY: ∀{x0:Int} {GG:Int} {r:Int},g2 x0 GG=some r→ ∀(L:List It) (n:Nat),L.drop n=F→ ∀(H:J),ap H L→ ∀(P:AV→J→Prop),(∀H',ap H' L→P (.int .i64 r) H')→aw C f2 ([.int .i64 x0,.int .i64 GG] ++ c2) H P) (hS:ap H (⟨m0,1,a0.map (AV.int .i64)⟩::F)) (Gx:aJ m0) {P:AV→J→Prop} (hP: ∀H',ap H' (⟨m0,1,r.map (AV.int .i64)⟩::F)→P (.aA []) H'):aw C 287 [m0,.int .i64 a1,.fn f2 c2] H P:=by
 refine B4 gC (res:=[]) (n:=63) rfl rfl rfl rfl fun K0 Ff=> ?_;simp only [W,Nat.reduceSub,Nat.reduceAdd,List.replicate];unfold KD at h;refine BC fun K1 Fh=> ?_;refine B1 gC ?_;try simp only [W,Nat.reduceAdd]
 refine BJ Fh ?_;refine BC fun K2 zF=> ?_;refine B1 gC ?_;try simp only [W,Nat.reduceAdd]
 refine BJ zF ?_;refine BC fun K3 Fw=> ?_;obtain ⟨SB,SC,MU⟩:=Option.bind_eq_some_iff.1 h;refine Cz gC (fun s H=> ∃F4:List Int,∃Fk:Int,SB=(F4,Fk)∧s=(m0:: .int .i64 a1:: .fn f2 c2::u::u::u:: .int .i64 20:: .int .i64 Fk::u::u::u::u::u::u::u::u::u::u::u::u::u::u::u::u::u::u::u::u::u::u::u::u::u::u::u::u::u::u::u::u::u::u::u::u::u::u::u::u::u::u::u::u::u::u::u::u::u::u::u::u::u::u::u::[])∧ap H (⟨m0,1,F4.map (AV.int .i64)⟩::F)) (fun JQ G4=> ?_) (fun s H hq=> ?_)
 ·refine BD fun Jh Gw=> ?_;refine Cv gC SC (fun x s H=>match x with|(Fp,Fo,Je)=>s=(m0:: .int .i64 a1:: .fn f2 c2::u::u::u:: .int .i64 20:: .int .i64 Fo:: .int .i64 Je::u::u::u::u::u::u::u::u::u::u::u::u::u::u::u::u::u::u::u::u::u::u::u::u::u::u::u::u::u::u::u::u::u::u::u::u::u::u::u::u::u::u::u::u::u::u::u::u::u::u::u::u::u::u::[])∧ap H (⟨m0,1,Fp.map (AV.int .i64)⟩::F)) ⟨rfl,hS⟩ (fun x Pc s H h SD hi Hz F2=> ?_)
  obtain ⟨Fp,Fo,Je⟩:=x;try dsimp only at hi
  obtain ⟨rfl,hS⟩:=hi;simp only [KB] at h;refine BC fun Hm FL=> ?_;refine BC fun IK Gq=> ?_;refine B1 gC ?_;try simp only [W,Fe,Nat.reduceAdd]
  refine BJ Gq ?_;refine BH ?_;simp only [W];refine B0 h (fun hc h=> ?_) (fun hc h=> ?_)
  ·refine BE ?_;refine BJ FL ?_;refine BD fun Ii Gh=> ?_;refine BC fun HB FX=> ?_;refine B1 gC ?_;try simp only [W,Nat.reduceAdd]
   refine Cu h fun G8 PI h=> ?_;refine PN PI nY hS Gx fun H hS=> ?_;try simp only [W]
   refine BJ FX ?_;refine BC fun H7 Gg=> ?_;refine B1 gC ?_;try simp only [W,Nat.reduceAdd]
   refine BJ Gg ?_;refine B1 gC ?_;try simp only [W,Fe,Nat.reduceAdd]
   refine BN Gh ?_;exact Cw F2 h ⟨rfl,hS⟩
  ·refine BG ?_;refine BL FL ?_;try obtain rfl:=Option.some.inj h
   obtain rfl:=SD _ rfl;have h:(some (Fp,Fo):Option ((List Int)×Int))=some (Fp,Fo):=rfl;refine Cx F2 ?_;refine BP Gw ?_;exact CA G4 ⟨_,_,(Option.some.inj h).symm,rfl,hS⟩
 ·obtain ⟨F4,Fk,rfl,rfl,hS⟩:=hq;replace h:=MU;try dsimp only at h
  refine BJ Fw ?_;refine BC fun JU GV=> ?_;refine B1 gC ?_;try simp only [W,Nat.reduceAdd]
  refine Cu h fun G0 NF h=> ?_;refine PN NF nY hS Gx fun H hS=> ?_;try simp only [W]
  refine BJ GV ?_;obtain ⟨SE,SG,Nt⟩:=Option.bind_eq_some_iff.1 h;refine Cz gC (fun s H=>SE=()∧s=(u::u::u::u::u::u::u::u::u::u::u::u::u::u::u::u::u::u::u::u::u::u::u::u::u::u::u::u::u::u::u::u::u::u::u::u::u::u::u::u::u::u::u::u::u::u::u::u::u::u::u::u::u::u::u::u::u::u::u::u::u::u::u::[])∧ap H (⟨m0,1,G0.map (AV.int .i64)⟩::F)) (fun KZ HC=> ?_) (fun s H hq=> ?_)
  ·refine BD fun K_ HD=> ?_;refine Cv gC SG (fun x s H=>s=(m0:: .int .i64 a1:: .fn f2 c2::u::u::u:: .int .i64 x::u::u::u::u::u::u::u::u::u::u::u::u::u::u::u::u::u::u::u::u::u::u::u::u::u::u::u::u::u::u::u::u::u::u::u::u::u::u::u::u::u::u::u::u::u::u::u::u::u::u::u::u::u::u::u::u::[])∧ap H (⟨m0,1,G0.map (AV.int .i64)⟩::F)) ⟨rfl,hS⟩ (fun GA PG s H h SH hi Nq Is=> ?_)
   skip
   try dsimp only at hi
   obtain ⟨rfl,hS⟩:=hi;simp only [KC] at h;refine BC fun Nu Iu=> ?_;refine BC fun Nv IV=> ?_;refine B1 gC ?_;try simp only [W,Fe,Nat.reduceAdd]
   refine BJ IV ?_;refine BH ?_;simp only [W];refine B0 h (fun hc h=> ?_) (fun hc h=> ?_)
   ·refine BE ?_;refine BJ Iu ?_;refine BD fun Pe KV=> ?_;refine BC fun Pf JR=> ?_;refine B1 gC ?_;try simp only [W,Fe,Nat.reduceAdd]
    refine BJ JR ?_;refine BC fun M1 IN=> ?_;obtain ⟨SI,SJ,SK⟩:=Option.bind_eq_some_iff.1 h;refine Cz gC (fun s H=>SI=()∧s=(m0:: .int .i64 a1:: .fn f2 c2::u::u::u:: .int .i64 GA:: .int .i64 0::u::u::u::u::u::u::u::u::u::u::u::u::u::u::u::u::u::u::u::u::u::u::u::u::u::u::u::u::u::u::u::u::u::u::u::u::u::u::u::u::u::u::u::u::u::u::u::u::u::u::u::u::u::u::u::[])∧ap H (⟨m0,1,G0.map (AV.int .i64)⟩::F)) (fun SL NP=> ?_) (fun s H hq=> ?_)
    ·refine BD fun Pj Ji=> ?_;refine Cv gC SJ (fun x s H=>s=(m0:: .int .i64 a1:: .fn f2 c2::u::u::u:: .int .i64 GA:: .int .i64 0:: .int .i64 (IntKind.i64.wrap (2*GA))::u::u::u::u::u::u::u::u::u::u::u::u::u::u::u::u::u::u::u::u::u::u::u::u::u::u::u::u::u::u::u::u::u::u::u::u::u::u::u::u::u::u::u::u::u::u::u::u::u::u::u::u::u::u::[])∧ap H (⟨m0,1,G0.map (AV.int .i64)⟩::F)) ⟨rfl,hS⟩ (fun x XW s H h SM hi Mf HL=> ?_)
     skip
     try dsimp only at hi
     obtain ⟨rfl,hS⟩:=hi;simp only [OF] at h;refine BC fun SN Mq=> ?_;refine BC fun SO H9=> ?_;refine B1 gC ?_;try simp only [W,Fe,Nat.reduceAdd]
     refine BJ H9 ?_;refine BH ?_;simp only [W];refine B0 h (fun hc h=> ?_) (fun hc h=> ?_)
     ·refine BE ?_;refine BJ Mq ?_;refine BD fun PT HE=> ?_;refine BC fun Lb HO=> ?_;refine B1 gC ?_;try simp only [W,Fe,Nat.reduceAdd]
      exact absurd h (by simp)
     ·refine BG ?_;refine BL Mq ?_;try obtain rfl:=Option.some.inj h
      obtain rfl:=SM _ rfl;have h:(some ():Option Unit)=some ():=rfl;refine Cx HL ?_;refine BP Ji ?_;exact CA NP ⟨(Option.some.inj h).symm,rfl,hS⟩
    ·obtain ⟨rfl,rfl,hS⟩:=hq;replace h:=SK;try dsimp only at h
     refine BJ IN ?_;refine BC fun NQ IY=> ?_;refine BC fun PU Ls=> ?_;refine B1 gC ?_;try simp only [W,Fe,Nat.reduceAdd]
     refine BJ Ls ?_;refine BC fun Nh IP=> ?_;refine B1 gC ?_;try simp only [W,Fe,Nat.reduceAdd]
     refine BJ IP ?_;obtain ⟨SP,h,SQ⟩:=Option.bind_eq_some_iff.1 h;refine Cz gC (fun s H=>SP=()∧s=(m0:: .int .i64 a1:: .fn f2 c2::u::u::u:: .int .i64 GA::u::u::u::u::u::u::u::u::u::u::u::u::u::u::u::u::u::u::u::u::u::u::u::u::u::u::u::u::u::u::u::u::u::u::u::u::u::u::u::u::u::u::u::u::u::u::u::u::u::u::u::u::u::u::u::u::[])∧ap H (⟨m0,1,G0.map (AV.int .i64)⟩::F)) (fun Pv Jm=> ?_) (fun s H hq=> ?_)
     ·refine BC fun Mh Ik=> ?_;refine BH ?_;simp only [W];refine B0 h (fun hc h=> ?_) (fun hc h=> ?_)
      ·refine B1 gC ?_;try simp only [W,Nat.reduceAdd]
       exact absurd h (by simp)
      ·refine BE ?_;refine BJ Ik ?_;refine EB (s' :=(m0:: .int .i64 a1:: .fn f2 c2::u::u::u:: .int .i64 GA::u::u::u::u::u::u::u::u::u::u::u::u::u::u::u::u::u::u::u::u::u::u::u::u::u::u::u::u::u::u::u::u::u::u::u::u::u::u::u::u::u::u::u::u::u::u::u::u::u::u::u::u::u::u::u::u::[])) rfl ?_
       exact CA Jm ⟨(Option.some.inj h).symm,rfl,hS⟩
     ·obtain ⟨rfl,rfl,hS⟩:=hq;replace h:=SQ;try dsimp only at h
      refine BJ IY ?_;refine B1 gC ?_;try simp only [W,Fe,Nat.reduceAdd]
      refine BN KV ?_;exact Cw Is h ⟨rfl,hS⟩
   ·refine BG ?_;refine BL Iu ?_;try obtain rfl:=Option.some.inj h
    obtain rfl:=SH _ rfl;have h:(some ():Option Unit)=some ():=rfl;refine Cx Is ?_;refine BP HD ?_;exact CA HC ⟨(Option.some.inj h).symm,rfl,hS⟩
  ·obtain ⟨rfl,rfl,hS⟩:=hq;replace h:=Nt;try dsimp only at h
   refine BZ Ff ?_;try obtain rfl:=Option.some.inj h
   exact hP _ hS
theorem SR {a0:List Int} {g1:Int→Int→Option Int} {f1:FuncId} {c1:List AV} {m0:AV} {r:(List Int)} (h:Jf a0 g1=some r) {F:List It} {H:J} (cP: ∀{x0:Int} {GG:Int} {r:Int},g1 x0 GG=some r→ ∀(L:List It) (n:Nat),L.drop n=F→ ∀(H:J),ap H L→ ∀(P:AV→J→Prop),(∀H',ap H' L→P (.int .i64 r) H')→aw C f1 ([.int .i64 x0,.int .i64 GG] ++ c1) H P) (hS:ap H (⟨m0,1,a0.map (AV.int .i64)⟩::F)) (Gx:aJ m0) {P:AV→J→Prop} (hP: ∀H',ap H' (⟨m0,1,r.map (AV.int .i64)⟩::F)→P (.aA []) H'):aw C 173 [m0,.fn f1 c1] H P:=by
 refine B4 gC (res:=[]) (n:=9) rfl rfl rfl rfl fun K0 Ff=> ?_;simp only [W,Nat.reduceSub,Nat.reduceAdd,List.replicate];unfold Jf at h;refine B1 gC ?_;try simp only [W,Fe,Nat.reduceAdd]
 refine uE 0 hS rfl Gx rfl ?_;try simp only [W]
 refine Cu h fun b1 nc h=> ?_;refine SA nc cP hS Gx fun H hS=> ?_;try simp only [W]
 refine BZ Ff ?_;try obtain rfl:=Option.some.inj h
 exact hP _ hS
theorem SS {a0:List Task} {r:(List Int)} (h:Jg a0=some r) {F:List It} {H:J} (hS:ap H (F)) {P:AV→J→Prop} (hP: ∀IA:AV,aJ IA→ ∀H',ap H' (⟨IA,1,r.map (AV.int .i64)⟩::F)→P (IA) H'):aw C 182 [.fz (a0.map Fg)] H P:=by
 refine B4 gC (res:=[.tmp 2]) (n:=20) rfl rfl rfl rfl fun K0 Ff=> ?_;simp only [W,Nat.reduceSub,Nat.reduceAdd,List.replicate];unfold Jg at h;refine BC fun K1 Fh=> ?_;refine B1 gC ?_;try simp only [W,Nat.reduceAdd]
 refine Ch hS rfl rfl rfl rfl fun Lf Lg H hS=> ?_;try simp only [W]
 refine BJ Fh ?_;refine BC fun K4 F6=> ?_;refine B1 gC ?_;try simp only [W,Nat.reduceAdd]
 refine Cs rfl rfl ?_;try simp only [W]
 refine BJ F6 ?_;refine BC fun K5 FQ=> ?_;refine BC fun K6 Gi=> ?_;refine B1 gC ?_;try simp only [W,Fe,Nat.reduceAdd,hS.var 0 rfl]
 refine BJ Gi ?_;obtain ⟨NB,NC,ND⟩:=Option.bind_eq_some_iff.1 h;refine Cz gC (fun s H=> ∃FC:List Int,NB=(FC)∧ ∃Gd:AV,aJ Gd∧s=[u,.ptr Lf Lg 0 0,u,Gd,u,u,u,u,u,u,u,u,u,u,u,u,u,u,u,u]∧ap H (⟨Gd,1,FC.map (AV.int .i64)⟩::⟨.ptr Lf Lg 0 0,1,[.fz (a0.map Fg)]⟩::F)) (fun Hl FF=> ?_) (fun s H hq=> ?_)
 ·refine BD fun HK FV=> ?_;refine Cv gC NC (fun x s H=>match x with|(F4,FE)=> ∃FA:AV,aJ FA∧s=[u,.ptr Lf Lg 0 0,u,FA,u,u,u,.int .i64 (a0.length:Int),.int .i64 FE,u,u,u,u,u,u,u,u,u,u,u]∧ap H (⟨FA,1,F4.map (AV.int .i64)⟩::⟨.ptr Lf Lg 0 0,1,[.fz (a0.map Fg)]⟩::F)) ⟨_,nw,rfl,(hS.z_ 1)⟩ (fun x R_ s H h NE hi Hm FL=> ?_)
  obtain ⟨F4,FE⟩:=x;try dsimp only at hi
  obtain ⟨FA,Jn,rfl,hS⟩:=hi;simp only [L6] at h;refine BC fun H8 Gn=> ?_;refine B1 gC ?_;try simp only [W,Fe,Nat.reduceAdd]
  refine BJ Gn ?_;refine BC fun H7 Gg=> ?_;refine BH ?_;simp only [W];refine B0 h (fun hc h=> ?_) (fun hc h=> ?_)
  ·refine BE ?_;refine BJ Gg ?_;refine BC fun IL GJ=> ?_;refine BD fun Jq GL=> ?_;refine BC fun JU GV=> ?_;refine B1 gC ?_;try simp only [W,Nat.reduceAdd]
   refine BJ GV ?_;refine B1 gC ?_;try simp only [W,Nat.reduceAdd]
   refine Ct (el:=([FE]:List Int).map (AV.int .i64)) hS rfl rfl rfl rfl rfl rfl rfl fun Ps H KY hS=> ?_;try simp only [W,Fe]
   refine CM (l:=F4) (c:=(AV.int .i64)) 1 hS rfl Jn rfl rfl rfl (hS.gZ 0 rfl KY) (fun _=>rfl) rfl h fun XX H HU SU hm h hS=> ?_;try simp only [W]
   refine BN GL ?_;refine BJ GJ ?_;refine B1 gC ?_;try simp only [W,Fe,Nat.reduceAdd]
   exact Cw FL h ⟨_,SU,rfl,(hS.C2 3 [1,2] (by decide))⟩
  ·refine BG ?_;refine BL Gg ?_;try obtain rfl:=Option.some.inj h
   obtain rfl:=NE _ rfl;have h:(some (F4):Option ((List Int)))=some (F4):=rfl;refine Cx FL ?_;refine BP FV ?_;exact CA FF ⟨_,(Option.some.inj h).symm,_,Jn,rfl,hS⟩
 ·obtain ⟨FC,Fl,Gd,IZ,rfl,hS⟩:=hq;obtain rfl:=Fl.symm;replace h:=ND;try dsimp only at h
  refine BJ FQ ?_;refine BC fun NG Jr=> ?_;refine B1 gC ?_;try simp only [W,Nat.reduceAdd]
  refine Cu h fun I_ SV h=> ?_;refine SR SV (fun h _ n hL _ hS _ hP=>Sg h (C3 hL (List.mem_of_getElem? (i:=0) rfl)) hS hP) hS IZ fun H hS=> ?_;try simp only [W]
  refine BJ Jr ?_;refine BC fun NL Ix=> ?_;refine B1 gC ?_;try simp only [W,Nat.reduceAdd]
  refine BJ Ix ?_;refine BF ?_;refine BU Ff rfl ?_;try obtain rfl:=Option.some.inj h
  exact hP _ IZ _ (hS.C2 2 [0] (by decide))
theorem SW {a0:List Int} {a1:Int} {a2:Int} {m0:AV} {r:(List Int)} (h:KF a0 a1 a2=some r) {F:List It} {H:J} (hS:ap H (⟨m0,1,a0.map (AV.int .i64)⟩::F)) (Gx:aJ m0) {P:AV→J→Prop} (hP: ∀NR:AV,aJ NR→ ∀H',ap H' (⟨NR,1,r.map (AV.int .i64)⟩::F)→P (NR) H'):aw C 294 [m0,.int .i64 a1,.int .i64 a2] H P:=by
 refine B4 gC (res:=[.tmp 6]) (n:=33) rfl rfl rfl rfl fun K0 Ff=> ?_;simp only [W,Nat.reduceSub,Nat.reduceAdd,List.replicate];unfold KF at h;refine BC fun K1 Fh=> ?_;refine B1 gC ?_;try simp only [W,Nat.reduceAdd]
 refine BJ Fh ?_;refine BC fun K2 zF=> ?_;refine B1 gC ?_;try simp only [W,Fe,Nat.reduceAdd]
 refine uE 0 hS rfl Gx rfl ?_;try simp only [W,Fe]
 refine Eo 0 hS rfl Gx rfl rfl rfl rfl h fun v4 x3 p8 h=> ?_;try simp only [W]
 refine BJ zF ?_;refine BC fun K5 FQ=> ?_;refine BC fun K6 Gi=> ?_;refine B1 gC ?_;try simp only [W,Fe,Nat.reduceAdd]
 refine BJ Gi ?_;refine BH ?_;simp only [W];refine B0 h (fun hc h=> ?_) (fun hc h=> ?_)
 ·refine BC fun K7 FW=> ?_;refine B1 gC ?_;try simp only [W,Nat.reduceAdd]
  refine BJ FW ?_;refine BF ?_;refine BK FQ ?_;refine BU Ff rfl ?_;try obtain rfl:=Option.some.inj h
  exact hP _ Gx _ hS
 ·refine BE ?_;refine BJ FQ ?_;refine BC fun K8 F1=> ?_;refine B1 gC ?_;try simp only [W,Fe,Nat.reduceAdd]
  refine uE 0 hS rfl Gx rfl ?_;try simp only [W]
  refine BJ F1 ?_;refine BC fun K9 FU=> ?_;refine Da gC [(6,[])] (by kernel_rfl) rfl (by kernel_rfl) ?_
  try simp only [W,Fe,reduceIte,Nat.reduceAdd,iV,lQ,Nat.reduceEqDiff]
  refine Ek 0 hS rfl Gx rfl rfl rfl h fun v11 FE Mr SX NS h=> ?_;try simp only [W,Fe]
  refine Ek 0 hS rfl Gx rfl rfl rfl h fun Gy FH Ms SY NT h=> ?_;try simp only [W,Fe]
  refine Ep (l:=a0) (c:=(AV.int .i64)) 0 hS rfl Mr SX NS rfl rfl rfl (hS.wI 0 rfl SY NT) (fun _=>rfl) rfl h fun RK H Fs Mn SZ h hS S0=> ?_;try simp only [W]
  refine BJ FU ?_;refine BC fun Hm FL=> ?_;refine B1 gC ?_;try simp only [W,Fe,Nat.reduceAdd]
  refine uE 0 hS rfl Mn rfl ?_;try simp only [W,Fe]
  have PV:=S0 rfl (by obtain ⟨_,_,_,_⟩:=Ew p8;obtain ⟨_,_,_,_⟩:=Ew NS;obtain ⟨_,_,_,_⟩:=Ew NT;simp only [Option.getD_some,Option.getD_none] at*;omega)
  have PW:(Fs).length≤(a0).length:=by have:=Ev SZ;obtain ⟨_,_,_,_⟩:=Ew p8;obtain ⟨_,_,_,_⟩:=Ew NS;obtain ⟨_,_,_,_⟩:=Ew NT;simp only [Option.getD_some,Option.getD_none] at*;omega
  refine Er 0 hS rfl rfl rfl rfl PV rfl PW fun Lt S1=> ?_;try simp only [W]
  refine Eu 0 hS rfl rfl rfl rfl rfl PV PW S1 fun H hS=> ?_;try simp only [W]
  refine BJ FL ?_;refine BC fun HB FX=> ?_;refine B1 gC ?_;try simp only [W,Nat.reduceAdd]
  refine BJ FX ?_;refine BF ?_;refine BU Ff rfl ?_;try obtain rfl:=Option.some.inj h
  exact hP _ Mn _ hS
theorem PX {a0:List Task} {r:(List Int×Int)} (h:JK a0=some r) {F:List It} {H:J} (hS:ap H (F)) {P:AV→J→Prop} (hP: ∀NU:AV,aJ NU→ ∀H',ap H' (⟨NU,1,r.1.map (AV.int .i64)⟩::F)→P (.aA [NU,.int .i64 r.2]) H'):aw C 203 [.fz (a0.map Fg)] H P:=by
 refine B4 gC (res:=[.tmp 2,.tmp 3]) (n:=90) rfl rfl rfl rfl fun K0 Ff=> ?_;simp only [W,Nat.reduceSub,Nat.reduceAdd,List.replicate];unfold JK at h;refine BC fun K1 Fh=> ?_;refine B1 gC ?_;try simp only [W,Nat.reduceAdd]
 refine BJ Fh ?_;refine BC fun K2 zF=> ?_;refine B1 gC ?_;try simp only [W,Nat.reduceAdd]
 refine Cs rfl rfl ?_;try simp only [W]
 refine Cs rfl rfl ?_;try simp only [W]
 refine BJ zF ?_;refine BC fun K3 Fw=> ?_;refine BC fun K4 F6=> ?_;refine B1 gC ?_;try simp only [W,Nat.reduceAdd]
 refine Cu h fun Fy Lh h=> ?_;refine SS Lh hS fun v6 GP H hS=> ?_;try simp only [W,Fe]
 refine uE 0 hS rfl GP rfl ?_;try simp only [W]
 refine BJ F6 ?_;obtain ⟨S2,S3,S4⟩:=Option.bind_eq_some_iff.1 h;refine Cz gC (fun s H=> ∃F9:List Int,∃Gs:List Int,S2=(F9,Gs)∧ ∃Iq:AV,aJ Iq∧ ∃IS:AV,aJ IS∧s=(u::u::u::u::Iq::IS::u::u::u::u::u::u::u::u::u::u::u::u::u::u::u::u::u::u::u::u::u::u::u::u::u::u::u::u::u::u::u::u::u::u::u::u::u::u::u::u::u::u::u::u::u::u::u::u::u::u::u::u::u::u::u::u::u::u::u::u::u::u::u::u::u::u::u::u::u::u::u::u::u::u::u::u::u::u::u::u::u::u::u::u::[])∧ap H (⟨Iq,1,F9.map (AV.int .i64)⟩::⟨IS,1,Gs.map (AV.int .i64)⟩::F)) (fun H7 Gg=> ?_) (fun s H hq=> ?_)
 ·refine BD fun IL GJ=> ?_;refine Cv gC S3 (fun x s H=>match x with|(Fk,FC,Fs,FD)=> ∃GQ:AV,aJ GQ∧ ∃Gd:AV,aJ Gd∧s=(.fz (a0.map Fg)::u::u::u::GQ::Gd:: .int .i64 Fs::u::u::u::u::u::u::u::u::v6:: .int .i64 (Fy.length:Int):: .int .i64 FD::u::u::u::u::u::u::u::u::u::u::u::u::u::u::u::u::u::u::u::u::u::u::u::u::u::u::u::u::u::u::u::u::u::u::u::u::u::u::u::u::u::u::u::u::u::u::u::u::u::u::u::u::u::u::u::u::u::u::u::u::u::u::u::u::u::u::u::u::u::u::u::u::[])∧ap H (⟨GQ,1,Fk.map (AV.int .i64)⟩::⟨Gd,1,FC.map (AV.int .i64)⟩::⟨v6,1,Fy.map (AV.int .i64)⟩::F)) ⟨_,nw,_,nw,rfl,((hS.z_ 1).z_ 1)⟩ (fun x XY s H h S5 hi Jq GL=> ?_)
  obtain ⟨Fk,FC,Fs,FD⟩:=x;try dsimp only at hi
  obtain ⟨GQ,G5,Gd,IZ,rfl,hS⟩:=hi;simp only [KH] at h;refine BC fun Nn Jo=> ?_;refine B1 gC ?_;try simp only [W,Fe,Nat.reduceAdd]
  refine BJ Jo ?_;refine BC fun Lj Hp=> ?_;refine BH ?_;simp only [W];refine B0 h (fun hc h=> ?_) (fun hc h=> ?_)
  ·refine BE ?_;refine BJ Hp ?_;refine BC fun KZ HC=> ?_;obtain ⟨S6,h,S7⟩:=Option.bind_eq_some_iff.1 h;refine Cz gC (fun s H=> ∃KI:List Int,∃F8:List Int,∃F0:Int,S6=(KI,F8,F0)∧ ∃IT:AV,aJ IT∧ ∃IA:AV,aJ IA∧s=(.fz (a0.map Fg)::u::u::u::IT::IA:: .int .i64 F0::u::u::u::u::u::u::u::u::v6:: .int .i64 (Fy.length:Int):: .int .i64 FD::u::u::u::u::u::u::u::u::u::u::u::u::u::u::u::u::u::u::u::u::u::u::u::u::u::u::u::u::u::u::u::u::u::u::u::u::u::u::u::u::u::u::u::u::u::u::u::u::u::u::u::u::u::u::u::u::u::u::u::u::u::u::u::u::u::u::u::u::u::u::u::u::[])∧ap H (⟨IT,1,KI.map (AV.int .i64)⟩::⟨IA,1,F8.map (AV.int .i64)⟩::⟨v6,1,Fy.map (AV.int .i64)⟩::F)) (fun PP JW=> ?_) (fun s H hq=> ?_)
   ·refine BD fun K_ HD=> ?_;refine BC fun PQ JX=> ?_;refine B1 gC ?_;try simp only [W,Fe,Nat.reduceAdd]
    refine Cp 2 hS rfl rfl rfl rfl rfl h (fun Hc Su Sv Sw Iy h Iz=> ?_) GP.ne;obtain ⟨Sx,NN,NO⟩:=hS.elem 2 rfl Iz Iy;try simp only [W,Fe,NN,NO]
    refine BJ JX ?_;refine BC fun Mf HL=> ?_;refine B1 gC ?_;try simp only [W,Nat.reduceAdd]
    refine Ct (el:=([Hc]:List Int).map (AV.int .i64)) hS rfl rfl rfl rfl rfl rfl rfl fun XZ H S8 hS=> ?_;try simp only [W,Fe]
    refine CM (l:=Fk) (c:=(AV.int .i64)) 1 hS rfl G5 rfl rfl rfl (hS.gZ 0 rfl S8) (fun _=>rfl) rfl h fun G6 H Gv Ju hm h hS=> ?_;try simp only [W]
    refine BJ HL ?_;refine BC fun PT HE=> ?_;refine BC fun Lb HO=> ?_;refine B1 gC ?_;try simp only [W,Fe,Nat.reduceAdd]
    refine Co rfl rfl rfl (fun _=>rfl) h fun FN NV h=> ?_;try simp only [W,Fe,Ga,Nat.reduceAdd,Nat.reduceBEq]
    refine BJ HO ?_;refine BC fun NW I0=> ?_;refine B1 gC ?_;try simp only [W,Fe,Nat.reduceAdd]
    refine Co rfl rfl rfl (fun _=>rfl) h fun OH X0 h=> ?_;try simp only [W,Fe,Ga,Nat.reduceAdd,Nat.reduceBEq]
    refine BJ I0 ?_;refine BH ?_;simp only [W];refine B0 h (fun hc h=> ?_) (fun hc h=> ?_)
    ·refine BG ?_;refine BL HE ?_;refine BP HD ?_;exact CA JW ⟨_,_,_,(Option.some.inj h).symm,_,Ju,_,IZ,rfl,(hS.C2 4 [1,2,3] (by decide))⟩
    ·refine BE ?_;refine BJ HE ?_;refine BC fun PU Ls=> ?_;refine B1 gC ?_;try simp only [W,Nat.reduceAdd]
     refine BJ Ls ?_;refine BC fun Nh IP=> ?_;refine BC fun Pu JT=> ?_;refine B1 gC ?_;try simp only [W,Fe,Nat.reduceAdd]
     refine uE 1 hS rfl Ju rfl ?_;try simp only [W]
     refine BJ JT ?_;obtain ⟨S9,S_,Ta⟩:=Option.bind_eq_some_iff.1 h;refine Cz gC (fun s H=> ∃Gp:Int,S9=(Gp)∧s=(.fz (a0.map Fg)::u::u::u::G6::Gd:: .int .i64 (IntKind.i64.wrap (Fs+FN.Fi))::u::u:: .int .i64 Gp::u::u::u::u::u::v6:: .int .i64 (Fy.length:Int):: .int .i64 FD::u::u::u::u::u::u::u::u::u::u::u::u::u::u::u::u::u::u::u::u::u::u::u::u::u::u::u::u::u::u::u::u::u::u::u::u::u::u::u::u::u::u::u::u::u::u::u::u::u::u::u::u::u::u::u::u::u::u::u::u::u::u::u::u::u::u::u::u::u::u::u::u::[])∧ap H (⟨G6,1,Gv.map (AV.int .i64)⟩::⟨Gd,1,FC.map (AV.int .i64)⟩::⟨v6,1,Fy.map (AV.int .i64)⟩::F)) (fun X1 Tb=> ?_) (fun s H hq=> ?_)
     ·refine BD fun Mk Io=> ?_;refine Cv gC S_ (fun x s H=>match x with|(If,Gm)=>s=(.fz (a0.map Fg)::u::u::u::G6::Gd:: .int .i64 (IntKind.i64.wrap (Fs+FN.Fi))::u::u:: .int .i64 If::u::u::u::u::u::v6:: .int .i64 (Fy.length:Int):: .int .i64 FD::u::u::u::u::u::u::u::u::u::u::u::u::u::u::u::u::u::u::u::u::u::G6:: .int .i64 (Gv.length:Int):: .int .i64 Gm::u::u::u::u::u::u::u::u::u::u::u::u::u::u::u::u::u::u::u::u::u::u::u::u::u::u::u::u::u::u::u::u::u::u::u::u::u::u::u::u::u::u::u::u::u::u::u::u::[])∧ap H (⟨G6,1,Gv.map (AV.int .i64)⟩::⟨Gd,1,FC.map (AV.int .i64)⟩::⟨v6,1,Fy.map (AV.int .i64)⟩::F)) ⟨rfl,(hS.C2 4 [1,2,3] (by decide))⟩ (fun x X2 s H h Tc hi Td Mt=> ?_)
      obtain ⟨If,Gm⟩:=x;try dsimp only at hi
      obtain ⟨rfl,hS⟩:=hi;simp only [JH] at h;refine BC fun Po HN=> ?_;refine B1 gC ?_;try simp only [W,Fe,Nat.reduceAdd]
      refine BJ HN ?_;refine BC fun PY JY=> ?_;refine BH ?_;simp only [W];refine B0 h (fun hc h=> ?_) (fun hc h=> ?_)
      ·refine BE ?_;refine BJ JY ?_;refine BC fun Nk Ip=> ?_;obtain ⟨Te,h,Tf⟩:=Option.bind_eq_some_iff.1 h;refine Cz gC (fun s H=> ∃HG:Int,Te=(HG)∧s=(.fz (a0.map Fg)::u::u::u::G6::Gd:: .int .i64 (IntKind.i64.wrap (Fs+FN.Fi))::u::u:: .int .i64 HG::u::u::u::u::u::v6:: .int .i64 (Fy.length:Int):: .int .i64 FD::u::u::u::u::u::u::u::u::u::u::u::u::u::u::u::u::u::u::u::u::u::G6:: .int .i64 (Gv.length:Int):: .int .i64 Gm::u::u::u::u::u::u::u::u::u::u::u::u::u::u::u::u::u::u::u::u::u::u::u::u::u::u::u::u::u::u::u::u::u::u::u::u::u::u::u::u::u::u::u::u::u::u::u::u::[])∧ap H (⟨G6,1,Gv.map (AV.int .i64)⟩::⟨Gd,1,FC.map (AV.int .i64)⟩::⟨v6,1,Fy.map (AV.int .i64)⟩::F)) (fun X3 Tg=> ?_) (fun s H hq=> ?_)
       ·refine BD fun NX I1=> ?_;refine BC fun Th NY=> ?_;refine B1 gC ?_;try simp only [W,Fe,Nat.reduceAdd]
        refine Cp 0 hS rfl rfl rfl rfl rfl h (fun OG X4 X5 X6 Ti h Tj=> ?_) Ju.ne;obtain ⟨X7,Tk,Tl⟩:=hS.elem 0 rfl Tj Ti;try simp only [W,Fe,Tk,Tl]
        refine BJ NY ?_;refine BC fun M_ Il=> ?_;refine B3 gC (by kernel_rfl) ?_
        try simp only [W,Fe,Nat.reduceAdd]
        refine Co rfl rfl rfl (fun _=>rfl) h fun JI Tm h=> ?_;try simp only [W,Fe,Ga,Nat.reduceAdd,Nat.reduceBEq]
        refine Cp 0 hS rfl rfl rfl rfl rfl h (fun KG X8 X9 X_ PZ h Tn=> ?_) Ju.ne;obtain ⟨Ya,To,Tp⟩:=hS.elem 0 rfl Tn PZ;try simp only [W,Fe,To,Tp]
        refine Co rfl rfl rfl (fun _=>rfl) h fun I8 Yb h=> ?_;try simp only [W,Fe,Ga,Nat.reduceAdd,Nat.reduceBEq]
        refine BJ Il ?_;obtain ⟨Ld,h,Le⟩:=Option.bind_eq_some_iff.1 h;refine Cz gC (fun s H=> ∃GF:Int,Ld=(GF)∧s=(.fz (a0.map Fg)::u::u::u::G6::Gd:: .int .i64 (IntKind.i64.wrap (Fs+FN.Fi))::u::u:: .int .i64 GF::u::u::u::u::u::v6:: .int .i64 (Fy.length:Int):: .int .i64 FD::u::u::u::u::u::u::u::u::u::u::u::u::u::u::u::u::u::u::u::u::u::G6:: .int .i64 (Gv.length:Int):: .int .i64 Gm::u::u::u::u::u::u::u::u::u::u::u::u::u::u::u::u::u::u::u::u::u::u::u::u::u::u::u::u::u::u::u::u::u::u::u::u::u::u::u::u::u::u::u::u::u::u::u::u::[])∧ap H (⟨G6,1,Gv.map (AV.int .i64)⟩::⟨Gd,1,FC.map (AV.int .i64)⟩::⟨v6,1,Fy.map (AV.int .i64)⟩::F)) (fun PA IQ=> ?_) (fun s H hq=> ?_)
        ·refine BC fun Nm HP=> ?_;refine BH ?_;simp only [W];refine B0 h (fun hc h=> ?_) (fun hc h=> ?_)
         ·refine B1 gC ?_;try simp only [W,Nat.reduceAdd]
          refine BJ HP ?_;refine EB (s' :=(.fz (a0.map Fg)::u::u::u::G6::Gd:: .int .i64 (IntKind.i64.wrap (Fs+FN.Fi))::u::u:: .int .i64 Gm::u::u::u::u::u::v6:: .int .i64 (Fy.length:Int):: .int .i64 FD::u::u::u::u::u::u::u::u::u::u::u::u::u::u::u::u::u::u::u::u::u::G6:: .int .i64 (Gv.length:Int):: .int .i64 Gm::u::u::u::u::u::u::u::u::u::u::u::u::u::u::u::u::u::u::u::u::u::u::u::u::u::u::u::u::u::u::u::u::u::u::u::u::u::u::u::u::u::u::u::u::u::u::u::u::[])) rfl ?_
          exact CA IQ ⟨_,(Option.some.inj h).symm,rfl,hS⟩
         ·refine BE ?_;refine BJ HP ?_;refine EB (s' :=(.fz (a0.map Fg)::u::u::u::G6::Gd:: .int .i64 (IntKind.i64.wrap (Fs+FN.Fi))::u::u:: .int .i64 If::u::u::u::u::u::v6:: .int .i64 (Fy.length:Int):: .int .i64 FD::u::u::u::u::u::u::u::u::u::u::u::u::u::u::u::u::u::u::u::u::u::G6:: .int .i64 (Gv.length:Int):: .int .i64 Gm::u::u::u::u::u::u::u::u::u::u::u::u::u::u::u::u::u::u::u::u::u::u::u::u::u::u::u::u::u::u::u::u::u::u::u::u::u::u::u::u::u::u::u::u::u::u::u::u::[])) rfl ?_
          exact CA IQ ⟨_,(Option.some.inj h).symm,rfl,hS⟩
        ·obtain ⟨GF,Fl,rfl,hS⟩:=hq;obtain rfl:=Fl.symm;replace h:=Le;try dsimp only at h
         refine BM I1 ?_;exact CA Tg ⟨_,(Option.some.inj h).symm,rfl,hS⟩
       ·obtain ⟨HG,Fl,rfl,hS⟩:=hq;obtain rfl:=Fl.symm;replace h:=Tf;try dsimp only at h
        refine BJ Ip ?_;refine B1 gC ?_;try simp only [W,Fe,Nat.reduceAdd]
        exact Cw Mt h ⟨rfl,hS⟩
      ·refine BG ?_;refine BL JY ?_;try obtain rfl:=Option.some.inj h
       obtain rfl:=Tc _ rfl;have h:(some (If):Option (Int))=some (If):=rfl;refine Cx Mt ?_;refine BP Io ?_;exact CA Tb ⟨_,(Option.some.inj h).symm,rfl,hS⟩
     ·obtain ⟨Gp,Fl,rfl,hS⟩:=hq;obtain rfl:=Fl.symm;replace h:=Ta;try dsimp only at h
      refine BJ IP ?_;refine BC fun Yc Tq=> ?_;refine B1 gC ?_;try simp only [W,Fe,Nat.reduceAdd]
      refine Cp 0 hS rfl rfl rfl rfl rfl h (fun OI Yd Ye Yf Ts h Tt=> ?_) Ju.ne;obtain ⟨Yg,Tu,Tv⟩:=hS.elem 0 rfl Tt Ts;try simp only [W,Fe,Tu,Tv]
      refine Co rfl rfl rfl (fun _=>rfl) h fun OJ Yh h=> ?_;try simp only [W,Fe,Ga,Nat.reduceAdd,Nat.reduceBEq]
      refine BJ Tq ?_;refine BC fun Tw NZ=> ?_;refine B1 gC ?_;try simp only [W,Fe,Nat.reduceAdd]
      refine Cp 0 hS rfl rfl rfl rfl rfl h (fun JJ Yi Yj Yk P0 h Tx=> ?_) Ju.ne;obtain ⟨Yl,Ty,Tz⟩:=hS.elem 0 rfl Tx P0;try simp only [W,Fe,Ty,Tz]
      refine Ct (el:=([JJ]:List Int).map (AV.int .i64)) hS rfl rfl rfl rfl rfl rfl rfl fun Ym H TA hS=> ?_;try simp only [W,Fe]
      refine CM (l:=FC) (c:=(AV.int .i64)) 2 hS rfl IZ rfl rfl rfl (hS.gZ 0 rfl TA) (fun _=>rfl) rfl h fun Yn H OK TB hm h hS=> ?_;try simp only [W]
      refine BJ NZ ?_;refine B1 gC ?_;try simp only [W,Fe,Nat.reduceAdd]
      refine Cu h fun MP Ml h=> ?_;refine SW Ml (hS.C2 4 [1,0,2,3] (by decide)) Ju fun Yo TD H hS=> ?_
      try simp only [W]
      refine BM HD ?_;exact CA JW ⟨_,_,_,(Option.some.inj h).symm,_,TD,_,TB,rfl,(hS.C2 4 [0,2,3] (by decide))⟩
   ·obtain ⟨KI,F8,F0,rfl,IT,TE,IA,N0,rfl,hS⟩:=hq;replace h:=S7;try dsimp only at h
    refine BJ HC ?_;refine B1 gC ?_;try simp only [W,Fe,Nat.reduceAdd]
    exact Cw GL h ⟨_,TE,_,N0,rfl,hS⟩
  ·refine BG ?_;refine BL Hp ?_;try obtain rfl:=Option.some.inj h
   obtain rfl:=S5 _ rfl;have h:(some (Fk,FC):Option ((List Int)×(List Int)))=some (Fk,FC):=rfl;refine Cx GL ?_;refine BP GJ ?_;exact CA Gg ⟨_,_,(Option.some.inj h).symm,_,G5,_,IZ,rfl,(hS.C2 3 [0,1] (by decide))⟩
 ·obtain ⟨F9,Gs,rfl,Iq,Lu,IS,TF,rfl,hS⟩:=hq;replace h:=S4;try dsimp only at h
  refine BJ Fw ?_;refine BC fun Yp TG=> ?_;refine B1 gC ?_;try simp only [W,Fe,Nat.reduceAdd]
  have TJ:=hS.len 0 rfl Lu;refine CM (l:=F9) (c:=(AV.int .i64)) 0 hS rfl Lu rfl rfl rfl (hS.gZ 1 rfl TF) (fun _=>rfl) rfl h fun Yq H OL TK hm h hS=> ?_;try simp only [W,Fe]
  refine Ey TJ Lu rfl ?_;try simp only [W]
  refine BJ TG ?_;refine BF ?_;refine BV Ff rfl rfl ?_;try obtain rfl:=Option.some.inj h
  exact hP _ TK _ (hS.C2 2 [0] (by decide))
theorem TL {a0:List Task} {r:(List Int×Int×Bool)} (h:JL a0=some r) {F:List It} {H:J} (hS:ap H (F)) {P:AV→J→Prop} (hP: ∀Gy:AV,aJ Gy→ ∀H',ap H' (⟨Gy,1,r.1.map (AV.int .i64)⟩::F)→P (.aA [Gy,.int .i64 r.2.1,.bool r.2.2]) H'):aw C 62 [.fz (a0.map Fg)] H P:=by
 refine B4 gC (res:=[.tmp 2,.tmp 3,.tmp 4]) (n:=17) rfl rfl rfl rfl fun K0 Ff=> ?_;simp only [W,Nat.reduceSub,Nat.reduceAdd,List.replicate];unfold JL at h;refine BC fun K1 Fh=> ?_;refine B1 gC ?_;try simp only [W,Nat.reduceAdd]
 refine BJ Fh ?_;refine BC fun K2 zF=> ?_;refine BC fun K3 Fw=> ?_;refine B1 gC ?_;try simp only [W,Nat.reduceAdd]
 refine Cu h fun FM He h=> ?_;refine Mo He hS fun H hS=> ?_;try simp only [W]
 refine BJ Fw ?_;refine BH ?_;simp only [W];refine B0 h (fun hc h=> ?_) (fun hc h=> ?_)
 ·refine BC fun K5 FQ=> ?_;refine B1 gC ?_;try simp only [W,Nat.reduceAdd]
  refine BJ FQ ?_;refine BF ?_;refine BK zF ?_;refine BW Ff rfl rfl rfl ?_;try obtain rfl:=Option.some.inj h
  exact hP _ lN _ (hS.uX 1)
 ·refine BE ?_;refine BJ zF ?_;refine BC fun K6 Gi=> ?_;refine B1 gC ?_;try simp only [W,Nat.reduceAdd]
  refine Cu h fun Fm Iw h=> ?_;obtain ⟨Gl,Hi⟩:=Fm;try dsimp only at h
  refine PX Iw hS fun v10 GK H hS=> ?_;try simp only [W]
  refine BJ Gi ?_;refine BC fun Jh Gw=> ?_;refine B1 gC ?_;try simp only [W,Nat.reduceAdd]
  refine BJ Gw ?_;refine BF ?_;refine BW Ff rfl rfl rfl ?_;try obtain rfl:=Option.some.inj h
  exact hP _ GK _ hS
theorem P1 {a0:List Task} {r:(List Int)} (h:JM a0=some r) {F:List It} {H:J} (hS:ap H (F)) {P:AV→J→Prop} (hP: ∀N1:AV,aJ N1→ ∀H',ap H' (⟨N1,1,r.map (AV.int .i64)⟩::F)→P (N1) H'):aw C 184 [.fz (a0.map Fg)] H P:=by
 refine B4 gC (res:=[.tmp 2]) (n:=50) rfl rfl rfl rfl fun K0 Ff=> ?_;simp only [W,Nat.reduceSub,Nat.reduceAdd,List.replicate];unfold JM at h;refine BC fun K1 Fh=> ?_;refine B1 gC ?_;try simp only [W,Nat.reduceAdd]
 refine BJ Fh ?_;refine BC fun K2 zF=> ?_;refine B1 gC ?_;try simp only [W,Nat.reduceAdd]
 refine BJ zF ?_;refine BC fun K3 Fw=> ?_;refine BC fun K4 F6=> ?_;refine B1 gC ?_;try simp only [W,Fe,Nat.reduceAdd]
 refine BJ F6 ?_;obtain ⟨Hn,Jj,Jk⟩:=Option.bind_eq_some_iff.1 h;refine Cz gC (fun s H=> ∃Fq:List Int,Hn=(Fq)∧ ∃v10:AV,aJ v10∧s=[u,u,u,v10,u,u,u,u,u,u,u,u,u,u,u,u,u,u,u,u,u,u,u,u,u,u,u,u,u,u,u,u,u,u,u,u,u,u,u,u,u,u,u,u,u,u,u,u,u,u]∧ap H (⟨v10,1,Fq.map (AV.int .i64)⟩::F)) (fun Hz F2=> ?_) (fun s H hq=> ?_)
 ·refine BD fun HA FP=> ?_;refine Cv gC Jj (fun x s H=>match x with|(Fo,Fk)=> ∃v6:AV,aJ v6∧s=[.fz (a0.map Fg),u,u,v6,u,u,u,u,.fz (a0.map Fg),.int .i64 (a0.length:Int),.int .i64 Fk,u,u,u,u,u,u,u,u,u,u,u,u,u,u,u,u,u,u,u,u,u,u,u,u,u,u,u,u,u,u,u,u,u,u,u,u,u,u,u]∧ap H (⟨v6,1,Fo.map (AV.int .i64)⟩::F)) ⟨_,lN,rfl,(hS.uX 1)⟩ (fun x Nb s H h Jl hi Hl FF=> ?_)
  obtain ⟨Fo,Fk⟩:=x;try dsimp only at hi
  obtain ⟨v6,GP,rfl,hS⟩:=hi;simp only [L9] at h;refine BC fun Ii Gh=> ?_;refine B1 gC ?_;try simp only [W,Fe,Nat.reduceAdd]
  refine BJ Gh ?_;refine BC fun HB FX=> ?_;refine BH ?_;simp only [W];refine B0 h (fun hc h=> ?_) (fun hc h=> ?_)
  ·refine BE ?_;refine BJ FX ?_;refine BC fun H8 Gn=> ?_;refine BD fun H7 Gg=> ?_;refine BC fun IL GJ=> ?_;refine B1 gC ?_;try simp only [W,Fe,Nat.reduceAdd]
   refine Co rfl rfl rfl (fun _=>rfl) h fun FT PM h=> ?_;try simp only [W,Fe,Ga,reduceIte,Nat.reduceAdd,Nat.reduceLeDiff]
   refine Ci hS rfl rfl fun Mu Mw H hS=> ?_;try simp only [W]
   refine Cj (a:= .agg [.int .i64 FT.Fi,.int .i64 FT.End]) (y' := .agg [.int .i64 FT.Fi,.int .i64 FT.End]) 0 hS rfl rfl rfl rfl rfl rfl rfl rfl fun H hS=> ?_
   try simp only [W]
   refine BJ GJ ?_;refine BC fun Jp GU=> ?_;refine B1 gC ?_;try simp only [W,Nat.reduceAdd]
   refine BJ GU ?_;refine BC fun Nn Jo=> ?_;obtain ⟨TM,TN,TO⟩:=Option.bind_eq_some_iff.1 h;refine Cz gC (fun s H=> ∃G_:Int,TM=(G_)∧s=[.fz (a0.map Fg),u,u,v6,.int .i64 Fk,u,.int .i64 G_,u,.fz (a0.map Fg),.int .i64 (a0.length:Int),.int .i64 Fk,u,u,u,u,u,u,u,u,u,u,u,u,u,u,u,u,u,u,u,u,u,u,u,u,u,u,u,u,u,u,u,u,u,u,u,u,u,u,u]∧ap H (⟨v6,1,Fo.map (AV.int .i64)⟩::F)) (fun NG Jr=> ?_) (fun s H hq=> ?_)
   ·refine BD fun PO JV=> ?_;refine Cv gC TN (fun x s H=>s=[.fz (a0.map Fg),u,u,v6,.int .i64 Fk,.ptr Mu Mw 0 0,.int .i64 x,u,.fz (a0.map Fg),.int .i64 (a0.length:Int),.int .i64 Fk,u,u,u,u,u,u,u,u,u,u,u,u,u,u,u,u,u,u,u,u,u,u,u,u,u,u,u,u,u,u,u,u,u,u,u,u,u,u,u]∧ap H (⟨v6,1,Fo.map (AV.int .i64)⟩::⟨.ptr Mu Mw 0 0,2,[.agg [.int .i64 FT.Fi,.int .i64 FT.End]]⟩::F)) ⟨rfl,(hS.C2 2 [1,0] (by decide))⟩ (fun F7 Yr s H h TP hi NL Ix=> ?_)
    skip
    try dsimp only at hi
    obtain ⟨rfl,hS⟩:=hi;simp only [L7] at h;refine BC fun Pf JR=> ?_;refine BC fun M1 IN=> ?_;obtain ⟨Pg,h,M0⟩:=Option.bind_eq_some_iff.1 h;refine Cz gC (fun s H=> ∃F5:Bool,Pg=(F5)∧s=[.fz (a0.map Fg),u,u,v6,.int .i64 Fk,.ptr Mu Mw 0 0,.int .i64 F7,u,.fz (a0.map Fg),.int .i64 (a0.length:Int),.int .i64 Fk,u,u,u,u,u,u,u,u,u,u,u,u,u,u,u,u,u,u,u,u,.bool F5,u,u,u,u,u,u,u,u,u,u,u,u,u,u,u,u,u,u]∧ap H (⟨v6,1,Fo.map (AV.int .i64)⟩::⟨.ptr Mu Mw 0 0,2,[.agg [.int .i64 FT.Fi,.int .i64 FT.End]]⟩::F)) (fun Pj Ji=> ?_) (fun s H hq=> ?_)
    ·refine BC fun Mf HL=> ?_;refine B3 gC (by kernel_rfl) ?_
     try simp only [W,Fe,Nat.reduceAdd]
     refine uE 0 hS rfl GP rfl ?_;try simp only [W,Fe]
     refine C8 h (fun hc h=> ?_) (fun hc h=> ?_)
     ·try simp only [W,Fe,hc]
      refine Cp 0 hS rfl rfl rfl rfl rfl h (fun OM Ys Yt Yu TQ h TR=> ?_) GP.ne;obtain ⟨Yv,TS,TT⟩:=hS.elem 0 rfl TR TQ;try simp only [W,Fe,TS,TT]
      refine Co rfl rfl rfl (fun _=>rfl) h fun L8 Pl h=> ?_;try simp only [W,Fe,Ga,reduceIte,Nat.reduceAdd,Nat.reduceBEq,hS.var 1 rfl]
      refine BJ HL ?_;refine BI ?_;exact CA Ji ⟨_,(Option.some.inj h).symm,rfl,hS⟩
     ·try simp only [W,hc]
      refine BJ HL ?_;refine BI ?_;exact CA Ji ⟨_,(Option.some.inj h).symm,rfl,hS⟩
    ·obtain ⟨F5,Fl,rfl,hS⟩:=hq;obtain rfl:=Fl.symm;replace h:=M0;try dsimp only at h
     refine BJ IN ?_;refine BH ?_;simp only [W];refine B0 h (fun hc h=> ?_) (fun hc h=> ?_)
     ·refine BE ?_;refine BJ JR ?_;refine BD fun SN Mq=> ?_;refine B1 gC ?_;try simp only [W,Fe,Nat.reduceAdd]
      refine BN Mq ?_;exact Cw Ix h ⟨rfl,hS⟩
     ·refine BG ?_;refine BL JR ?_;try obtain rfl:=Option.some.inj h
      obtain rfl:=TP _ rfl;have h:(some (F7):Option (Int))=some (F7):=rfl;refine Cx Ix ?_;refine BP JV ?_;exact CA Jr ⟨_,(Option.some.inj h).symm,rfl,(hS.C2 2 [0] (by decide))⟩
   ·obtain ⟨G_,Fl,rfl,hS⟩:=hq;obtain rfl:=Fl.symm;replace h:=TO;try dsimp only at h
    refine BJ Jo ?_;refine BC fun Lb HO=> ?_;refine B1 gC ?_;try simp only [W,Nat.reduceAdd]
    refine Cs rfl rfl ?_;try simp only [W,Fe]
    refine Ek 0 hS rfl GP rfl rfl rfl h fun Q9 ON Pm TU TW h=> ?_;try simp only [W,Fe]
    have hS:=hS.z_ 1;refine CM (l:=([]:List Int)) (c:=(AV.int .i64)) 0 hS rfl nw rfl rfl rfl (hS.wI 1 rfl TU TW) (fun _=>rfl) rfl h fun Q_ H Hs M3 hm h hS=> ?_;try simp only [W]
    refine BJ HO ?_;refine BC fun Ni Im=> ?_;refine B1 gC ?_;try simp only [W,Nat.reduceAdd]
    refine Ct (el:=([Fk]:List Int).map (AV.int .i64)) hS rfl rfl rfl rfl rfl rfl rfl fun Yw H TX hS=> ?_;try simp only [W,Fe]
    refine CM (l:=Hs) (c:=(AV.int .i64)) 1 hS rfl M3 rfl rfl rfl (hS.gZ 0 rfl TX) (fun _=>rfl) rfl h fun Yx H HJ TY hm h hS=> ?_;try simp only [W]
    refine BJ Im ?_;refine B1 gC ?_;try simp only [W,Fe,Nat.reduceAdd]
    refine CL 2 hS rfl GP rfl rfl rfl h fun Yy Ic TZ Yz h hS=> ?_;try simp only [W,Fe]
    refine CM (l:=HJ) (c:=(AV.int .i64)) 1 hS rfl TY rfl rfl rfl (hS.gZ 2 rfl TZ) (fun _=>rfl) rfl h fun YA H IH T1 hm h hS=> ?_;try simp only [W]
    refine BN Gg ?_;refine BJ Gn ?_;refine B1 gC ?_;try simp only [W,Fe,Nat.reduceAdd]
    exact Cw FF h ⟨_,T1,rfl,(hS.C2 3 [1] (by decide))⟩
  ·refine BG ?_;refine BL FX ?_;try obtain rfl:=Option.some.inj h
   obtain rfl:=Jl _ rfl;have h:(some (Fo):Option ((List Int)))=some (Fo):=rfl;refine Cx FF ?_;refine BP FP ?_;exact CA F2 ⟨_,(Option.some.inj h).symm,_,GP,rfl,hS⟩
 ·obtain ⟨Fq,Fl,v10,GK,rfl,hS⟩:=hq;obtain rfl:=Fl.symm;replace h:=Jk;try dsimp only at h
  refine BJ Fw ?_;refine BC fun NX I1=> ?_;refine B1 gC ?_;try simp only [W,Nat.reduceAdd]
  refine BJ I1 ?_;refine BF ?_;refine BU Ff rfl ?_;try obtain rfl:=Option.some.inj h
  exact hP _ GK _ hS
theorem T2 {a0:List Task} {r:(List Int×List Int)} (h:KL a0=some r) {F:List It} {H:J} (hS:ap H (F)) {P:AV→J→Prop} (hP: ∀N2:AV,aJ N2→ ∀N3:AV,aJ N3→ ∀H',ap H' (⟨N2,1,r.1.map (AV.int .i64)⟩::⟨N3,1,r.2.map (AV.int .i64)⟩::F)→P (.aA [N2,N3]) H'):aw C 204 [.fz (a0.map Fg)] H P:=by
 refine B4 gC (res:=[.tmp 2,.tmp 3]) (n:=91) rfl rfl rfl rfl fun K0 Ff=> ?_;simp only [W,Nat.reduceSub,Nat.reduceAdd,List.replicate];unfold KL at h;refine BC fun K1 Fh=> ?_;refine B1 gC ?_;try simp only [W,Nat.reduceAdd]
 refine BJ Fh ?_;refine BC fun K2 zF=> ?_;refine B1 gC ?_;try simp only [W,Nat.reduceAdd]
 refine BJ zF ?_;refine BC fun K3 Fw=> ?_;refine B1 gC ?_;try simp only [W,Nat.reduceAdd]
 refine BJ Fw ?_;refine BC fun K4 F6=> ?_;refine BC fun K5 FQ=> ?_;refine B1 gC ?_;try simp only [W,Nat.reduceAdd]
 refine Cu h fun FJ H4 h=> ?_;refine P1 H4 hS fun Hf P2 H hS=> ?_;try simp only [W,Fe]
 refine uE 0 hS rfl P2 rfl ?_;try simp only [W]
 refine BJ FQ ?_;obtain ⟨NH,NI,NJ⟩:=Option.bind_eq_some_iff.1 h;refine Cz gC (fun s H=> ∃KM:List Int,∃Gc:List Int,NH=(KM,Gc)∧ ∃Lt:AV,aJ Lt∧ ∃v20:AV,aJ v20∧s=(u::u::u::u::Lt::v20::u::u::u::u::u::u::u::u::u::u::u::u::u::u::u::u::u::u::u::u::u::u::u::u::u::u::u::u::u::u::u::u::u::u::u::u::u::u::u::u::u::u::u::u::u::u::u::u::u::u::u::u::u::u::u::u::u::u::u::u::u::u::u::u::u::u::u::u::u::u::u::u::u::u::u::u::u::u::u::u::u::u::u::u::u::[])∧ap H (⟨Lt,1,KM.map (AV.int .i64)⟩::⟨v20,1,Gc.map (AV.int .i64)⟩::F)) (fun IL GJ=> ?_) (fun s H hq=> ?_)
 ·refine BD fun Jq GL=> ?_;refine Cv gC NI (fun x s H=>match x with|(Fq,FH,FD,F9)=> ∃v10:AV,aJ v10∧ ∃Gy:AV,aJ Gy∧s=(.fz (a0.map Fg)::u::u::u::v10::Gy:: .int .i64 FD::u::u::u::u::u::u::u::u::Hf:: .int .i64 (FJ.length:Int):: .int .i64 F9::u::u::u::u::u::u::u::u::u::u::u::u::u::u::u::u::u::u::u::u::u::u::u::u::u::u::u::u::u::u::u::u::u::u::u::u::u::u::u::u::u::u::u::u::u::u::u::u::u::u::u::u::u::u::u::u::u::u::u::u::u::u::u::u::u::u::u::u::u::u::u::u::u::[])∧ap H (⟨v10,1,Fq.map (AV.int .i64)⟩::⟨Gy,1,FH.map (AV.int .i64)⟩::⟨Hf,1,FJ.map (AV.int .i64)⟩::F)) ⟨_,lN,_,lN,rfl,((hS.uX 1).uX 1)⟩ (fun x Si s H h NK hi JU GV=> ?_)
  obtain ⟨Fq,FH,FD,F9⟩:=x;try dsimp only at hi
  obtain ⟨v10,GK,Gy,Ms,rfl,hS⟩:=hi;simp only [KK] at h;refine BC fun Lj Hp=> ?_;refine B1 gC ?_;try simp only [W,Fe,Nat.reduceAdd]
  refine BJ Hp ?_;refine BC fun KZ HC=> ?_;refine BH ?_;simp only [W];refine B0 h (fun hc h=> ?_) (fun hc h=> ?_)
  ·refine BE ?_;refine BJ HC ?_;refine BC fun K_ HD=> ?_;obtain ⟨T3,h,T4⟩:=Option.bind_eq_some_iff.1 h;refine Cz gC (fun s H=> ∃GB:List Int,∃Ha:List Int,∃F3:Int,T3=(GB,Ha,F3)∧ ∃Iv:AV,aJ Iv∧ ∃Mx:AV,aJ Mx∧s=(.fz (a0.map Fg)::u::u::u::Iv::Mx:: .int .i64 F3::u::u::u::u::u::u::u::u::Hf:: .int .i64 (FJ.length:Int):: .int .i64 F9::u::u::u::u::u::u::u::u::u::u::u::u::u::u::u::u::u::u::u::u::u::u::u::u::u::u::u::u::u::u::u::u::u::u::u::u::u::u::u::u::u::u::u::u::u::u::u::u::u::u::u::u::u::u::u::u::u::u::u::u::u::u::u::u::u::u::u::u::u::u::u::u::u::[])∧ap H (⟨Iv,1,GB.map (AV.int .i64)⟩::⟨Mx,1,Ha.map (AV.int .i64)⟩::⟨Hf,1,FJ.map (AV.int .i64)⟩::F)) (fun PQ JX=> ?_) (fun s H hq=> ?_)
   ·refine BD fun Nq Is=> ?_;refine BC fun SL NP=> ?_;refine B1 gC ?_;try simp only [W,Fe,Nat.reduceAdd]
    refine Cp 2 hS rfl rfl rfl rfl rfl h (fun II YB YC YD T5 h T6=> ?_) P2.ne;obtain ⟨YE,T7,T8⟩:=hS.elem 2 rfl T6 T5;try simp only [W,Fe,T7,T8]
    refine BJ NP ?_;refine BC fun Mg Ij=> ?_;refine B1 gC ?_;try simp only [W,Nat.reduceAdd]
    refine Ct (el:=([II]:List Int).map (AV.int .i64)) hS rfl rfl rfl rfl rfl rfl rfl fun YF H T9 hS=> ?_;try simp only [W,Fe]
    refine CM (l:=Fq) (c:=(AV.int .i64)) 1 hS rfl GK rfl rfl rfl (hS.gZ 0 rfl T9) (fun _=>rfl) rfl h fun G7 H Gt Jv hm h hS=> ?_;try simp only [W]
    refine BJ Ij ?_;refine BC fun Lb HO=> ?_;refine B1 gC ?_;try simp only [W,Fe,Nat.reduceAdd]
    refine Co rfl rfl rfl (fun _=>rfl) h fun FN NV h=> ?_;try simp only [W,Fe,Ga,Nat.reduceAdd,Nat.reduceBEq]
    refine BJ HO ?_;refine BC fun NW I0=> ?_;refine BC fun NQ IY=> ?_;refine B1 gC ?_;try simp only [W,Fe,Nat.reduceAdd]
    refine Co rfl rfl rfl (fun _=>rfl) h fun OP YG h=> ?_;try simp only [W,Fe,Ga,Nat.reduceAdd,Nat.reduceBEq]
    refine BJ IY ?_;refine BH ?_;simp only [W];refine B0 h (fun hc h=> ?_) (fun hc h=> ?_)
    ·refine BG ?_;refine BL I0 ?_;refine BP Is ?_;exact CA JX ⟨_,_,_,(Option.some.inj h).symm,_,Jv,_,Ms,rfl,(hS.C2 4 [1,2,3] (by decide))⟩
    ·refine BE ?_;refine BJ I0 ?_;refine BC fun Nh IP=> ?_;refine B1 gC ?_;try simp only [W,Nat.reduceAdd]
     refine BJ IP ?_;refine BC fun Pu JT=> ?_;refine BC fun Ni Im=> ?_;refine B1 gC ?_;try simp only [W,Fe,Nat.reduceAdd]
     refine uE 1 hS rfl Jv rfl ?_;try simp only [W]
     refine BJ Im ?_;obtain ⟨T_,Ua,Ub⟩:=Option.bind_eq_some_iff.1 h;refine Cz gC (fun s H=> ∃HJ:Int,T_=(HJ)∧s=(.fz (a0.map Fg)::u::u::u::G7::Gy:: .int .i64 (IntKind.i64.wrap (FD+FN.Fi))::u::u:: .int .i64 HJ::u::u::u::u::u::Hf:: .int .i64 (FJ.length:Int):: .int .i64 F9::u::u::u::u::u::u::u::u::u::u::u::u::u::u::u::u::u::u::u::u::u::u::u::u::u::u::u::u::u::u::u::u::u::u::u::u::u::u::u::u::u::u::u::u::u::u::u::u::u::u::u::u::u::u::u::u::u::u::u::u::u::u::u::u::u::u::u::u::u::u::u::u::u::[])∧ap H (⟨G7,1,Gt.map (AV.int .i64)⟩::⟨Gy,1,FH.map (AV.int .i64)⟩::⟨Hf,1,FJ.map (AV.int .i64)⟩::F)) (fun Mk Io=> ?_) (fun s H hq=> ?_)
     ·refine BD fun Td Mt=> ?_;refine Cv gC Ua (fun x s H=>match x with|(Gm,Gp)=>s=(.fz (a0.map Fg)::u::u::u::G7::Gy:: .int .i64 (IntKind.i64.wrap (FD+FN.Fi))::u::u:: .int .i64 Gm::u::u::u::u::u::Hf:: .int .i64 (FJ.length:Int):: .int .i64 F9::u::u::u::u::u::u::u::u::u::u::u::u::u::u::u::u::u::u::u::u::u::G7:: .int .i64 (Gt.length:Int):: .int .i64 Gp::u::u::u::u::u::u::u::u::u::u::u::u::u::u::u::u::u::u::u::u::u::u::u::u::u::u::u::u::u::u::u::u::u::u::u::u::u::u::u::u::u::u::u::u::u::u::u::u::u::[])∧ap H (⟨G7,1,Gt.map (AV.int .i64)⟩::⟨Gy,1,FH.map (AV.int .i64)⟩::⟨Hf,1,FJ.map (AV.int .i64)⟩::F)) ⟨rfl,(hS.C2 4 [1,2,3] (by decide))⟩ (fun x YH s H h Uc hi YI P3=> ?_)
      obtain ⟨Gm,Gp⟩:=x;try dsimp only at hi
      obtain ⟨rfl,hS⟩:=hi;simp only [MQ] at h;refine BC fun PY JY=> ?_;refine B1 gC ?_;try simp only [W,Fe,Nat.reduceAdd]
      refine BJ JY ?_;refine BC fun Nk Ip=> ?_;refine BH ?_;simp only [W];refine B0 h (fun hc h=> ?_) (fun hc h=> ?_)
      ·refine BE ?_;refine BJ Ip ?_;refine BC fun NX I1=> ?_;obtain ⟨Ud,h,Ue⟩:=Option.bind_eq_some_iff.1 h;refine Cz gC (fun s H=> ∃HH:Int,Ud=(HH)∧s=(.fz (a0.map Fg)::u::u::u::G7::Gy:: .int .i64 (IntKind.i64.wrap (FD+FN.Fi))::u::u:: .int .i64 HH::u::u::u::u::u::Hf:: .int .i64 (FJ.length:Int):: .int .i64 F9::u::u::u::u::u::u::u::u::u::u::u::u::u::u::u::u::u::u::u::u::u::G7:: .int .i64 (Gt.length:Int):: .int .i64 Gp::u::u::u::u::u::u::u::u::u::u::u::u::u::u::u::u::u::u::u::u::u::u::u::u::u::u::u::u::u::u::u::u::u::u::u::u::u::u::u::u::u::u::u::u::u::u::u::u::u::[])∧ap H (⟨G7,1,Gt.map (AV.int .i64)⟩::⟨Gy,1,FH.map (AV.int .i64)⟩::⟨Hf,1,FJ.map (AV.int .i64)⟩::F)) (fun Th NY=> ?_) (fun s H hq=> ?_)
       ·refine BD fun P4 Lv=> ?_;refine BC fun YJ Uf=> ?_;refine B1 gC ?_;try simp only [W,Fe,Nat.reduceAdd]
        refine Cp 0 hS rfl rfl rfl rfl rfl h (fun OO YK YL YM Ug h Uh=> ?_) Jv.ne;obtain ⟨YN,Ui,Uj⟩:=hS.elem 0 rfl Uh Ug;try simp only [W,Fe,Ui,Uj]
        refine BJ Uf ?_;refine BC fun RA Nl=> ?_;refine B3 gC (by kernel_rfl) ?_
        try simp only [W,Fe,Nat.reduceAdd]
        refine Co rfl rfl rfl (fun _=>rfl) h fun KG PZ h=> ?_;try simp only [W,Fe,Ga,Nat.reduceAdd,Nat.reduceBEq]
        refine Cp 0 hS rfl rfl rfl rfl rfl h (fun L_ YO YP YQ Na h Uk=> ?_) Jv.ne;obtain ⟨YR,Ul,Um⟩:=hS.elem 0 rfl Uk Na;try simp only [W,Fe,Ul,Um]
        refine Co rfl rfl rfl (fun _=>rfl) h fun Ka YS h=> ?_;try simp only [W,Fe,Ga,Nat.reduceAdd,Nat.reduceBEq]
        refine BJ Nl ?_;obtain ⟨Un,h,Uo⟩:=Option.bind_eq_some_iff.1 h;refine Cz gC (fun s H=> ∃KJ:Int,Un=(KJ)∧s=(.fz (a0.map Fg)::u::u::u::G7::Gy:: .int .i64 (IntKind.i64.wrap (FD+FN.Fi))::u::u:: .int .i64 KJ::u::u::u::u::u::Hf:: .int .i64 (FJ.length:Int):: .int .i64 F9::u::u::u::u::u::u::u::u::u::u::u::u::u::u::u::u::u::u::u::u::u::G7:: .int .i64 (Gt.length:Int):: .int .i64 Gp::u::u::u::u::u::u::u::u::u::u::u::u::u::u::u::u::u::u::u::u::u::u::u::u::u::u::u::u::u::u::u::u::u::u::u::u::u::u::u::u::u::u::u::u::u::u::u::u::u::[])∧ap H (⟨G7,1,Gt.map (AV.int .i64)⟩::⟨Gy,1,FH.map (AV.int .i64)⟩::⟨Hf,1,FJ.map (AV.int .i64)⟩::F)) (fun Nm HP=> ?_) (fun s H hq=> ?_)
        ·refine BC fun YT P5=> ?_;refine BH ?_;simp only [W];refine B0 h (fun hc h=> ?_) (fun hc h=> ?_)
         ·refine B1 gC ?_;try simp only [W,Nat.reduceAdd]
          refine BJ P5 ?_;refine EB (s' :=(.fz (a0.map Fg)::u::u::u::G7::Gy:: .int .i64 (IntKind.i64.wrap (FD+FN.Fi))::u::u:: .int .i64 Gp::u::u::u::u::u::Hf:: .int .i64 (FJ.length:Int):: .int .i64 F9::u::u::u::u::u::u::u::u::u::u::u::u::u::u::u::u::u::u::u::u::u::G7:: .int .i64 (Gt.length:Int):: .int .i64 Gp::u::u::u::u::u::u::u::u::u::u::u::u::u::u::u::u::u::u::u::u::u::u::u::u::u::u::u::u::u::u::u::u::u::u::u::u::u::u::u::u::u::u::u::u::u::u::u::u::u::[])) rfl ?_
          exact CA HP ⟨_,(Option.some.inj h).symm,rfl,hS⟩
         ·refine BE ?_;refine BJ P5 ?_;refine EB (s' :=(.fz (a0.map Fg)::u::u::u::G7::Gy:: .int .i64 (IntKind.i64.wrap (FD+FN.Fi))::u::u:: .int .i64 Gm::u::u::u::u::u::Hf:: .int .i64 (FJ.length:Int):: .int .i64 F9::u::u::u::u::u::u::u::u::u::u::u::u::u::u::u::u::u::u::u::u::u::G7:: .int .i64 (Gt.length:Int):: .int .i64 Gp::u::u::u::u::u::u::u::u::u::u::u::u::u::u::u::u::u::u::u::u::u::u::u::u::u::u::u::u::u::u::u::u::u::u::u::u::u::u::u::u::u::u::u::u::u::u::u::u::u::[])) rfl ?_
          exact CA HP ⟨_,(Option.some.inj h).symm,rfl,hS⟩
        ·obtain ⟨KJ,Fl,rfl,hS⟩:=hq;obtain rfl:=Fl.symm;replace h:=Uo;try dsimp only at h
         refine BM Lv ?_;exact CA NY ⟨_,(Option.some.inj h).symm,rfl,hS⟩
       ·obtain ⟨HH,Fl,rfl,hS⟩:=hq;obtain rfl:=Fl.symm;replace h:=Ue;try dsimp only at h
        refine BJ I1 ?_;refine B1 gC ?_;try simp only [W,Fe,Nat.reduceAdd]
        exact Cw P3 h ⟨rfl,hS⟩
      ·refine BG ?_;refine BL Ip ?_;try obtain rfl:=Option.some.inj h
       obtain rfl:=Uc _ rfl;have h:(some (Gm):Option (Int))=some (Gm):=rfl;refine Cx P3 ?_;refine BP Mt ?_;exact CA Io ⟨_,(Option.some.inj h).symm,rfl,hS⟩
     ·obtain ⟨HJ,Fl,rfl,hS⟩:=hq;obtain rfl:=Fl.symm;replace h:=Ub;try dsimp only at h
      refine BJ JT ?_;refine BC fun Pr JS=> ?_;refine B1 gC ?_;try simp only [W,Fe,Nat.reduceAdd]
      refine Cp 0 hS rfl rfl rfl rfl rfl h (fun Ma YU YV YW Uq h Ur=> ?_) Jv.ne;obtain ⟨YX,Us,Ut⟩:=hS.elem 0 rfl Ur Uq;try simp only [W,Fe,Us,Ut]
      refine BJ JS ?_;refine BC fun Tw NZ=> ?_;refine B1 gC ?_;try simp only [W,Fe,Nat.reduceAdd]
      refine Co rfl rfl rfl (fun _=>rfl) h fun JJ P0 h=> ?_;try simp only [W,Fe,Ga,Nat.reduceAdd,Nat.reduceBEq]
      refine BJ NZ ?_;refine BC fun YY Uu=> ?_;refine B1 gC ?_;try simp only [W,Nat.reduceAdd]
      refine Cs rfl rfl ?_;try simp only [W,Fe]
      refine Ek 0 hS rfl Jv rfl rfl rfl h fun YZ OQ Y0 Uv Uw h=> ?_;try simp only [W,Fe]
      have hS:=hS.z_ 1;refine CM (l:=([]:List Int)) (c:=(AV.int .i64)) 0 hS rfl nw rfl rfl rfl (hS.wI 1 rfl Uv Uw) (fun _=>rfl) rfl h fun Y1 H MR Ux hm h hS=> ?_;try simp only [W]
      refine BJ Uu ?_;refine BC fun Y2 Uy=> ?_;refine B1 gC ?_;try simp only [W,Fe,Nat.reduceAdd]
      refine CL 1 hS rfl Jv rfl rfl rfl h fun Mi OR Uz Y3 h hS=> ?_;try simp only [W,Fe]
      refine CM (l:=MR) (c:=(AV.int .i64)) 0 hS rfl Ux rfl rfl rfl (hS.gZ 1 rfl Uz) (fun _=>rfl) rfl h fun Y4 H OS UA hm h hS=> ?_;try simp only [W]
      refine BJ Uy ?_;refine B1 gC ?_;try simp only [W,Nat.reduceAdd]
      refine Ct (el:=([Ma]:List Int).map (AV.int .i64)) hS rfl rfl rfl rfl rfl rfl rfl fun Y5 H UB hS=> ?_;try simp only [W,Fe]
      refine CM (l:=FH) (c:=(AV.int .i64)) 3 hS rfl Ms rfl rfl rfl (hS.gZ 0 rfl UB) (fun _=>rfl) rfl h fun Y6 H OT UC hm h hS=> ?_;try simp only [W]
      refine BM Is ?_;exact CA JX ⟨_,_,_,(Option.some.inj h).symm,_,UA,_,UC,rfl,(hS.C2 5 [1,3,4] (by decide))⟩
   ·obtain ⟨GB,Ha,F3,rfl,Iv,N4,Mx,UE,rfl,hS⟩:=hq;replace h:=T4;try dsimp only at h
    refine BJ HD ?_;refine B1 gC ?_;try simp only [W,Fe,Nat.reduceAdd]
    exact Cw GV h ⟨_,N4,_,UE,rfl,hS⟩
  ·refine BG ?_;refine BL HC ?_;try obtain rfl:=Option.some.inj h
   obtain rfl:=NK _ rfl;have h:(some (Fq,FH):Option ((List Int)×(List Int)))=some (Fq,FH):=rfl;refine Cx GV ?_;refine BP GL ?_;exact CA GJ ⟨_,_,(Option.some.inj h).symm,_,GK,_,Ms,rfl,(hS.C2 3 [0,1] (by decide))⟩
 ·obtain ⟨KM,Gc,rfl,Lt,UF,v20,N5,rfl,hS⟩:=hq;replace h:=NJ;try dsimp only at h
  refine BJ F6 ?_;refine BC fun Y7 UG=> ?_;refine B1 gC ?_;try simp only [W,Nat.reduceAdd]
  refine BJ UG ?_;refine BF ?_;refine BV Ff rfl rfl ?_;try obtain rfl:=Option.some.inj h
  exact hP _ UF _ N5 _ hS
theorem UH {a0:List Task} {r:(List Int×Int×Bool)} (h:JN a0=some r) {F:List It} {H:J} (hS:ap H (F)) {P:AV→J→Prop} (hP: ∀N6:AV,aJ N6→ ∀H',ap H' (⟨N6,1,r.1.map (AV.int .i64)⟩::F)→P (.aA [N6,.int .i64 r.2.1,.bool r.2.2]) H'):aw C 63 [.fz (a0.map Fg)] H P:=by
 refine B4 gC (res:=[.tmp 2,.tmp 3,.tmp 4]) (n:=22) rfl rfl rfl rfl fun K0 Ff=> ?_;simp only [W,Nat.reduceSub,Nat.reduceAdd,List.replicate];unfold JN at h;refine BC fun K1 Fh=> ?_;refine B1 gC ?_;try simp only [W,Nat.reduceAdd]
 refine BJ Fh ?_;refine BC fun K2 zF=> ?_;refine BC fun K3 Fw=> ?_;refine B1 gC ?_;try simp only [W,Nat.reduceAdd]
 refine Cu h fun FM He h=> ?_;refine Nx He hS fun H hS=> ?_;try simp only [W]
 refine BJ Fw ?_;refine BH ?_;simp only [W];refine B0 h (fun hc h=> ?_) (fun hc h=> ?_)
 ·refine BC fun K5 FQ=> ?_;refine B1 gC ?_;try simp only [W,Nat.reduceAdd]
  refine BJ FQ ?_;refine BF ?_;refine BK zF ?_;refine BW Ff rfl rfl rfl ?_;try obtain rfl:=Option.some.inj h
  exact hP _ lN _ (hS.uX 1)
 ·refine BE ?_;refine BJ zF ?_;refine BC fun K6 Gi=> ?_;refine B1 gC ?_;try simp only [W,Nat.reduceAdd]
  refine Cu h fun Fm Iw h=> ?_;obtain ⟨Gl,Hi⟩:=Fm;try dsimp only at h
  refine T2 Iw hS fun v10 GK Gd IZ H hS=> ?_;try simp only [W]
  refine BJ Gi ?_;refine BC fun HA FP=> ?_;refine B1 gC ?_;try simp only [W,Nat.reduceAdd]
  refine Cs rfl rfl ?_;try simp only [W,Fe]
  have hS:=hS.z_ 1;refine CM (l:=([]:List Int)) (c:=(AV.int .i64)) 0 hS rfl nw rfl rfl rfl (hS.gZ 1 rfl GK) (fun _=>rfl) rfl h fun Iq H F9 Lu hm h hS=> ?_;try simp only [W,Fe]
  refine CM (l:=F9) (c:=(AV.int .i64)) 0 hS rfl Lu rfl rfl rfl (hS.gZ 2 rfl IZ) (fun _=>rfl) rfl h fun v20 H Gc N5 hm h hS=> ?_;try simp only [W,Fe]
  refine uE 1 hS rfl GK rfl ?_;try simp only [W]
  refine BJ FP ?_;refine BF ?_;refine BW Ff rfl rfl rfl ?_;try obtain rfl:=Option.some.inj h
  exact hP _ N5 _ (hS.C2 3 [0] (by decide))
theorem UI {a0:List Task} {r:(Int×Bool)} (h:JO a0=some r) {F:List It} {H:J} (hS:ap H (F)) {P:AV→J→Prop} (hP: ∀H',ap H' (F)→P (.aA [.int .i64 r.1,.bool r.2]) H'):aw C 64 [.fz (a0.map Fg)] H P:=by
 refine B4 gC (res:=[.tmp 2,.tmp 3]) (n:=15) rfl rfl rfl rfl fun K0 Ff=> ?_;simp only [W,Nat.reduceSub,Nat.reduceAdd,List.replicate];unfold JO at h;refine BC fun K1 Fh=> ?_;refine B1 gC ?_;try simp only [W,Nat.reduceAdd]
 refine BJ Fh ?_;refine BC fun K2 zF=> ?_;refine BC fun K3 Fw=> ?_;refine B1 gC ?_;try simp only [W,Nat.reduceAdd]
 refine Cu h fun FM He h=> ?_;refine Mo He hS fun H hS=> ?_;try simp only [W]
 refine BJ Fw ?_;refine BH ?_;simp only [W];refine B0 h (fun hc h=> ?_) (fun hc h=> ?_)
 ·refine BC fun K5 FQ=> ?_;refine B1 gC ?_;try simp only [W,Nat.reduceAdd]
  refine BJ FQ ?_;refine BF ?_;refine BK zF ?_;refine BV Ff rfl rfl ?_;try obtain rfl:=Option.some.inj h
  exact hP _ hS
 ·refine BE ?_;refine BJ zF ?_;refine BC fun K6 Gi=> ?_;refine B1 gC ?_;try simp only [W,Nat.reduceAdd]
  refine Cu h fun Fm Iw h=> ?_;obtain ⟨Gl,Hi⟩:=Fm;try dsimp only at h
  refine PX Iw hS fun v10 GK H hS=> ?_;try simp only [W]
  refine BJ Gi ?_;refine BC fun Jh Gw=> ?_;refine B1 gC ?_;try simp only [W,Nat.reduceAdd]
  refine BJ Gw ?_;refine BF ?_;refine BV Ff rfl rfl ?_;try obtain rfl:=Option.some.inj h
  exact hP _ (hS.C2 1 [] (by decide))
theorem UJ {a0:List Task} {r:(Int×Bool)} (h:JP a0=some r) {F:List It} {H:J} (hS:ap H (F)) {P:AV→J→Prop} (hP: ∀H',ap H' (F)→P (.aA [.int .i64 r.1,.bool r.2]) H'):aw C 65 [.fz (a0.map Fg)] H P:=by
 refine B4 gC (res:=[.tmp 2,.tmp 3]) (n:=65) rfl rfl rfl rfl fun K0 Ff=> ?_;simp only [W,Nat.reduceSub,Nat.reduceAdd,List.replicate];unfold JP at h;refine BC fun K1 Fh=> ?_;refine B1 gC ?_;try simp only [W,Nat.reduceAdd]
 refine BJ Fh ?_;refine BC fun K2 zF=> ?_;refine BC fun K3 Fw=> ?_;refine B1 gC ?_;try simp only [W,Nat.reduceAdd]
 refine Cu h fun FM He h=> ?_;refine Nx He hS fun H hS=> ?_;try simp only [W]
 refine BJ Fw ?_;refine BH ?_;simp only [W];refine B0 h (fun hc h=> ?_) (fun hc h=> ?_)
 ·refine BC fun K5 FQ=> ?_;refine B1 gC ?_;try simp only [W,Nat.reduceAdd]
  refine BJ FQ ?_;refine BF ?_;refine BK zF ?_;refine BV Ff rfl rfl ?_;try obtain rfl:=Option.some.inj h
  exact hP _ hS
 ·refine BE ?_;refine BJ zF ?_;refine BC fun K6 Gi=> ?_;refine B1 gC ?_;try simp only [W,Nat.reduceAdd]
  refine Cu h fun Fm Iw h=> ?_;refine P1 Iw hS fun FA Jn H hS=> ?_;try simp only [W]
  refine BJ Gi ?_;refine BC fun MT Ih=> ?_;refine B1 gC ?_;try simp only [W,Nat.reduceAdd]
  refine BJ Ih ?_;refine BC fun JQ G4=> ?_;refine BC fun Jh Gw=> ?_;refine B1 gC ?_;try simp only [W,Nat.reduceAdd]
  refine BJ Gw ?_;obtain ⟨MY,UK,UL⟩:=Option.bind_eq_some_iff.1 h;refine Cz gC (fun s H=> ∃FD:Int,MY=(FD)∧s=(u::u::u::u::u:: .int .i64 FD::u::u::u::u::u::u::u::u::u::u::u::u::u::u::u::u::u::u::u::u::u::u::u::u::u::u::u::u::u::u::u::u::u::u::u::u::u::u::u::u::u::u::u::u::u::u::u::u::u::u::u::u::u::u::u::u::u::u::u::[])∧ap H (F)) (fun IK Gq=> ?_) (fun s H hq=> ?_)
  ·refine BD fun Ii Gh=> ?_;refine Cv gC UK (fun x s H=>match x with|(FI,Fs)=>s=(.fz (a0.map Fg)::u::u::u::FA:: .int .i64 FI:: .int .i64 Fs::u::u::u::u::u::u::u::u::u::u::u::u::u::u::u::u::u::u::u::u::u::u::u::u::u::u::u::u::u::u::u::u::u::u::u::u::u::u::u::u::u::u::u::u::u::u::u::u::u::u::u::u::u::u::u::u::u::u::[])∧ap H (⟨FA,1,Fm.map (AV.int .i64)⟩::F)) ⟨rfl,hS⟩ (fun x Y8 s H h UM hi HB FX=> ?_)
   obtain ⟨FI,Fs⟩:=x;try dsimp only at hi
   obtain ⟨rfl,hS⟩:=hi;simp only [Mc] at h;refine BC fun Jq GL=> ?_;refine BC fun JU GV=> ?_;refine B1 gC ?_;try simp only [W,Fe,Nat.reduceAdd]
   refine Cf _ h fun OU Y9 h=> ?_;try simp only [W,Fe]
   refine BJ GV ?_;refine BH ?_;simp only [W];refine B0 h (fun hc h=> ?_) (fun hc h=> ?_)
   ·refine BE ?_;refine BJ GL ?_;refine BC fun Jp GU=> ?_;obtain ⟨UN,h,UO⟩:=Option.bind_eq_some_iff.1 h;refine Cz gC (fun s H=> ∃F7:Int,UN=(F7)∧s=(.fz (a0.map Fg)::u::u::u::FA:: .int .i64 F7:: .int .i64 Fs::u::u::u::u::u::u::u::u::u::u::u::u::u::u::u::u::u::u::u::u::u::u::u::u::u::u::u::u::u::u::u::u::u::u::u::u::u::u::u::u::u::u::u::u::u::u::u::u::u::u::u::u::u::u::u::u::u::u::[])∧ap H (⟨FA,1,Fm.map (AV.int .i64)⟩::F)) (fun Nq Is=> ?_) (fun s H hq=> ?_)
    ·refine BD fun Nn Jo=> ?_;refine BC fun NG Jr=> ?_;refine B1 gC ?_;try simp only [W,Nat.reduceAdd]
     refine BJ Jr ?_;refine BC fun PO JV=> ?_;refine B1 gC ?_;try simp only [W,Nat.reduceAdd]
     refine BJ JV ?_;refine BC fun NL Ix=> ?_;refine B1 gC ?_;try simp only [W,Nat.reduceAdd]
     refine BJ Ix ?_;refine BC fun Nu Iu=> ?_;refine BC fun Nv IV=> ?_;refine B1 gC ?_;try simp only [W,Fe,Nat.reduceAdd]
     refine uE 0 hS rfl Jn rfl ?_;try simp only [W]
     refine BJ IV ?_;obtain ⟨Nc,Nd,Nf⟩:=Option.bind_eq_some_iff.1 h;refine Cz gC (fun s H=> ∃GD:Int,∃Hv:Bool,Nc=(GD,Hv)∧s=(.fz (a0.map Fg)::u::u::u::FA:: .int .i64 FI:: .int .i64 Fs:: .int .i64 GD::u:: .bool Hv::u::u::u::u::u::u::u::u::u::u::u::u::u::u::u::u::u::u::u::u::u::u::u::u::u::u::u::u::u::u::u::u::u::u::u::u::u::u::u::u::u::u::u::u::u::u::u::u::u::u::u::u::u::u::u::[])∧ap H (⟨FA,1,Fm.map (AV.int .i64)⟩::F)) (fun Mg Ij=> ?_) (fun s H hq=> ?_)
     ·refine BD fun Pk KW=> ?_;refine Cv gC Nd (fun x s H=>match x with|(F0,F3,GC,F5)=>s=(.fz (a0.map Fg)::u::u::u::FA:: .int .i64 FI:: .int .i64 Fs:: .int .i64 F0:: .int .i64 F3:: .bool GC::u::u::u::u::u::u::u::u::u::u::u::u::u::u::u::FA:: .int .i64 (Fm.length:Int):: .int .i64 F5::u::u::u::u::u::u::u::u::u::u::u::u::u::u::u::u::u::u::u::u::u::u::u::u::u::u::u::u::u::u::u::u::u::u::u::u::u::[])∧ap H (⟨FA,1,Fm.map (AV.int .i64)⟩::F)) ⟨rfl,hS⟩ (fun x Rl s H h Ng hi Rm La=> ?_)
      obtain ⟨F0,F3,GC,F5⟩:=x;try dsimp only at hi
      obtain ⟨rfl,hS⟩:=hi;simp only [Mb] at h;refine BC fun Lb HO=> ?_;refine B1 gC ?_;try simp only [W,Fe,Nat.reduceAdd]
      refine BJ HO ?_;refine BC fun Rn Mj=> ?_;refine BH ?_;simp only [W];refine B0 h (fun hc h=> ?_) (fun hc h=> ?_)
      ·refine BE ?_;refine BJ Mj ?_;refine BC fun NW I0=> ?_;obtain ⟨UP,h,UQ⟩:=Option.bind_eq_some_iff.1 h;refine Cz gC (fun s H=> ∃Hs:Int,∃KP:Int,∃KQ:Bool,UP=(Hs,KP,KQ)∧s=(.fz (a0.map Fg)::u::u::u::FA:: .int .i64 FI:: .int .i64 Fs:: .int .i64 Hs:: .int .i64 KP:: .bool KQ::u::u::u::u::u::u::u::u::u::u::u::u::u::u::u::FA:: .int .i64 (Fm.length:Int):: .int .i64 F5::u::u::u::u::u::u::u::u::u::u::u::u::u::u::u::u::u::u::u::u::u::u::u::u::u::u::u::u::u::u::u::u::u::u::u::u::u::[])∧ap H (⟨FA,1,Fm.map (AV.int .i64)⟩::F)) (fun Mh Ik=> ?_) (fun s H hq=> ?_)
       ·refine BD fun NQ IY=> ?_;refine BC fun Ra M5=> ?_;refine B1 gC ?_;try simp only [W,Fe,Nat.reduceAdd]
        refine Cp 0 hS rfl rfl rfl rfl rfl h (fun GZ Y_ Za Zb UR h US=> ?_) Jn.ne;obtain ⟨Zc,UT,UU⟩:=hS.elem 0 rfl US UR;try simp only [W,Fe,UT,UU]
        refine BJ M5 ?_;refine BC fun Mk Io=> ?_;refine B1 gC ?_;try simp only [W,Fe,Nat.reduceAdd]
        refine Cf _ h fun GY Zd h=> ?_;try simp only [W,Fe]
        refine BJ Io ?_;obtain ⟨UW,h,UX⟩:=Option.bind_eq_some_iff.1 h;refine Cz gC (fun s H=> ∃KN:Int,∃IH:Int,∃KO:Bool,UW=(KN,IH,KO)∧s=(.fz (a0.map Fg)::u::u::u::FA:: .int .i64 FI:: .int .i64 Fs:: .int .i64 KN:: .int .i64 IH:: .bool KO::u::u::u::u::u::u::u::u::u::u::u::u::u::u::u::FA:: .int .i64 (Fm.length:Int):: .int .i64 F5::u::u::u::u::u::u::u::u::u::u::u::u::u::u::u::u::u::u::u::u::u::u::u::u::u::u::u::u::u::u::u::u::u::u::u::u::u::[])∧ap H (⟨FA,1,Fm.map (AV.int .i64)⟩::F)) (fun Nk Ip=> ?_) (fun s H hq=> ?_)
        ·refine BC fun NX I1=> ?_;refine BH ?_;simp only [W];refine B0 h (fun hc h=> ?_) (fun hc h=> ?_)
         ·refine BC fun P4 Lv=> ?_;refine B1 gC ?_;try simp only [W,Fe,Nat.reduceAdd]
          refine BJ Lv ?_;refine BC fun Ze UY=> ?_;refine B1 gC ?_;try simp only [W,Fe,Nat.reduceAdd]
          refine Co rfl rfl rfl (fun _=>rfl) h fun IJ Zf h=> ?_;try simp only [W,Fe,Ga,Nat.reduceAdd,Nat.reduceBEq]
          refine BJ UY ?_;obtain ⟨M8,h,M9⟩:=Option.bind_eq_some_iff.1 h;refine Cz gC (fun s H=> ∃Hu:Bool,M8=(Hu)∧s=(.fz (a0.map Fg)::u::u::u::FA:: .int .i64 FI:: .int .i64 Fs:: .int .i64 (IntKind.i64.wrap (F0+1)):: .int .i64 (IntKind.i64.wrap (F3+IJ.Fi)):: .bool Hu::u::u::u::u::u::u::u::u::u::u::u::u::u::u::u::FA:: .int .i64 (Fm.length:Int):: .int .i64 F5::u::u::u::u::u::u::u::u::u::u::u::u::u::u::u::u::u::u::u::u::u::u::u::u::u::u::u::u::u::u::u::u::u::u::u::u::u::[])∧ap H (⟨FA,1,Fm.map (AV.int .i64)⟩::F)) (fun Re KX=> ?_) (fun s H hq=> ?_)
          ·refine BC fun M_ Il=> ?_;refine B1 gC ?_;try simp only [W,Nat.reduceAdd]
           refine C8 h (fun hc h=> ?_) (fun hc h=> ?_)
           ·try simp only [W,Fe,hc]
            refine Co rfl rfl rfl (fun _=>rfl) h fun JI Tm h=> ?_;try simp only [W,Fe,Ga,reduceIte,Nat.reduceAdd,Nat.reduceBEq]
            refine BJ Il ?_;refine EB (s' :=(.fz (a0.map Fg)::u::u::u::FA:: .int .i64 FI:: .int .i64 Fs:: .int .i64 (IntKind.i64.wrap (F0+1)):: .int .i64 (IntKind.i64.wrap (F3+IJ.Fi)):: .bool (decide ((IntKind.i64.wrap (F3+IJ.Fi))≤JI.End))::u::u::u::u::u::u::u::u::u::u::u::u::u::u::u::FA:: .int .i64 (Fm.length:Int):: .int .i64 F5::u::u::u::u::u::u::u::u::u::u::u::u::u::u::u::u::u::u::u::u::u::u::u::u::u::u::u::u::u::u::u::u::u::u::u::u::u::[])) rfl ?_
            exact CA KX ⟨_,(Option.some.inj h).symm,rfl,hS⟩
           ·try simp only [W,hc]
            refine BJ Il ?_;refine EB (s' :=(.fz (a0.map Fg)::u::u::u::FA:: .int .i64 FI:: .int .i64 Fs:: .int .i64 (IntKind.i64.wrap (F0+1)):: .int .i64 (IntKind.i64.wrap (F3+IJ.Fi)):: .bool false::u::u::u::u::u::u::u::u::u::u::u::u::u::u::u::FA:: .int .i64 (Fm.length:Int):: .int .i64 F5::u::u::u::u::u::u::u::u::u::u::u::u::u::u::u::u::u::u::u::u::u::u::u::u::u::u::u::u::u::u::u::u::u::u::u::u::u::[])) rfl ?_
            exact CA KX ⟨_,(Option.some.inj h).symm,rfl,hS⟩
          ·obtain ⟨Hu,Fl,rfl,hS⟩:=hq;obtain rfl:=Fl.symm;replace h:=M9;try dsimp only at h
           refine BJ I1 ?_;refine EB (s' :=(.fz (a0.map Fg)::u::u::u::FA:: .int .i64 FI:: .int .i64 Fs:: .int .i64 (IntKind.i64.wrap (F0+1)):: .int .i64 (IntKind.i64.wrap (F3+IJ.Fi)):: .bool Hu::u::u::u::u::u::u::u::u::u::u::u::u::u::u::u::FA:: .int .i64 (Fm.length:Int):: .int .i64 F5::u::u::u::u::u::u::u::u::u::u::u::u::u::u::u::u::u::u::u::u::u::u::u::u::u::u::u::u::u::u::u::u::u::u::u::u::u::[])) rfl ?_
           exact CA Ip ⟨_,_,_,(Option.some.inj h).symm,rfl,hS⟩
         ·refine BE ?_;refine BJ I1 ?_;refine EB (s' :=(.fz (a0.map Fg)::u::u::u::FA:: .int .i64 FI:: .int .i64 Fs:: .int .i64 F0:: .int .i64 F3:: .bool GC::u::u::u::u::u::u::u::u::u::u::u::u::u::u::u::FA:: .int .i64 (Fm.length:Int):: .int .i64 F5::u::u::u::u::u::u::u::u::u::u::u::u::u::u::u::u::u::u::u::u::u::u::u::u::u::u::u::u::u::u::u::u::u::u::u::u::u::[])) rfl ?_
          exact CA Ip ⟨_,_,_,(Option.some.inj h).symm,rfl,hS⟩
        ·obtain ⟨KN,IH,KO,rfl,rfl,hS⟩:=hq;replace h:=UX;try dsimp only at h
         refine BM IY ?_;exact CA Ik ⟨_,_,_,(Option.some.inj h).symm,rfl,hS⟩
       ·obtain ⟨Hs,KP,KQ,rfl,rfl,hS⟩:=hq;replace h:=UQ;try dsimp only at h
        refine BJ I0 ?_;refine B1 gC ?_;try simp only [W,Fe,Nat.reduceAdd]
        exact Cw La h ⟨rfl,hS⟩
      ·refine BG ?_;refine BL Mj ?_;try obtain rfl:=Option.some.inj h
       obtain rfl:=Ng _ rfl;have h:(some (F0,GC):Option (Int×Bool))=some (F0,GC):=rfl;refine Cx La ?_;refine BP KW ?_;exact CA Ij ⟨_,_,(Option.some.inj h).symm,rfl,hS⟩
     ·obtain ⟨GD,Hv,rfl,rfl,hS⟩:=hq;replace h:=Nf;try dsimp only at h
      refine BJ Iu ?_;refine BC fun Zg UZ=> ?_;obtain ⟨Ld,h,Le⟩:=Option.bind_eq_some_iff.1 h;refine Cz gC (fun s H=> ∃GF:Bool,Ld=(GF)∧s=(.fz (a0.map Fg)::u::u::u::FA:: .int .i64 FI:: .int .i64 Fs:: .int .i64 GD::u::u::u::u::u::u::u::u::u::u::u::u::u::u::u::u::u::u::u::u::u::u::u::u::u::u::u::u::u::u::u::u::u::u::u::u::u::u::u::u::u::u::u::u::u::u::u::u::u::u::u::u::u::u:: .bool GF::u::u::[])∧ap H (⟨FA,1,Fm.map (AV.int .i64)⟩::F)) (fun PA IQ=> ?_) (fun s H hq=> ?_)
      ·refine BC fun Nm HP=> ?_;refine B1 gC ?_;try simp only [W,Nat.reduceAdd]
       refine C8 h (fun hc h=> ?_) (fun hc h=> ?_)
       ·try simp only [W,Fe,reduceIte,hc]
        refine BJ HP ?_;refine EB (s' :=(.fz (a0.map Fg)::u::u::u::FA:: .int .i64 FI:: .int .i64 Fs:: .int .i64 GD::u::u::u::u::u::u::u::u::u::u::u::u::u::u::u::u::u::u::u::u::u::u::u::u::u::u::u::u::u::u::u::u::u::u::u::u::u::u::u::u::u::u::u::u::u::u::u::u::u::u::u::u::u::u:: .bool (decide (FI<GD))::u::u::[])) rfl ?_
        exact CA IQ ⟨_,(Option.some.inj h).symm,rfl,hS⟩
       ·try simp only [W,hc]
        refine BJ HP ?_;refine EB (s' :=(.fz (a0.map Fg)::u::u::u::FA:: .int .i64 FI:: .int .i64 Fs:: .int .i64 GD::u::u::u::u::u::u::u::u::u::u::u::u::u::u::u::u::u::u::u::u::u::u::u::u::u::u::u::u::u::u::u::u::u::u::u::u::u::u::u::u::u::u::u::u::u::u::u::u::u::u::u::u::u::u:: .bool false::u::u::[])) rfl ?_
        exact CA IQ ⟨_,(Option.some.inj h).symm,rfl,hS⟩
      ·obtain ⟨GF,Fl,rfl,hS⟩:=hq;obtain rfl:=Fl.symm;replace h:=Le;try dsimp only at h
       refine BJ UZ ?_;obtain ⟨U0,h,U1⟩:=Option.bind_eq_some_iff.1 h;refine Cz gC (fun s H=> ∃KR:Int,U0=(KR)∧s=(.fz (a0.map Fg)::u::u::u::FA:: .int .i64 KR:: .int .i64 Fs::u::u::u::u::u::u::u::u::u::u::u::u::u::u::u::u::u::u::u::u::u::u::u::u::u::u::u::u::u::u::u::u::u::u::u::u::u::u::u::u::u::u::u::u::u::u::u::u::u::u::u::u::u::u::u::u::u::u::[])∧ap H (⟨FA,1,Fm.map (AV.int .i64)⟩::F)) (fun Pr JS=> ?_) (fun s H hq=> ?_)
       ·refine BC fun Zh P6=> ?_;refine BH ?_;simp only [W];refine B0 h (fun hc h=> ?_) (fun hc h=> ?_)
        ·refine B1 gC ?_;try simp only [W,Nat.reduceAdd]
         refine BJ P6 ?_;refine EB (s' :=(.fz (a0.map Fg)::u::u::u::FA:: .int .i64 GD:: .int .i64 Fs::u::u::u::u::u::u::u::u::u::u::u::u::u::u::u::u::u::u::u::u::u::u::u::u::u::u::u::u::u::u::u::u::u::u::u::u::u::u::u::u::u::u::u::u::u::u::u::u::u::u::u::u::u::u::u::u::u::u::[])) rfl ?_
         exact CA JS ⟨_,(Option.some.inj h).symm,rfl,hS⟩
        ·refine BE ?_;refine BJ P6 ?_;refine EB (s' :=(.fz (a0.map Fg)::u::u::u::FA:: .int .i64 FI:: .int .i64 Fs::u::u::u::u::u::u::u::u::u::u::u::u::u::u::u::u::u::u::u::u::u::u::u::u::u::u::u::u::u::u::u::u::u::u::u::u::u::u::u::u::u::u::u::u::u::u::u::u::u::u::u::u::u::u::u::u::u::u::[])) rfl ?_
         exact CA JS ⟨_,(Option.some.inj h).symm,rfl,hS⟩
       ·obtain ⟨KR,Fl,rfl,hS⟩:=hq;obtain rfl:=Fl.symm;replace h:=U1;try dsimp only at h
        refine BM Jo ?_;exact CA Is ⟨_,(Option.some.inj h).symm,rfl,hS⟩
    ·obtain ⟨F7,Fl,rfl,hS⟩:=hq;obtain rfl:=Fl.symm;replace h:=UO;try dsimp only at h
     refine BJ GU ?_;refine B1 gC ?_;try simp only [W,Fe,Nat.reduceAdd]
     exact Cw FX h ⟨rfl,hS⟩
   ·refine BG ?_;refine BL GL ?_;try obtain rfl:=Option.some.inj h
    obtain rfl:=UM _ rfl;have h:(some (FI):Option (Int))=some (FI):=rfl;refine Cx FX ?_;refine BP Gh ?_;exact CA Gq ⟨_,(Option.some.inj h).symm,rfl,(hS.C2 1 [] (by decide))⟩
  ·obtain ⟨FD,Fl,rfl,hS⟩:=hq;obtain rfl:=Fl.symm;replace h:=UL;try dsimp only at h
   refine BJ G4 ?_;refine BC fun Zi U2=> ?_;refine B1 gC ?_;try simp only [W,Nat.reduceAdd]
   refine BJ U2 ?_;refine BF ?_;refine BV Ff rfl rfl ?_;try obtain rfl:=Option.some.inj h
   exact hP _ hS
end Go.Hr
