import Derived.Test.YtmmomohapflagaaVgF
import Derived.Test.YtmmomohapflagaaProg
import Derived.Test.YtmmomohapflagaaVaE
import Derived.KernelRfl
open Go Go.VS
set_option maxRecDepth 8000
set_option maxHeartbeats 4000000
namespace Go.Hi
def Fu (x:Fq):AV:= .agg [.int .i64 x.Fv,.int .i64 x.Fs]
def Oh (x:FE):AV:= .agg [.fz (x.Code.map (AV.int .u8)),.int .i64 x.FG,.int .u64 x.FV]
def E:aE:=fun t=>match t with
 |3=>some {sz:=1,agg:=false,zero:=[AV.int IntKind.i64 0],bytes:=8,au:=UD.it IntKind.i64,kF:=true}
 |4=>some {sz:=1,agg:=false,zero:=[AV.bool false],bytes:=1,au:=UD.bl,kF:=true}
 |5=>some {sz:=1,agg:=false,zero:=[AV.int IntKind.u8 0],bytes:=1,au:=UD.it IntKind.u8,kF:=true}
 |22=>some {sz:=1,agg:=false,zero:=[AV.nil],bytes:=24,au:=UD.sl 5,kF:=true}
 |23=>some {sz:=1,agg:=false,zero:=[AV.nil],bytes:=24,au:=UD.sl 3,kF:=true}
 |43=>some {sz:=1,agg:=false,zero:=[AV.nil],bytes:=24,au:=UD.sl 52,kF:=true}
 |52=>some {sz:=2,agg:=true,zero:=[AV.int IntKind.i64 0,AV.int IntKind.i64 0],bytes:=16,au:=UD.st [(0,3),(1,3)],kF:=true}
 |163=>some {sz:=1,agg:=false,zero:=[AV.dQ],bytes:=8,au:=UD.pt,kF:=true}
 |164=>some {sz:=1,agg:=false,zero:=[AV.int IntKind.u64 0],bytes:=8,au:=UD.it IntKind.u64,kF:=true}
 |166=>some {sz:=3,agg:=true,zero:=[AV.nil,AV.int IntKind.i64 0,AV.int IntKind.u64 0],bytes:=40,au:=UD.st [(0,22),(1,3),(2,164)],kF:=true}
 |174=>some {sz:=1,agg:=false,zero:=[AV.undef],bytes:=8,au:=UD.ot,kF:=true}
 |241=>some {sz:=1,agg:=false,zero:=[AV.undef],bytes:=8,au:=UD.ot,kF:=true}
 |_=>none
def fX:FuncId→kG:=fun f=>match f with
 |4=>{bC:=[[.sc]],loops:=[(0,{bQ:=[1,5,6,14,15,20,111,112,113]})],blocks:=[(0,[1,6,14,15,20])],nO:=[(6,[],[1]),(7,[],[1]),(24,[],[1]),(25,[],[1])],fV:=[(10,[],some [1,5,6,7,10,11,14,15,106]),(12,[],some [1,5,6,10,14,15,110]),(21,[],some [1,166])],xa:=[(110,[1])]}
 |21=>{bC:=[[.sc]],loops:=[(0,{bQ:=[0,1,12,13]})],blocks:=[(0,[])]}
 |31=>{bC:=[[.sl [.sc,.sc]]]}
 |32=>{bC:=[[.sc],[.sc]],loops:=[(0,{bQ:=[0,11,12,13]})],blocks:=[(0,[])],fV:=[(7,[],some [0,11,12,13,31])]}
 |33=>{bC:=[[.sc],[.sc]]}
 |34=>{bC:=[[.sl [.sc]],[.sc]],loops:=[(0,{bQ:=[1,4,11,12]})],blocks:=[(0,[1,4])]}
 |35=>{bC:=[[.sl [.sc]],[.sc]],loops:=[(0,{bQ:=[0,4,12,13,14]}),(2,{bQ:=[0,4,5,6,7,12,13,14]})],blocks:=[(2,[0,4,5,7,12,13,14]),(0,[4])],fV:=[(8,[],some [0,4,5,6,7,12,13,14,35])]}
 |36=>{bC:=[[.sc],[.sc],[.sc]],loops:=[(0,{bQ:=[5,6,13,14,15]})],blocks:=[(0,[5,6])]}
 |37=>{bC:=[[.sc],[.sc],[.sc]],loops:=[(0,{bQ:=[5,6,13,14,15]})],blocks:=[(0,[5,6])]}
 |38=>{bC:=[[.sl [.sc,.sc]]]}
 |157=>{bC:=[[.sc]]}
 |162=>{bC:=[[.sc]],xa:=[(11,[1,5])]}
 |163=>{bC:=[[.sc]]}
 |164=>{bC:=[[.sc]]}
 |168=>{bC:=[[.sl [.sc,.sc]]]}
 |169=>{bC:=[[.sc]]}
 |170=>{bC:=[[.sc],[.sc]],loops:=[(0,{bQ:=[0,1,6]}),(2,{bQ:=[0,1,6,7,24,25,26]})],blocks:=[(2,[0,1,6,7]),(0,[])]}
 |171=>{bC:=[[.sc]],loops:=[(0,{bQ:=[0,5,6,7]})],blocks:=[(0,[0])],fV:=[(4,[],some [0,5,6,7,22])]}
 |172=>{bC:=[[.sc]],loops:=[(0,{bQ:=[0,6,7,8]})],blocks:=[(0,[])],fV:=[(5,[],some [0,6,7,8,23])]}
 |173=>{bC:=[]}
 |174=>{bC:=[[.sc]]}
 |175=>{bC:=[[.sc]],loops:=[(0,{bQ:=[0,1]})],blocks:=[(0,[0])]}
 |176=>{bC:=[[.sc]],loops:=[(0,{bQ:=[0,1]})],blocks:=[(0,[0])]}
 |188=>{bC:=[[.sc]]}
 |259=>{bC:=[[.sc]]}
 |282=>{bC:=[[.sc]],xa:=[(13,[0,3])]}
 |283=>{bC:=[[.sl [.sc,.sc]]],loops:=[(0,{bQ:=[0,3,4]})],blocks:=[(0,[0,3])],nO:=[(8,[3,7],[])],fV:=[(10,[],some [0,3,38])],fz:=[(11,[(3,[([41],[.sl [.sc]])]),(6,[([44],[.sl [.sc]])])])],xa:=[(9,[0,3,4]),(38,[3])]}
 |284=>{bC:=[[.sc]]}
 |285=>{bC:=[[.sc]]}
 |286=>{bC:=[[.sc]],loops:=[(0,{bQ:=[0,1,5]}),(2,{bQ:=[0,1,5,6,23,24,25]})],blocks:=[(2,[0,1,5,6]),(0,[])]}
 |287=>{bC:=[],loops:=[(0,{bQ:=[0,1,2,6,7,8]}),(2,{bQ:=[0,1,2,6]}),(4,{bQ:=[0,1,2,6,7,8]})],blocks:=[(0,[0,1,2,6,7]),(4,[0,1,2,6,7]),(2,[])],xa:=[(54,[0,1,2,6])]}
 |320=>{bC:=[[.sc]],loops:=[(0,{bQ:=[0,1,7,8]})],blocks:=[(0,[])]}
 |321=>{bC:=[],loops:=[(0,{bQ:=[0,1,2,3,8]}),(2,{bQ:=[0,1,2,3,8,9]})],blocks:=[(2,[0,1,2,3,8]),(0,[])],nO:=[(4,[14],[]),(6,[15,17],[])],fV:=[(4,[],some [0,1,2,3,8,9,34])]}
 |_=>{}
noncomputable def code:FuncId→Option Func:=fun f=>match f with
 |4=>some Go.Proofs.Try.f4
 |21=>some Go.Proofs.Try.f21
 |31=>some Go.Proofs.Try.f31
 |32=>some Go.Proofs.Try.f32
 |33=>some Go.Proofs.Try.f33
 |34=>some Go.Proofs.Try.f34
 |35=>some Go.Proofs.Try.f35
 |36=>some Go.Proofs.Try.f36
 |37=>some Go.Proofs.Try.f37
 |38=>some Go.Proofs.Try.f38
 |157=>some Go.Proofs.Try.f157
 |162=>some Go.Proofs.Try.f162
 |163=>some Go.Proofs.Try.f163
 |164=>some Go.Proofs.Try.f164
 |168=>some Go.Proofs.Try.f168
 |169=>some Go.Proofs.Try.f169
 |170=>some Go.Proofs.Try.f170
 |171=>some Go.Proofs.Try.f171
 |172=>some Go.Proofs.Try.f172
 |173=>some Go.Proofs.Try.f173
 |174=>some Go.Proofs.Try.f174
 |175=>some Go.Proofs.Try.f175
 |176=>some Go.Proofs.Try.f176
 |188=>some Go.Proofs.Try.f188
 |259=>some Go.Proofs.Try.f259
 |282=>some Go.Proofs.Try.f282
 |283=>some Go.Proofs.Try.f283
 |284=>some Go.Proofs.Try.f284
 |285=>some Go.Proofs.Try.f285
 |286=>some Go.Proofs.Try.f286
 |287=>some Go.Proofs.Try.f287
 |320=>some Go.Proofs.Try.f320
 |321=>some Go.Proofs.Try.f321
 |_=>none
noncomputable def C:aK:=⟨E,fX,code,fun _ _ _ _=>False⟩
theorem gC:Good C:=⟨fun _ _ _ _ _ _ h=>h,fun _ _ _ _ h=>h.elim⟩
theorem MH:C.E=E:=rfl
theorem MI:E 3=some {sz:=1,agg:=false,zero:=[AV.int IntKind.i64 0],bytes:=8,au:=UD.it IntKind.i64,kF:=true}:=rfl
theorem MJ:E 4=some {sz:=1,agg:=false,zero:=[AV.bool false],bytes:=1,au:=UD.bl,kF:=true}:=rfl
theorem MK:E 5=some {sz:=1,agg:=false,zero:=[AV.int IntKind.u8 0],bytes:=1,au:=UD.it IntKind.u8,kF:=true}:=rfl
theorem ML:E 22=some {sz:=1,agg:=false,zero:=[AV.nil],bytes:=24,au:=UD.sl 5,kF:=true}:=rfl
theorem MN:E 23=some {sz:=1,agg:=false,zero:=[AV.nil],bytes:=24,au:=UD.sl 3,kF:=true}:=rfl
theorem MO:E 43=some {sz:=1,agg:=false,zero:=[AV.nil],bytes:=24,au:=UD.sl 52,kF:=true}:=rfl
theorem MP:E 52=some {sz:=2,agg:=true,zero:=[AV.int IntKind.i64 0,AV.int IntKind.i64 0],bytes:=16,au:=UD.st [(0,3),(1,3)],kF:=true}:=rfl
theorem MQ:E 163=some {sz:=1,agg:=false,zero:=[AV.dQ],bytes:=8,au:=UD.pt,kF:=true}:=rfl
theorem MR:E 164=some {sz:=1,agg:=false,zero:=[AV.int IntKind.u64 0],bytes:=8,au:=UD.it IntKind.u64,kF:=true}:=rfl
theorem MS:E 166=some {sz:=3,agg:=true,zero:=[AV.nil,AV.int IntKind.i64 0,AV.int IntKind.u64 0],bytes:=40,au:=UD.st [(0,22),(1,3),(2,164)],kF:=true}:=rfl
theorem MT:E 174=some {sz:=1,agg:=false,zero:=[AV.undef],bytes:=8,au:=UD.ot,kF:=true}:=rfl
theorem MU:E 241=some {sz:=1,agg:=false,zero:=[AV.undef],bytes:=8,au:=UD.ot,kF:=true}:=rfl
theorem Fp:type_of% (And.intro @MH<|And.intro @MI<|And.intro @MJ<|And.intro @MK<|And.intro @ML<|And.intro @MN<|And.intro @MO<|And.intro @MP<|And.intro @MQ<|And.intro @MR<|And.intro @MS<|And.intro @MT @MU):=And.intro @MH<|And.intro @MI<|And.intro @MJ<|And.intro @MK<|And.intro @ML<|And.intro @MN<|And.intro @MO<|And.intro @MP<|And.intro @MQ<|And.intro @MR<|And.intro @MS<|And.intro @MT @MU
theorem MV (x:Fq):Fu x= .agg [.int .i64 x.Fv,.int .i64 x.Fs]:=rfl
theorem MW (x:FE):Oh x= .agg [.fz (x.Code.map (AV.int .u8)),.int .i64 x.FG,.int .u64 x.FV]:=rfl
theorem Gh:type_of% (And.intro @MV<|And.intro @MW<|And.intro @D5 @uR):=And.intro @MV<|And.intro @MW<|And.intro @D5 @uR
theorem MX {a0:FE} {i0:Nat} {w0:Nat} {r:(Int×FE)} (h:IM a0=some r) {F:List It} {H:J} (hS:ap H (⟨.ptr i0 w0 0 0,3,[.agg [.fz (a0.Code.map (AV.int .u8)),.int .i64 a0.FG,.int .u64 a0.FV]]⟩::F)) {P:AV→J→Prop} (hP: ∀H',ap H' (⟨.ptr i0 w0 0 0,3,[.agg [.fz (r.2.Code.map (AV.int .u8)),.int .i64 r.2.FG,.int .u64 r.2.FV]]⟩::F)→P (.int .i64 r.1) H'):aw C 282 [.ptr i0 w0 0 0] H P:=by
 refine Cd gC (res:=[.tmp 2]) (n:=62) rfl rfl rfl rfl fun K0 Ft=> ?_;simp only [W,Nat.reduceSub,Nat.reduceAdd,List.replicate];unfold IM at h;refine BM fun K1 Fx=> ?_;refine Ca gC ?_;try simp only [W,Nat.reduceAdd]
 refine BT Fx ?_;refine BM fun K2 zO=> ?_;refine Ca gC ?_;try simp only [W,Nat.reduceAdd]
 refine BT zO ?_;refine BM fun K3 FO=> ?_;refine BM fun K4 Gr=> ?_;refine Cc gC (by kernel_rfl) ?_
 try simp only [W,Fp,Nat.reduceAdd,Nat.reduceBEq,hS.var 0 rfl]
 refine BT Gr ?_;obtain ⟨HE,h,g7⟩:=Option.bind_eq_some_iff.1 h;refine CJ gC (fun s H=> ∃Fw:Int,HE=(Fw)∧s=(.ptr i0 w0 0 0::u::u:: .int .i64 Fw::u::u::u::u::u::u::u::u::u::u::u::u::u::u::u::u::u::u::u::u::u::u::u::u::u::u::u::u::u::u::u::u::u::u::u::u::u::u::u::u::u::u::u::u::u::u::u::u::u::u::u::u::u::u::u::u::u::u::[])∧ap H (⟨.ptr i0 w0 0 0,3,[.agg [.fz (a0.Code.map (AV.int .u8)),.int .i64 a0.FG,.int .u64 a0.FV]]⟩::F)) (fun K8 FL=> ?_) (fun s H hq=> ?_)
 ·refine BM fun K9 FJ=> ?_;refine BR ?_;simp only [W];refine B_ h (fun hc h=> ?_) (fun hc h=> ?_)
  ·refine Cc gC (by kernel_rfl) ?_
   try simp only [W,Fp,Nat.reduceAdd,Nat.reduceBEq,hS.var 0 rfl]
   refine Cy rfl rfl rfl (fun _=>rfl) h fun GW MY h=> ?_;try simp only [W,Fp]
   refine BT FJ ?_;refine EL (s' :=(.ptr i0 w0 0 0::u::u:: .int .i64 (IntKind.i64.wrap GW)::u::u::u::u::u::u::u::u::u::u::u::u::u::u::u::u::u::u::u::u::u::u::u::u::u::u::u::u::u::u::u::u::u::u::u::u::u::u::u::u::u::u::u::u::u::u::u::u::u::u::u::u::u::u::u::u::u::u::[])) rfl ?_
   exact CK FL ⟨_,(Option.some.inj h).symm,rfl,hS⟩
  ·refine BO ?_;refine BT FJ ?_;refine EL (s' :=(.ptr i0 w0 0 0::u::u:: .int .i64 0::u::u::u::u::u::u::u::u::u::u::u::u::u::u::u::u::u::u::u::u::u::u::u::u::u::u::u::u::u::u::u::u::u::u::u::u::u::u::u::u::u::u::u::u::u::u::u::u::u::u::u::u::u::u::u::u::u::u::[])) rfl ?_
   exact CK FL ⟨_,(Option.some.inj h).symm,rfl,hS⟩
 ·obtain ⟨Fw,FH,rfl,hS⟩:=hq;obtain rfl:=FH.symm;replace h:=g7;try dsimp only at h
  refine BT FO ?_;refine BM fun Le HF=> ?_;refine Ca gC ?_;try simp only [W,Fp,Nat.reduceAdd,Nat.reduceBEq,hS.var 0 rfl]
  refine Ct (a:= .int .i64 (IntKind.i64.wrap (a0.FG+1))) (y' := .agg [.fz (a0.Code.map (AV.int .u8)),.int .i64 (IntKind.i64.wrap (a0.FG+1)),.int .u64 a0.FV]) 0 hS rfl rfl rfl rfl rfl rfl rfl rfl fun H hS=> ?_
  try simp only [W]
  refine BT HF ?_;refine BM fun Lf Hn=> ?_;refine Ca gC ?_;try simp only [W,Fp,Nat.reduceAdd,Nat.reduceBEq,hS.var 0 rfl]
  refine Ct (a:= .int .u64 (IntKind.u64.wrap ((IntKind.u64.wrap ((IntKind.u64.wrap (a0.FV*6364136223846793005))+(IntKind.u64.wrap Fw)))+1442695040888963407))) (y' := .agg [.fz (a0.Code.map (AV.int .u8)),.int .i64 (IntKind.i64.wrap (a0.FG+1)),.int .u64 (IntKind.u64.wrap ((IntKind.u64.wrap ((IntKind.u64.wrap (a0.FV*6364136223846793005))+(IntKind.u64.wrap Fw)))+1442695040888963407))]) 0 hS rfl rfl rfl rfl rfl rfl rfl rfl fun H hS=> ?_
  try simp only [W]
  refine BT Hn ?_;refine BM fun Iv Gi=> ?_;refine BM fun HU F8=> ?_;refine Cc gC (by kernel_rfl) ?_
  try simp only [W,Fp,Nat.reduceAdd,Nat.reduceBEq,hS.var 0 rfl]
  refine BT F8 ?_;refine BR ?_;simp only [W];refine B_ h (fun hc h=> ?_) (fun hc h=> ?_)
  ·refine BM fun HV Gj=> ?_;refine Ca gC ?_;try simp only [W,Nat.reduceAdd]
   refine BT Gj ?_;refine BP ?_;refine BU Gi ?_;refine B4 Ft rfl ?_;try obtain rfl:=Option.some.inj h
   exact hP _ hS
  ·refine BO ?_;refine BT Gi ?_;refine BM fun Ho F1=> ?_;refine Ca gC ?_;try simp only [W,Fp,Nat.reduceAdd,Nat.reduceBEq,hS.var 0 rfl]
   rw [CQ _ _ _ rfl,Option.map_some,tq];try simp only [W,Fp]
   refine BT F1 ?_;refine BP ?_;refine B4 Ft rfl ?_;try obtain rfl:=Option.some.inj h
   exact hP _ hS
theorem IZ {a0:FE} {a1:Int} {i0:Nat} {w0:Nat} {r:(Int×FE)} (h:G7 a0 a1=some r) {F:List It} {H:J} (hS:ap H (⟨.ptr i0 w0 0 0,3,[.agg [.fz (a0.Code.map (AV.int .u8)),.int .i64 a0.FG,.int .u64 a0.FV]]⟩::F)) {P:AV→J→Prop} (hP: ∀H',ap H' (⟨.ptr i0 w0 0 0,3,[.agg [.fz (r.2.Code.map (AV.int .u8)),.int .i64 r.2.FG,.int .u64 r.2.FV]]⟩::F)→P (.int .i64 r.1) H'):aw C 162 [.ptr i0 w0 0 0,.int .i64 a1] H P:=by
 refine Cd gC (res:=[.tmp 4]) (n:=20) rfl rfl rfl rfl fun K0 Ft=> ?_;simp only [W,Nat.reduceSub,Nat.reduceAdd,List.replicate];unfold G7 at h;refine BM fun K1 Fx=> ?_;refine Ca gC ?_;try simp only [W,Nat.reduceAdd]
 refine BT Fx ?_;refine BM fun K2 zO=> ?_;refine BM fun K3 FO=> ?_;refine Ca gC ?_;try simp only [W,Fp,Nat.reduceAdd]
 refine BT FO ?_;refine BR ?_;simp only [W];refine B_ h (fun hc h=> ?_) (fun hc h=> ?_)
 ·refine BM fun K4 Gr=> ?_;refine Ca gC ?_;try simp only [W,Nat.reduceAdd]
  refine BT Gr ?_;refine BP ?_;refine BU zO ?_;refine B4 Ft rfl ?_;try obtain rfl:=Option.some.inj h
  exact hP _ hS
 ·refine BO ?_;refine BT zO ?_;refine BM fun K5 Gc=> ?_;refine Ca gC ?_;try simp only [W,Nat.reduceAdd]
  refine CE h fun FI Hp h=> ?_;obtain ⟨Hy,IN⟩:=FI;try dsimp only at h
  refine MX Hp hS fun H hS=> ?_;try simp only [W]
  refine BT Gc ?_;refine BM fun K9 FJ=> ?_;refine BM fun I0 Gk=> ?_;refine Ca gC ?_;try simp only [W,Fp,Nat.reduceAdd]
  refine BT Gk ?_;obtain ⟨Iw,h,I1⟩:=Option.bind_eq_some_iff.1 h;refine CJ gC (fun s H=> ∃FM:Int,∃FF:List Int,∃FP:Int,∃F2:Int,Iw=(FM,FF,FP,F2)∧s=[u,.int .i64 a1,u,u,u,.int .i64 FM,u,u,u,u,u,u,u,u,u,u,u,u,u,u]∧ap H (⟨.ptr i0 w0 0 0,3,[.agg [.fz (FF.map (AV.int .u8)),.int .i64 FP,.int .u64 F2]]⟩::F)) (fun GM FN=> ?_) (fun s H hq=> ?_)
  ·refine BM fun HW Gd=> ?_;refine BR ?_;simp only [W];refine B_ h (fun hc h=> ?_) (fun hc h=> ?_)
   ·refine Ca gC ?_;try simp only [W,Fp,Nat.reduceAdd]
    refine CE h fun GA MZ h=> ?_;obtain ⟨Gg,Hk⟩:=GA;try dsimp only at h
    refine MX MZ hS fun H hS=> ?_;try simp only [W,Fp]
    refine BT Gd ?_;refine BS ?_;exact CK FN ⟨_,_,_,_,(Option.some.inj h).symm,rfl,hS⟩
   ·refine BO ?_;refine BT Gd ?_;refine BS ?_;exact CK FN ⟨_,_,_,_,(Option.some.inj h).symm,rfl,hS⟩
  ·obtain ⟨FM,FF,FP,F2,rfl,rfl,hS⟩:=hq;replace h:=I1;try dsimp only at h
   refine BT FJ ?_;refine BM fun Lg Ix=> ?_;refine Ca gC ?_;try simp only [W,Fp,Nat.reduceAdd]
   refine Cp _ h fun Gy SD h=> ?_;try simp only [W]
   refine BT Ix ?_;refine BP ?_;refine B4 Ft rfl ?_;try obtain rfl:=Option.some.inj h
   exact hP _ hS
theorem M0 {a0:FE} {a1:Int} {i0:Nat} {w0:Nat} {r:(Bool×FE)} (h:Ia a0 a1=some r) {F:List It} {H:J} (hS:ap H (⟨.ptr i0 w0 0 0,3,[.agg [.fz (a0.Code.map (AV.int .u8)),.int .i64 a0.FG,.int .u64 a0.FV]]⟩::F)) {P:AV→J→Prop} (hP: ∀H',ap H' (⟨.ptr i0 w0 0 0,3,[.agg [.fz (r.2.Code.map (AV.int .u8)),.int .i64 r.2.FG,.int .u64 r.2.FV]]⟩::F)→P (.bool r.1) H'):aw C 188 [.ptr i0 w0 0 0,.int .i64 a1] H P:=by
 refine Cd gC (res:=[.tmp 4]) (n:=9) rfl rfl rfl rfl fun K0 Ft=> ?_;simp only [W,Nat.reduceSub,Nat.reduceAdd,List.replicate];unfold Ia at h;refine BM fun K1 Fx=> ?_;refine Ca gC ?_;try simp only [W,Nat.reduceAdd]
 refine BT Fx ?_;refine BM fun K2 zO=> ?_;refine Ca gC ?_;try simp only [W,Nat.reduceAdd]
 refine CE h fun b3 kV h=> ?_;obtain ⟨FQ,GD⟩:=b3;try dsimp only at h
 refine IZ kV hS fun H hS=> ?_;try simp only [W,Fp]
 refine BT zO ?_;refine BP ?_;refine B4 Ft rfl ?_;try obtain rfl:=Option.some.inj h
 exact hP _ hS
theorem Oi {a0:Int} {a1:Int} {r:(Int)} (h:I9 a0 a1=some r) {F:List It} {H:J} (hS:ap H (F)) {P:AV→J→Prop} (hP: ∀H',ap H' (F)→P (.int .i64 r) H'):aw C 259 [.int .i64 a0,.int .i64 a1] H P:=by
 refine Cd gC (res:=[.tmp 4]) (n:=10) rfl rfl rfl rfl fun K0 Ft=> ?_;simp only [W,Nat.reduceSub,Nat.reduceAdd,List.replicate];unfold I9 at h;refine BM fun K1 Fx=> ?_;refine Ca gC ?_;try simp only [W,Nat.reduceAdd]
 refine BT Fx ?_;refine BM fun K2 zO=> ?_;refine BM fun K3 FO=> ?_;refine Ca gC ?_;try simp only [W,Fp,Nat.reduceAdd]
 refine BT FO ?_;refine BR ?_;simp only [W];refine B_ h (fun hc h=> ?_) (fun hc h=> ?_)
 ·refine BM fun K4 Gr=> ?_;refine Ca gC ?_;try simp only [W,Nat.reduceAdd]
  refine BT Gr ?_;refine BP ?_;refine BU zO ?_;refine B4 Ft rfl ?_;try obtain rfl:=Option.some.inj h
  exact hP _ hS
 ·refine BO ?_;refine BT zO ?_;refine BM fun K5 Gc=> ?_;refine Ca gC ?_;try simp only [W,Nat.reduceAdd]
  refine BT Gc ?_;refine BP ?_;refine B4 Ft rfl ?_;try obtain rfl:=Option.some.inj h
  exact hP _ hS
theorem M1 {a0:FE} {a1:List Int} {i0:Nat} {w0:Nat} {r:(Int×FE)} (h:Ib a0 a1=some r) {F:List It} {H:J} (hS:ap H (⟨.ptr i0 w0 0 0,3,[.agg [.fz (a0.Code.map (AV.int .u8)),.int .i64 a0.FG,.int .u64 a0.FV]]⟩::F)) {P:AV→J→Prop} (hP: ∀H',ap H' (⟨.ptr i0 w0 0 0,3,[.agg [.fz (r.2.Code.map (AV.int .u8)),.int .i64 r.2.FG,.int .u64 r.2.FV]]⟩::F)→P (.int .i64 r.1) H'):aw C 163 [.ptr i0 w0 0 0,.fz (a1.map (AV.int .i64))] H P:=by
 refine Cd gC (res:=[.tmp 4]) (n:=12) rfl rfl rfl rfl fun K0 Ft=> ?_;simp only [W,Nat.reduceSub,Nat.reduceAdd,List.replicate];unfold Ib at h;refine BM fun K1 Fx=> ?_;refine Ca gC ?_;try simp only [W,Nat.reduceAdd]
 refine BT Fx ?_;refine BM fun K2 zO=> ?_;refine Ca gC ?_;try simp only [W,Fp,Nat.reduceAdd]
 refine CE h fun b3 kV h=> ?_;obtain ⟨FQ,GD⟩:=b3;try dsimp only at h
 refine IZ kV hS fun H hS=> ?_;try simp only [W,Fp]
 refine Cy rfl rfl rfl (fun _=>rfl) h fun FI Hp h=> ?_;try simp only [W,Fp]
 refine BT zO ?_;refine BP ?_;refine B4 Ft rfl ?_;try obtain rfl:=Option.some.inj h
 exact hP _ hS
theorem Oj {a0:FE} {i0:Nat} {w0:Nat} {r:(List Fq×FE)} (h:I_ a0=some r) {F:List It} {H:J} (hS:ap H (⟨.ptr i0 w0 0 0,3,[.agg [.fz (a0.Code.map (AV.int .u8)),.int .i64 a0.FG,.int .u64 a0.FV]]⟩::F)) {P:AV→J→Prop} (hP: ∀Lh:AV,aJ Lh→ ∀H',ap H' (⟨Lh,2,r.1.map Fu⟩::⟨.ptr i0 w0 0 0,3,[.agg [.fz (r.2.Code.map (AV.int .u8)),.int .i64 r.2.FG,.int .u64 r.2.FV]]⟩::F)→P (Lh) H'):aw C 283 [.ptr i0 w0 0 0] H P:=by
 refine Cd gC (res:=[.tmp 2]) (n:=49) rfl rfl rfl rfl fun K0 Ft=> ?_;simp only [W,Nat.reduceSub,Nat.reduceAdd,List.replicate];unfold I_ at h;refine BM fun K1 Fx=> ?_;refine Ca gC ?_;try simp only [W,Nat.reduceAdd]
 refine BT Fx ?_;refine BM fun K2 zO=> ?_;refine Ca gC ?_;try simp only [W,Nat.reduceAdd]
 refine BT zO ?_;refine BM fun K3 FO=> ?_;refine Ca gC ?_;try simp only [W,Nat.reduceAdd]
 refine CE h fun FQ GR h=> ?_;obtain ⟨GD,FI⟩:=FQ;try dsimp only at h
 refine IZ GR hS fun H hS=> ?_;try simp only [W]
 refine BT FO ?_;refine BM fun K7 Ge=> ?_;refine BM fun K8 FL=> ?_;refine Ca gC ?_;try simp only [W,Nat.reduceAdd]
 refine CE h fun Ok Ol h=> ?_;obtain ⟨GW,Gb⟩:=Ok;try dsimp only at h
 refine M0 Ol hS fun H hS=> ?_;try simp only [W]
 refine BT FL ?_;obtain ⟨Om,h,On⟩:=Option.bind_eq_some_iff.1 h;refine CJ gC (fun s H=> ∃FF:Int,∃FP:List Int,∃F2:Int,∃G9:Int,Om=(FF,FP,F2,G9)∧s=[.ptr i0 w0 0 0,u,u,.nil,.int .i64 FF,u,u,u,u,u,u,u,u,u,u,u,u,u,u,u,u,u,u,u,u,u,u,u,u,u,u,u,u,u,u,u,u,u,u,u,u,u,u,u,u,u,u,u,u]∧ap H (⟨.ptr i0 w0 0 0,3,[.agg [.fz (FP.map (AV.int .u8)),.int .i64 F2,.int .u64 G9]]⟩::F)) (fun HW Gd=> ?_) (fun s H hq=> ?_)
 ·refine BM fun HG F9=> ?_;refine BR ?_;simp only [W];refine B_ h (fun hc h=> ?_) (fun hc h=> ?_)
  ·refine Ca gC ?_;try simp only [W,Nat.reduceAdd]
   refine CE h fun Gg Li h=> ?_;obtain ⟨Hk,F6⟩:=Gg;try dsimp only at h
   refine IZ Li hS fun H hS=> ?_;try simp only [W,Fp]
   refine BT F9 ?_;refine BS ?_;exact CK Gd ⟨_,_,_,_,(Option.some.inj h).symm,rfl,hS⟩
  ·refine BO ?_;refine BT F9 ?_;refine BS ?_;exact CK Gd ⟨_,_,_,_,(Option.some.inj h).symm,rfl,hS⟩
 ·obtain ⟨FF,FP,F2,G9,rfl,rfl,hS⟩:=hq;replace h:=On;try dsimp only at h
  refine BT Ge ?_;refine BM fun JD GY=> ?_;obtain ⟨Oo,Oq,Ot⟩:=Option.bind_eq_some_iff.1 h;refine CJ gC (fun s H=> ∃GF:List Fq,∃Gp:List Int,∃Gz:Int,∃IQ:Int,Oo=(GF,Gp,Gz,IQ)∧ ∃HX:AV,aJ HX∧s=[.ptr i0 w0 0 0,u,u,HX,u,u,u,u,u,u,u,u,u,u,u,u,u,u,u,u,u,u,u,u,u,u,u,u,u,u,u,u,u,u,u,u,u,u,u,u,u,u,u,u,u,u,u,u,u]∧ap H (⟨HX,2,GF.map Fu⟩::⟨.ptr i0 w0 0 0,3,[.agg [.fz (Gp.map (AV.int .u8)),.int .i64 Gz,.int .u64 IQ]]⟩::F)) (fun M3 JE=> ?_) (fun s H hq=> ?_)
  ·refine BN fun Lj HY=> ?_;refine CF gC Oq (fun x s H=>match x with|(FT,Gn,Ic,Ie,GP)=> ∃Kt:AV,aJ Kt∧s=[.ptr i0 w0 0 0,u,u,Kt,.int .i64 Gn,u,u,u,u,u,u,u,u,u,u,u,u,u,u,u,u,u,u,u,u,u,u,u,u,u,u,u,u,u,u,u,u,u,u,u,u,u,u,u,u,u,u,u,u]∧ap H (⟨Kt,2,FT.map Fu⟩::⟨.ptr i0 w0 0 0,3,[.agg [.fz (Ic.map (AV.int .u8)),.int .i64 Ie,.int .u64 GP]]⟩::F)) ⟨_,lP,rfl,(hS.u2 2)⟩ (fun x SE s H h Ou hi M4 I2=> ?_)
   obtain ⟨FT,Gn,Ic,Ie,GP⟩:=x;try dsimp only at hi
   obtain ⟨Kt,M5,rfl,hS⟩:=hi;simp only [KU] at h;refine BM fun Ku GZ=> ?_;refine BM fun Lk Iy=> ?_;refine Ca gC ?_;try simp only [W,Fp,Nat.reduceAdd]
   refine BT Iy ?_;refine BR ?_;simp only [W];refine B_ h (fun hc h=> ?_) (fun hc h=> ?_)
   ·refine BO ?_;refine BT GZ ?_;refine BM fun Ll GS=> ?_;refine BN fun Ov HH=> ?_;refine BM fun Ox Kv=> ?_;refine Ca gC ?_;try simp only [W,Nat.reduceAdd]
    refine CE h fun M6 Kw h=> ?_;obtain ⟨G8,Mm⟩:=M6;try dsimp only at h
    refine IZ Kw (hS.Db 2 [1,0] (by decide)) fun H hS=> ?_
    try simp only [W,Fp]
    refine Dj rfl rfl rfl rfl rfl ?_;try simp only [W]
    refine Cs hS rfl rfl fun SG SH H hS=> ?_;try simp only [W]
    refine Ct (a:= .agg [.int .i64 (IntKind.i64.wrap (1+G8)),.int .i64 0]) (y' := .agg [.int .i64 (IntKind.i64.wrap (1+G8)),.int .i64 0]) 0 hS rfl rfl rfl rfl rfl rfl rfl rfl fun H hS=> ?_
    try simp only [W]
    refine BT Kv ?_;refine BM fun SI Oy=> ?_;refine Dk gC [(3,[0,1]),(7,[])] (by kernel_rfl) rfl (by kernel_rfl) ?_
    try simp only [W,Fp,reduceIte,Nat.reduceAdd,Nat.reduceBEq,hS.var 0 rfl,iV,lS,Nat.reduceEqDiff]
    refine CE h fun Oz OA h=> ?_;obtain ⟨KV,Ka⟩:=Oz;try dsimp only at h
    refine IZ OA (hS.Db 3 [1,0,2] (by decide)) fun H hS=> ?_
    refine Dl ?_;refine Dm (by first|rfl|(simp [aP,W,Fp,AV.cells,hS.var 1 rfl];done)) ?_
    refine Dm (by first|rfl|(simp [aP,W,Fp,bS,jO,aI,AV.cells,hS.var 1 rfl];done)) ?_
    refine Dn ?_;try simp only [W,Fp]
    refine DQ (bC:=[[.sc]]) (ys:=[.int .i64 40,.int .i64 (IntKind.i64.wrap ((IntKind.i64.wrap (1+G8))+KV))]) h rfl (by rfl) fun IP OB h=>⟨.int .i64 IP,Oi OB (ap.nil _) fun H hS=>DJ rfl (DF rfl (DE rfl)),⟨rfl,rfl,fun _=>rfl⟩,?_⟩
    try simp only [W,Fp,Nat.reduceAdd,Nat.reduceBEq,hS.var 1 rfl]
    refine Ct (a:= .int .i64 IP) (y' := .agg [.int .i64 (IntKind.i64.wrap (1+G8)),.int .i64 IP]) 1 hS rfl rfl rfl rfl rfl rfl rfl rfl fun H hS=> ?_
    try simp only [W]
    refine BT Oy ?_;refine Ca gC ?_;try simp only [W,Fp,reduceIte,Nat.reduceAdd,Nat.reduceLeDiff,hS.var 1 rfl]
    refine CD (el:=([(⟨(IntKind.i64.wrap (1+G8)),IP⟩:Fq)]:List Fq).map Fu) hS rfl rfl rfl rfl rfl rfl rfl fun SJ H OC hS=> ?_;try simp only [W,Fp]
    refine CW (l:=FT) (c:=Fu) 3 hS rfl M5 rfl rfl rfl (hS.g6 0 rfl OC) (fun _=>rfl) rfl h fun SK H Mn OD hm h hS=> ?_;try simp only [W]
    refine BX HH ?_;refine BT GS ?_;refine Ca gC ?_;try simp only [W,Fp,Nat.reduceAdd]
    exact CG I2 h ⟨_,OD,rfl,(hS.Db 4 [3,1] (by decide))⟩
   ·refine BQ ?_;refine BV GZ ?_;try obtain rfl:=Option.some.inj h
    obtain rfl:=Ou _ rfl;have h:(some (FT,Ic,Ie,GP):Option ((List Fq)×(List Int)×Int×Int))=some (FT,Ic,Ie,GP):=rfl;refine CH I2 ?_;refine BZ HY ?_;exact CK JE ⟨_,_,_,_,(Option.some.inj h).symm,_,M5,rfl,hS⟩
  ·obtain ⟨GF,Gp,Gz,IQ,rfl,HX,Ln,rfl,hS⟩:=hq;replace h:=Ot;try dsimp only at h
   refine BT GY ?_;refine BM fun SL OE=> ?_;refine BM fun SM OF=> ?_;obtain ⟨OG,h,OH⟩:=Option.bind_eq_some_iff.1 h;refine CJ gC (fun s H=> ∃GL:Bool,∃Hz:List Int,∃IS:Int,∃IT:Int,OG=(GL,Hz,IS,IT)∧s=[.ptr i0 w0 0 0,u,u,HX,u,u,u,u,u,u,u,u,u,u,u,u,u,u,u,u,u,u,u,u,u,u,u,u,u,u,u,u,u,u,u,u,u,u,.bool GL,u,u,u,u,u,u,u,u,u,u]∧ap H (⟨HX,2,GF.map Fu⟩::⟨.ptr i0 w0 0 0,3,[.agg [.fz (Hz.map (AV.int .u8)),.int .i64 IS,.int .u64 IT]]⟩::F)) (fun OI JF=> ?_) (fun s H hq=> ?_)
   ·refine BM fun SN M7=> ?_;refine Ca gC ?_;try simp only [W,Fp,Nat.reduceAdd]
    refine uJ 0 hS rfl Ln rfl ?_;try simp only [W,Fp]
    refine Dh h (fun hc h=> ?_) (fun hc h=> ?_)
    ·try simp only [W,hc]
     refine CE h fun OJ OK h=> ?_;obtain ⟨Mo,Kb⟩:=OJ;try dsimp only at h
     refine M0 OK (hS.Db 2 [1,0] (by decide)) fun H hS=> ?_
     try simp only [W,reduceIte]
     refine BT M7 ?_;refine BS ?_;exact CK JF ⟨_,_,_,_,(Option.some.inj h).symm,rfl,(hS.Db 2 [1,0] (by decide))⟩
    ·try simp only [W,hc]
     refine BT M7 ?_;refine BS ?_;exact CK JF ⟨_,_,_,_,(Option.some.inj h).symm,rfl,hS⟩
   ·obtain ⟨GL,Hz,IS,IT,rfl,rfl,hS⟩:=hq;replace h:=OH;try dsimp only at h
    refine BT OF ?_;obtain ⟨OL,h,OM⟩:=Option.bind_eq_some_iff.1 h;refine CJ gC (fun s H=> ∃Ja:List Fq,∃Jb:List Int,∃Jc:Int,∃Jd:Int,OL=(Ja,Jb,Jc,Jd)∧s=[u,u,u,HX,u,u,u,u,u,u,u,u,u,u,u,u,u,u,u,u,u,u,u,u,u,u,u,u,u,u,u,u,u,u,u,u,u,u,u,u,u,u,u,u,u,u,u,u,u]∧ap H (⟨HX,2,Ja.map Fu⟩::⟨.ptr i0 w0 0 0,3,[.agg [.fz (Jb.map (AV.int .u8)),.int .i64 Jc,.int .u64 Jd]]⟩::F)) (fun SO M8=> ?_) (fun s H hq=> ?_)
    ·refine BM fun SP M9=> ?_;refine BR ?_;simp only [W];refine B_ h (fun hc h=> ?_) (fun hc h=> ?_)
     ·refine Cb (fz:=[(3,[([41],[.sl [.sc]])]),(6,[([44],[.sl [.sc]])])]) gC ?_;try simp only [W,Nat.reduceAdd,Nat.reduceBEq]
      refine CD (el:=([0,10,11]:List Int).map (AV.int .i64)) hS rfl rfl rfl rfl rfl rfl rfl fun ON H Lo hS=> ?_;try simp only [W,Nat.reduceAdd]
      refine CY 0 hS rfl Lo rfl (fun _ _=>by simp [aR,aO,dD]) (fun _=>rfl) fun H r8 hS=> ?_
      try simp only [W]
      refine CE h fun OO OP h=> ?_;obtain ⟨Kc,Mp⟩:=OO;try dsimp only at h
      refine M1 OP (hS.Db 2 [1,0] (by decide)) fun H hS=> ?_
      try simp only [W,Nat.reduceAdd,Nat.reduceBEq]
      refine CD (el:=([5,40,41]:List Int).map (AV.int .i64)) hS rfl rfl rfl rfl rfl rfl rfl fun SQ H OQ hS=> ?_;try simp only [W,Nat.reduceAdd,Nat.reduceBEq]
      refine CY 0 hS rfl OQ rfl (fun _ _=>by simp [aR,aO,dD]) (fun _=>rfl) fun H r8 hS=> ?_
      try simp only [W]
      refine CE h fun OR OS h=> ?_;obtain ⟨HO,If⟩:=OR;try dsimp only at h
      refine M1 OS hS fun H hS=> ?_;try simp only [W,Fp,Nat.reduceAdd,Nat.reduceBEq]
      refine Dj rfl rfl rfl rfl rfl ?_;try simp only [W,Fp,Nat.reduceAdd,Nat.reduceBEq]
      refine Cz 1 hS rfl rfl rfl rfl rfl h (fun Lb SR SS SU M_ h Na=> ?_) Ln.ne;obtain ⟨SV,SW,SX⟩:=hS.elem 1 rfl Na M_;try simp only [W,Nat.reduceAdd,Nat.reduceBEq]
      refine CA (a:= .agg [.int .i64 Kc,.int .i64 HO]) (y' :=(⟨Kc,HO⟩:Fq)) 1 hS rfl Na M_ rfl rfl rfl rfl rfl rfl rfl fun H hS=> ?_
      try simp only [W,Nat.reduceAdd]
      refine BT M9 ?_;refine BS ?_;exact CK M8 ⟨_,_,_,_,(Option.some.inj h).symm,rfl,(hS.Db 2 [1,0] (by decide))⟩
     ·refine BO ?_;refine BT M9 ?_;refine BS ?_;exact CK M8 ⟨_,_,_,_,(Option.some.inj h).symm,rfl,hS⟩
    ·obtain ⟨Ja,Jb,Jc,Jd,rfl,rfl,hS⟩:=hq;replace h:=OM;try dsimp only at h
     refine BT OE ?_;refine BM fun SY OT=> ?_;refine Ca gC ?_;try simp only [W,Nat.reduceAdd]
     refine BT OT ?_;refine BP ?_;refine B4 Ft rfl ?_;try obtain rfl:=Option.some.inj h
     exact hP _ Ln _ hS
theorem Nb {a0:List Int} {r:(List Fq)} (h:IU a0=some r) {F:List It} {H:J} (hS:ap H (F)) {P:AV→J→Prop} (hP: ∀v11:AV,aJ v11→ ∀H',ap H' (⟨v11,2,r.map Fu⟩::F)→P (v11) H'):aw C 168 [.fz (a0.map (AV.int .u8))] H P:=by
 refine Cd gC (res:=[.tmp 2]) (n:=9) rfl rfl rfl rfl fun K0 Ft=> ?_;simp only [W,Nat.reduceSub,Nat.reduceAdd,List.replicate];unfold IU at h;refine BM fun K1 Fx=> ?_;refine Ca gC ?_;try simp only [W,Nat.reduceAdd]
 refine BT Fx ?_;refine BM fun K2 zO=> ?_;refine Ca gC ?_;try simp only [W,Fp,Nat.reduceAdd]
 refine Dj rfl rfl rfl rfl rfl ?_;try simp only [W]
 refine Cr hS rfl rfl rfl rfl fun SZ S0 H hS=> ?_;try simp only [W]
 refine BT zO ?_;refine BM fun K5 Gc=> ?_;refine Ca gC ?_;try simp only [W,Nat.reduceAdd]
 refine CE h fun FI Hp h=> ?_;obtain ⟨Hy,IN⟩:=FI;try dsimp only at h
 refine Oj Hp hS fun S1 OU H hS=> ?_;try simp only [W]
 refine BT Gc ?_;refine BP ?_;refine B4 Ft rfl ?_;try obtain rfl:=Option.some.inj h
 exact hP _ OU _ (hS.Db 2 [0] (by decide))
theorem OV {a0:List Int} {r:(List Fq)} (h:Je a0=some r) {F:List It} {H:J} (hS:ap H (F)) {P:AV→J→Prop} (hP: ∀v6:AV,aJ v6→ ∀H',ap H' (⟨v6,2,r.map Fu⟩::F)→P (v6) H'):aw C 31 [.fz (a0.map (AV.int .u8))] H P:=by
 refine Cd gC (res:=[.tmp 2]) (n:=5) rfl rfl rfl rfl fun K0 Ft=> ?_;simp only [W,Nat.reduceSub,Nat.reduceAdd,List.replicate];unfold Je at h;refine BM fun K1 Fx=> ?_;refine Ca gC ?_;try simp only [W,Nat.reduceAdd]
 refine BT Fx ?_;refine BM fun K2 zO=> ?_;refine Ca gC ?_;try simp only [W,Nat.reduceAdd]
 refine CE h fun b3 kV h=> ?_;refine Nb kV hS fun v4 Lp H hS=> ?_;try simp only [W]
 refine BT zO ?_;refine BP ?_;refine B4 Ft rfl ?_;try obtain rfl:=Option.some.inj h
 exact hP _ Lp _ hS
theorem OW {a0:List Fq} {g1:Fq→Option Bool} {f1:FuncId} {c1:List AV} {r:(Int)} (h:Jf a0 g1=some r) {F:List It} {H:J} (cQ: ∀{x0:Fq} {r:Bool},g1 x0=some r→ ∀(L:List It) (n:Nat),L.drop n=F→ ∀(H:J),ap H L→ ∀(P:AV→J→Prop),(∀H',ap H' L→P (.bool r) H')→aw C f1 ([.agg [.int .i64 x0.Fv,.int .i64 x0.Fs]] ++ c1) H P) (hS:ap H (F)) {P:AV→J→Prop} (hP: ∀H',ap H' (F)→P (.int .i64 r) H'):aw C 320 [.fz (a0.map Fu),.fn f1 c1] H P:=by
 refine Cd gC (res:=[.tmp 4]) (n:=19) rfl rfl rfl rfl fun K0 Ft=> ?_;simp only [W,Nat.reduceSub,Nat.reduceAdd,List.replicate];unfold Jf at h;refine BM fun K1 Fx=> ?_;refine Ca gC ?_;try simp only [W,Nat.reduceAdd]
 refine BT Fx ?_;refine BM fun K2 zO=> ?_;refine BM fun K3 FO=> ?_;refine Ca gC ?_;try simp only [W,Fp,Nat.reduceAdd]
 refine BT FO ?_;obtain ⟨Iz,IA,Hq⟩:=Option.bind_eq_some_iff.1 h;refine CJ gC (fun s H=>Iz=LR.next ()∧s=[u,u,u,u,u,u,u,u,u,u,u,u,u,u,u,u,u,u,u]∧ap H (F)) (fun K7 Ge=> ?_) (fun s H hq=> ?_)
 ·refine BN fun K8 FL=> ?_;refine CF gC IA (fun x s H=>s=[.fz (a0.map Fu),.fn f1 c1,u,u,u,u,u,.int .i64 (a0.length:Int),.int .i64 x,u,u,u,u,u,u,u,u,u,u]∧ap H (F)) ⟨rfl,hS⟩ (fun Fy Lq s H h Hr hi K9 FJ=> ?_)
  skip
  try dsimp only at hi
  obtain ⟨rfl,hS⟩:=hi;simp only [KW] at h;refine BM fun Iv Gi=> ?_;refine Ca gC ?_;try simp only [W,Fp,Nat.reduceAdd]
  refine BT Gi ?_;refine BM fun HU F8=> ?_;refine BR ?_;simp only [W];refine B_ h (fun hc h=> ?_) (fun hc h=> ?_)
  ·refine BO ?_;refine BT F8 ?_;refine BM fun HV Gj=> ?_;refine BN fun Ho F1=> ?_;refine BM fun GM FN=> ?_;refine Ca gC ?_;try simp only [W,Nat.reduceAdd]
   refine BT FN ?_;refine BM fun HW Gd=> ?_;refine Ca gC ?_;try simp only [W,Fp,Nat.reduceAdd]
   refine Cy rfl rfl rfl (fun _=>rfl) h fun GA MZ h=> ?_;try simp only [W,Fp,Gh,reduceIte,Nat.reduceAdd,Nat.reduceLeDiff]
   refine CE h fun Gg Li h=> ?_;refine cQ Li _ 0 rfl _ hS _ fun H hS=> ?_;try simp only [W]
   refine BT Gd ?_;refine BR ?_;simp only [W];refine B_ h (fun hc h=> ?_) (fun hc h=> ?_)
   ·refine BM fun JG G0=> ?_;refine Ca gC ?_;try simp only [W,Nat.reduceAdd]
    refine BT G0 ?_;refine BP ?_;refine B1 F1 ?_;refine BU Gj ?_;try obtain rfl:=Option.some.inj h
    obtain rfl:=Hr _ rfl;have h:(some (LR.done Fy):Option (LR Unit (Int)))=some (LR.done Fy):=rfl;refine CI FJ ?_;refine B1 FL ?_;try obtain rfl:=Option.some.inj h
    obtain rfl:=Option.some.inj Hq;have h:(some Fy:Option (Int))=some Fy:=rfl;refine CM Ge ?_;refine BU zO ?_;refine B4 Ft rfl ?_;try obtain rfl:=Option.some.inj h
    exact hP _ hS
   ·refine BO ?_;refine BX F1 ?_;refine BT Gj ?_;refine Ca gC ?_;try simp only [W,Fp,Nat.reduceAdd]
    exact CG FJ h ⟨rfl,hS⟩
  ·refine BQ ?_;refine BV F8 ?_;try obtain rfl:=Option.some.inj h
   obtain rfl:=Hr _ rfl;have h:(some (LR.next ()):Option (LR Unit (Int)))=some (LR.next ()):=rfl
   refine CH FJ ?_;refine BZ FL ?_;exact CK Ge ⟨(Option.some.inj h).symm,rfl,hS⟩
 ·obtain ⟨rfl,rfl,hS⟩:=hq;replace h:=Hq;try dsimp only at h
  refine BT zO ?_;refine BM fun Kx Hs=> ?_;refine Ca gC ?_;try simp only [W,Nat.reduceAdd]
  refine BT Hs ?_;refine BP ?_;refine B4 Ft rfl ?_;try obtain rfl:=Option.some.inj h
  exact hP _ hS
theorem OX {a0:List Fq} {g1:Fq→Option Bool} {f1:FuncId} {c1:List AV} {r:(Bool)} (h:Jg a0 g1=some r) {F:List It} {H:J} (cQ: ∀{x0:Fq} {r:Bool},g1 x0=some r→ ∀(L:List It) (n:Nat),L.drop n=F→ ∀(H:J),ap H L→ ∀(P:AV→J→Prop),(∀H',ap H' L→P (.bool r) H')→aw C f1 ([.agg [.int .i64 x0.Fv,.int .i64 x0.Fs]] ++ c1) H P) (hS:ap H (F)) {P:AV→J→Prop} (hP: ∀H',ap H' (F)→P (.bool r) H'):aw C 284 [.fz (a0.map Fu),.fn f1 c1] H P:=by
 refine Cd gC (res:=[.tmp 4]) (n:=9) rfl rfl rfl rfl fun K0 Ft=> ?_;simp only [W,Nat.reduceSub,Nat.reduceAdd,List.replicate];unfold Jg at h;refine BM fun K1 Fx=> ?_;refine Ca gC ?_;try simp only [W,Nat.reduceAdd]
 refine BT Fx ?_;refine BM fun K2 zO=> ?_;refine Ca gC ?_;try simp only [W,Nat.reduceAdd]
 refine CE h fun b3 kV h=> ?_;refine OW kV cQ hS fun H hS=> ?_;try simp only [W,Fp]
 refine BT zO ?_;refine BP ?_;refine B4 Ft rfl ?_;try obtain rfl:=Option.some.inj h
 exact hP _ hS
theorem Nc {a0:Int} {a1:Int} {a2:Int} {r:(Bool)} (h:IV a0 a1 a2=some r) {F:List It} {H:J} (hS:ap H (F)) {P:AV→J→Prop} (hP: ∀H',ap H' (F)→P (.bool r) H'):aw C 157 [.int .i64 a0,.int .i64 a1,.int .i64 a2] H P:=by
 refine Cd gC (res:=[.tmp 6]) (n:=15) rfl rfl rfl rfl fun K0 Ft=> ?_;simp only [W,Nat.reduceSub,Nat.reduceAdd,List.replicate];unfold IV at h;refine BM fun K1 Fx=> ?_;refine Ca gC ?_;try simp only [W,Nat.reduceAdd]
 refine BT Fx ?_;refine BM fun K2 zO=> ?_;refine Ca gC ?_;try simp only [W,Fp,Nat.reduceAdd]
 refine Dh h (fun hc h=> ?_) (fun hc h=> ?_)
 ·try simp only [W,Fp,reduceIte,hc]
  refine BT zO ?_;refine BP ?_;refine B4 Ft rfl ?_;try obtain rfl:=Option.some.inj h
  exact hP _ hS
 ·try simp only [W,hc]
  refine BT zO ?_;refine BP ?_;refine B4 Ft rfl ?_;try obtain rfl:=Option.some.inj h
  exact hP _ hS
theorem OY {a0:Fq} {r:(Bool)} (h:Kd a0=some r) {F:List It} {H:J} (hS:ap H (F)) {P:AV→J→Prop} (hP: ∀H',ap H' (F)→P (.bool r) H'):aw C 285 [.agg [.int .i64 a0.Fv,.int .i64 a0.Fs]] H P:=by
 refine Cd gC (res:=[.tmp 2]) (n:=15) rfl rfl rfl rfl fun K0 Ft=> ?_;simp only [W,Nat.reduceSub,Nat.reduceAdd,List.replicate];unfold Kd at h;refine BM fun K1 Fx=> ?_;refine Ca gC ?_;try simp only [W,Nat.reduceAdd]
 refine Cr hS rfl rfl rfl rfl fun JH JI H hS=> ?_;try simp only [W]
 refine BT Fx ?_;refine BM fun K4 Gr=> ?_;refine Ca gC ?_;try simp only [W,Fp,Nat.reduceAdd,Nat.reduceBEq,hS.var 0 rfl]
 refine CE h fun GD OZ h=> ?_;refine Nc OZ hS fun H hS=> ?_;try simp only [W]
 refine Dh h (fun hc h=> ?_) (fun hc h=> ?_)
 ·try simp only [W,hc]
  refine BT Gr ?_;refine BP ?_;refine B4 Ft rfl ?_;try obtain rfl:=Option.some.inj h
  exact hP _ (hS.Db 1 [] (by decide))
 ·try simp only [W,Fp,Nat.reduceAdd,Nat.reduceBEq,hS.var 0 rfl,hc]
  refine CE h fun FI Hp h=> ?_;refine Nc Hp hS fun H hS=> ?_;try simp only [W,reduceIte,Bool.false_eq_true]
  refine BT Gr ?_;refine BP ?_;refine B4 Ft rfl ?_;try obtain rfl:=Option.some.inj h
  exact hP _ (hS.Db 1 [] (by decide))
theorem Lr {a0:List Fq} {r:(Bool)} (h:Ig a0=some r) {F:List It} {H:J} (hS:ap H (F)) {P:AV→J→Prop} (hP: ∀H',ap H' (F)→P (.bool r) H'):aw C 169 [.fz (a0.map Fu)] H P:=by
 refine Cd gC (res:=[.tmp 2]) (n:=11) rfl rfl rfl rfl fun K0 Ft=> ?_;simp only [W,Nat.reduceSub,Nat.reduceAdd,List.replicate];unfold Ig at h;refine BM fun K1 Fx=> ?_;refine Ca gC ?_;try simp only [W,Nat.reduceAdd]
 refine BT Fx ?_;refine BM fun K2 zO=> ?_;refine Ca gC ?_;try simp only [W,Fp,Nat.reduceAdd]
 refine Dh h (fun hc h=> ?_) (fun hc h=> ?_)
 ·try simp only [W,hc]
  refine CE h fun b3 kV h=> ?_;refine OX kV (fun h _ n hL _ hS _ hP=>OY h hS hP) hS fun H hS=> ?_;try simp only [W,reduceIte]
  refine BT zO ?_;refine BP ?_;refine B4 Ft rfl ?_;try obtain rfl:=Option.some.inj h
  exact hP _ hS
 ·try simp only [W,hc]
  refine BT zO ?_;refine BP ?_;refine B4 Ft rfl ?_;try obtain rfl:=Option.some.inj h
  exact hP _ hS
theorem O0 {a0:List Fq} {a1:Int} {r:(Int×Bool)} (h:HB a0 a1=some r) {F:List It} {H:J} (hS:ap H (F)) {P:AV→J→Prop} (hP: ∀H',ap H' (F)→P (.aA [.int .i64 r.1,.bool r.2]) H'):aw C 170 [.fz (a0.map Fu),.int .i64 a1] H P:=by
 refine Cd gC (res:=[.tmp 4,.tmp 5]) (n:=49) rfl rfl rfl rfl fun K0 Ft=> ?_;simp only [W,Nat.reduceSub,Nat.reduceAdd,List.replicate];unfold HB at h;refine BM fun K1 Fx=> ?_;refine Ca gC ?_;try simp only [W,Nat.reduceAdd]
 refine BT Fx ?_;refine BM fun K2 zO=> ?_;refine BM fun K3 FO=> ?_;refine Ca gC ?_;try simp only [W,Fp,Nat.reduceAdd]
 refine Cy rfl rfl rfl (fun _=>rfl) h fun FQ GR h=> ?_;try simp only [W,Fp,Gh,Nat.reduceAdd,Nat.reduceBEq]
 refine BT FO ?_;obtain ⟨HE,IB,HI⟩:=Option.bind_eq_some_iff.1 h;refine CJ gC (fun s H=>HE=LR.next ()∧s=[u,u,u,u,u,u,u,u,u,u,u,u,u,u,u,u,u,u,u,u,u,u,u,u,u,u,u,u,u,u,u,u,u,u,u,u,u,u,u,u,u,u,u,u,u,u,u,u,u]∧ap H (F)) (fun K8 FL=> ?_) (fun s H hq=> ?_)
 ·refine BN fun K9 FJ=> ?_;refine CF gC IB (fun x s H=>s=[.fz (a0.map Fu),.int .i64 a1,u,u,u,u,.int .i64 x,u,u,u,u,u,u,u,u,u,u,u,u,u,u,u,u,u,u,u,u,u,u,u,u,u,u,u,u,u,u,u,u,u,u,u,u,u,u,u,u,u,u]∧ap H (F)) ⟨rfl,hS⟩ (fun Fw Ls s H h HJ hi I0 Gk=> ?_)
  skip
  try dsimp only at hi
  obtain ⟨rfl,hS⟩:=hi;simp only [HA] at h;refine BM fun HU F8=> ?_;refine BM fun HV Gj=> ?_;refine Ca gC ?_;try simp only [W,Fp,Nat.reduceAdd]
  refine BT Gj ?_;refine BR ?_;simp only [W];refine B_ h (fun hc h=> ?_) (fun hc h=> ?_)
  ·refine BO ?_;refine BT F8 ?_;refine BN fun Ho F1=> ?_;refine BM fun GM FN=> ?_;refine Ca gC ?_;try simp only [W,Fp,Nat.reduceAdd]
   refine Cy rfl rfl rfl (fun _=>rfl) h fun FW JJ h=> ?_;try simp only [W,Fp,Gh,Nat.reduceAdd,Nat.reduceBEq]
   refine BT FN ?_;refine BM fun HG F9=> ?_;refine BM fun I3 GN=> ?_;refine Ca gC ?_;try simp only [W,Fp,Nat.reduceAdd]
   refine CU rfl rfl rfl (fun _=>rfl) h fun Gu O1 h=> ?_;try simp only [W,Fp]
   refine BT GN ?_;obtain ⟨JK,Lt,JL⟩:=Option.bind_eq_some_iff.1 h;refine CJ gC (fun s H=> ∃FT:Int,JK=(FT)∧s=[.fz (a0.map Fu),.int .i64 a1,u,u,u,u,.int .i64 Fw,.int .i64 FT,u,u,u,u,u,u,u,u,u,u,u,u,u,u,u,u,u,u,u,u,u,u,u,u,u,u,u,u,u,u,u,u,u,u,u,u,u,u,u,u,u]∧ap H (F)) (fun JM G3=> ?_) (fun s H hq=> ?_)
   ·refine BN fun Kx Hs=> ?_;refine CF gC Lt (fun x s H=>match x with|(Gf,Gy)=>s=[.fz (a0.map Fu),.int .i64 a1,u,u,u,u,.int .i64 Fw,.int .i64 Gf,u,u,u,u,u,u,u,u,u,u,u,u,u,u,u,u,.fz (Gu.map Fu),.int .i64 (Gu.length:Int),.int .i64 Gy,u,u,u,u,u,u,u,u,u,u,u,u,u,u,u,u,u,u,u,u,u,u]∧ap H (F)) ⟨rfl,hS⟩ (fun x Lu s H h Lv hi I4 GB=> ?_)
    obtain ⟨Gf,Gy⟩:=x;try dsimp only at hi
    obtain ⟨rfl,hS⟩:=hi;simp only [Hl] at h;refine BM fun Lw HZ=> ?_;refine Ca gC ?_;try simp only [W,Fp,Nat.reduceAdd]
    refine BT HZ ?_;refine BM fun Ly Hb=> ?_;refine BR ?_;simp only [W];refine B_ h (fun hc h=> ?_) (fun hc h=> ?_)
    ·refine BO ?_;refine BT Hb ?_;refine BM fun Ky Ht=> ?_;refine BN fun JN G4=> ?_;refine BM fun JO Hc=> ?_;refine Ca gC ?_;try simp only [W,Fp,Nat.reduceAdd]
     refine Cy rfl rfl rfl (fun _=>rfl) h fun F0 JP h=> ?_;try simp only [W,Fp,Gh,reduceIte,Nat.reduceAdd,Nat.reduceLeDiff]
     refine Cs hS rfl rfl fun O2 O3 H hS=> ?_;try simp only [W]
     refine Ct (a:= .agg [.int .i64 F0.Fv,.int .i64 F0.Fs]) (y' := .agg [.int .i64 F0.Fv,.int .i64 F0.Fs]) 0 hS rfl rfl rfl rfl rfl rfl rfl rfl fun H hS=> ?_
     try simp only [W]
     refine BT Hc ?_;refine Cc gC (by kernel_rfl) ?_
     try simp only [W,Fp,Nat.reduceAdd,Nat.reduceBEq,hS.var 0 rfl]
     refine Cp _ h fun Jh O4 h=> ?_;try simp only [W,Fp]
     refine BX G4 ?_;refine BT Ht ?_;refine Ca gC ?_;try simp only [W,Fp,Nat.reduceAdd]
     exact CG GB h ⟨rfl,(hS.Db 1 [] (by decide))⟩
    ·refine BQ ?_;refine BV Hb ?_;try obtain rfl:=Option.some.inj h
     obtain rfl:=Lv _ rfl;have h:(some (Gf):Option (Int))=some (Gf):=rfl;refine CH GB ?_;refine BZ Hs ?_;exact CK G3 ⟨_,(Option.some.inj h).symm,rfl,hS⟩
   ·obtain ⟨FT,FH,rfl,hS⟩:=hq;obtain rfl:=FH.symm;replace h:=JL;try dsimp only at h
    refine BT F9 ?_;refine BM fun Ku GZ=> ?_;refine BM fun Lk Iy=> ?_;refine Ca gC ?_;try simp only [W,Fp,Nat.reduceAdd]
    refine BT Iy ?_;refine BR ?_;simp only [W];refine B_ h (fun hc h=> ?_) (fun hc h=> ?_)
    ·refine BM fun Ll GS=> ?_;refine Ca gC ?_;try simp only [W,Nat.reduceAdd]
     refine BT GS ?_;refine BP ?_;refine BU GZ ?_;refine B1 F1 ?_;try obtain rfl:=Option.some.inj h
     obtain rfl:=HJ _ rfl;have h:(some (LR.done (Fw,true)):Option (LR Unit (Int×Bool)))=some (LR.done (Fw,true)):=rfl;refine CI Gk ?_;refine B1 FJ ?_;try obtain rfl:=Option.some.inj h
     obtain rfl:=Option.some.inj HI;have h:(some (Fw,true):Option (Int×Bool))=some (Fw,true):=rfl;refine CM FL ?_;refine BU zO ?_;refine B5 Ft rfl rfl ?_;try obtain rfl:=Option.some.inj h
     exact hP _ hS
    ·refine BO ?_;refine BT GZ ?_;refine Ca gC ?_;try simp only [W,Nat.reduceAdd]
     refine BX F1 ?_;exact CG Gk h ⟨rfl,hS⟩
  ·refine BQ ?_;refine BV F8 ?_;try obtain rfl:=Option.some.inj h
   obtain rfl:=HJ _ rfl;have h:(some (LR.next ()):Option (LR Unit (Int×Bool)))=some (LR.next ()):=rfl
   refine CH Gk ?_;refine BZ FJ ?_;exact CK FL ⟨(Option.some.inj h).symm,rfl,hS⟩
 ·obtain ⟨rfl,rfl,hS⟩:=hq;replace h:=HI;try dsimp only at h
  refine BT zO ?_;refine BM fun Nd JQ=> ?_;refine Ca gC ?_;try simp only [W,Nat.reduceAdd]
  refine BT JQ ?_;refine BP ?_;refine B5 Ft rfl rfl ?_;try obtain rfl:=Option.some.inj h
  exact hP _ hS
theorem Nf {a0:List Fq} {r:(Bool×Bool)} (h:HP a0=some r) {F:List It} {H:J} (hS:ap H (F)) {P:AV→J→Prop} (hP: ∀H',ap H' (F)→P (.aA [.bool r.1,.bool r.2]) H'):aw C 32 [.fz (a0.map Fu)] H P:=by
 refine Cd gC (res:=[.tmp 2,.tmp 3]) (n:=33) rfl rfl rfl rfl fun K0 Ft=> ?_;simp only [W,Nat.reduceSub,Nat.reduceAdd,List.replicate];unfold HP at h;refine BM fun K1 Fx=> ?_;refine Ca gC ?_;try simp only [W,Nat.reduceAdd]
 refine BT Fx ?_;refine BM fun K2 zO=> ?_;refine BM fun K3 FO=> ?_;refine Ca gC ?_;try simp only [W,Nat.reduceAdd]
 refine CE h fun FQ GR h=> ?_;refine Lr GR hS fun H hS=> ?_;try simp only [W]
 refine BT FO ?_;refine BR ?_;simp only [W];refine B_ h (fun hc h=> ?_) (fun hc h=> ?_)
 ·refine BM fun K5 Gc=> ?_;refine Ca gC ?_;try simp only [W,Nat.reduceAdd]
  refine BT Gc ?_;refine BP ?_;refine BU zO ?_;refine B5 Ft rfl rfl ?_;try obtain rfl:=Option.some.inj h
  exact hP _ hS
 ·refine BO ?_;refine BT zO ?_;refine BM fun K6 G5=> ?_;refine BM fun K7 Ge=> ?_;refine Ca gC ?_;try simp only [W,Fp,Nat.reduceAdd]
  refine BT Ge ?_;obtain ⟨Lz,LA,I1⟩:=Option.bind_eq_some_iff.1 h;refine CJ gC (fun s H=>Lz=LR.next ()∧s=[u,u,u,u,u,u,u,u,u,u,u,u,u,u,u,u,u,u,u,u,u,u,u,u,u,u,u,u,u,u,u,u,u]∧ap H (F)) (fun Le HF=> ?_) (fun s H hq=> ?_)
  ·refine BN fun Lf Hn=> ?_;refine CF gC LA (fun x s H=>s=[.fz (a0.map Fu),u,u,u,u,u,u,u,u,u,u,.fz (a0.map Fu),.int .i64 (a0.length:Int),.int .i64 x,u,u,u,u,u,u,u,u,u,u,u,u,u,u,u,u,u,u,u]∧ap H (F)) ⟨rfl,hS⟩ (fun GX Iw s H h Kz hi Iv Gi=> ?_)
   skip
   try dsimp only at hi
   obtain ⟨rfl,hS⟩:=hi;simp only [Ke] at h;refine BM fun GM FN=> ?_;refine Ca gC ?_;try simp only [W,Fp,Nat.reduceAdd]
   refine BT FN ?_;refine BM fun HW Gd=> ?_;refine BR ?_;simp only [W];refine B_ h (fun hc h=> ?_) (fun hc h=> ?_)
   ·refine BO ?_;refine BT Gd ?_;refine BM fun HG F9=> ?_;refine BN fun I3 GN=> ?_;refine BM fun JG G0=> ?_;refine Ca gC ?_;try simp only [W,Fp,Nat.reduceAdd]
    refine Cy rfl rfl rfl (fun _=>rfl) h fun F6 LB h=> ?_;try simp only [W,Fp,Gh,reduceIte,Nat.reduceAdd,Nat.reduceLeDiff]
    refine Cs hS rfl rfl fun S2 S3 H hS=> ?_;try simp only [W]
    refine Ct (a:= .agg [.int .i64 F6.Fv,.int .i64 F6.Fs]) (y' := .agg [.int .i64 F6.Fv,.int .i64 F6.Fs]) 0 hS rfl rfl rfl rfl rfl rfl rfl rfl fun H hS=> ?_
    try simp only [W]
    refine BT G0 ?_;refine BM fun IC Gw=> ?_;refine Ca gC ?_;try simp only [W,Nat.reduceAdd]
    refine CE h fun GQ LC h=> ?_;obtain ⟨F7,FK⟩:=GQ;try dsimp only at h
    refine O0 LC hS fun H hS=> ?_;try simp only [W]
    refine BT Gw ?_;refine BM fun I4 GB=> ?_;obtain ⟨Lu,h,JL⟩:=Option.bind_eq_some_iff.1 h;refine CJ gC (fun s H=> ∃GP:Bool,Lu=(GP)∧s=[.fz (a0.map Fu),u,u,u,u,u,u,u,u,u,u,.fz (a0.map Fu),.int .i64 (a0.length:Int),.int .i64 GX,u,u,u,u,u,u,u,u,u,u,u,u,u,u,u,u,u,.bool GP,u]∧ap H (F)) (fun Lw HZ=> ?_) (fun s H hq=> ?_)
    ·refine BM fun Ly Hb=> ?_;refine Ca gC ?_;try simp only [W,Nat.reduceAdd]
     refine Dh h (fun hc h=> ?_) (fun hc h=> ?_)
     ·try simp only [W,hc]
      refine BT Hb ?_;refine BS ?_;exact CK HZ ⟨_,(Option.some.inj h).symm,rfl,(hS.Db 1 [] (by decide))⟩
     ·try simp only [W,Fp,reduceIte,Nat.reduceAdd,Nat.reduceBEq,Bool.false_eq_true,hS.var 0 rfl,hc]
      refine BT Hb ?_;refine BS ?_;exact CK HZ ⟨_,(Option.some.inj h).symm,rfl,(hS.Db 1 [] (by decide))⟩
    ·obtain ⟨GP,FH,rfl,hS⟩:=hq;obtain rfl:=FH.symm;replace h:=JL;try dsimp only at h
     refine BT GB ?_;refine BR ?_;simp only [W];refine B_ h (fun hc h=> ?_) (fun hc h=> ?_)
     ·refine BM fun Ky Ht=> ?_;refine Ca gC ?_;try simp only [W,Nat.reduceAdd]
      refine BT Ht ?_;refine BP ?_;refine B1 GN ?_;refine BU F9 ?_;try obtain rfl:=Option.some.inj h
      obtain rfl:=Kz _ rfl;have h:(some (LR.done (false,true)):Option (LR Unit (Bool×Bool)))=some (LR.done (false,true)):=rfl;refine CI Gi ?_;refine B1 Hn ?_;try obtain rfl:=Option.some.inj h
      obtain rfl:=Option.some.inj I1;have h:(some (false,true):Option (Bool×Bool))=some (false,true):=rfl;refine CM HF ?_;refine BU G5 ?_;refine B5 Ft rfl rfl ?_;try obtain rfl:=Option.some.inj h
      exact hP _ hS
     ·refine BO ?_;refine BX GN ?_;refine BT F9 ?_;refine Ca gC ?_;try simp only [W,Fp,Nat.reduceAdd]
      exact CG Gi h ⟨rfl,hS⟩
   ·refine BQ ?_;refine BV Gd ?_;try obtain rfl:=Option.some.inj h
    obtain rfl:=Kz _ rfl;have h:(some (LR.next ()):Option (LR Unit (Bool×Bool)))=some (LR.next ()):=rfl
    refine CH Gi ?_;refine BZ Hn ?_;exact CK HF ⟨(Option.some.inj h).symm,rfl,hS⟩
  ·obtain ⟨rfl,rfl,hS⟩:=hq;replace h:=I1;try dsimp only at h
   refine BT G5 ?_;refine BM fun Ng JR=> ?_;refine Ca gC ?_;try simp only [W,Nat.reduceAdd]
   refine BT JR ?_;refine BP ?_;refine B5 Ft rfl rfl ?_;try obtain rfl:=Option.some.inj h
   exact hP _ hS
theorem Nh {a0:Int} {a1:Int} {a2:Int} {r:(Bool)} (h:IW a0 a1 a2=some r) {F:List It} {H:J} (hS:ap H (F)) {P:AV→J→Prop} (hP: ∀H',ap H' (F)→P (.bool r) H'):aw C 164 [.int .i64 a0,.int .i64 a1,.int .i64 a2] H P:=by
 refine Cd gC (res:=[.tmp 6]) (n:=15) rfl rfl rfl rfl fun K0 Ft=> ?_;simp only [W,Nat.reduceSub,Nat.reduceAdd,List.replicate];unfold IW at h;refine BM fun K1 Fx=> ?_;refine Ca gC ?_;try simp only [W,Nat.reduceAdd]
 refine BT Fx ?_;refine BM fun K2 zO=> ?_;refine Ca gC ?_;try simp only [W,Fp,Nat.reduceAdd]
 refine Dh h (fun hc h=> ?_) (fun hc h=> ?_)
 ·try simp only [W,Fp,reduceIte,hc]
  refine BT zO ?_;refine BP ?_;refine B4 Ft rfl ?_;try obtain rfl:=Option.some.inj h
  exact hP _ hS
 ·try simp only [W,hc]
  refine BT zO ?_;refine BP ?_;refine B4 Ft rfl ?_;try obtain rfl:=Option.some.inj h
  exact hP _ hS
theorem LD {a0:List Fq} {r:(Bool)} (h:Ih a0=some r) {F:List It} {H:J} (hS:ap H (F)) {P:AV→J→Prop} (hP: ∀H',ap H' (F)→P (.bool r) H'):aw C 171 [.fz (a0.map Fu)] H P:=by
 refine Cd gC (res:=[.tmp 2]) (n:=27) rfl rfl rfl rfl fun K0 Ft=> ?_;simp only [W,Nat.reduceSub,Nat.reduceAdd,List.replicate];unfold Ih at h;refine BM fun K1 Fx=> ?_;refine Ca gC ?_;try simp only [W,Nat.reduceAdd]
 refine BT Fx ?_;refine BM fun K2 zO=> ?_;refine BM fun K3 FO=> ?_;refine Ca gC ?_;try simp only [W,Fp,Nat.reduceAdd]
 refine BT FO ?_;obtain ⟨Iz,IA,Hq⟩:=Option.bind_eq_some_iff.1 h;refine CJ gC (fun s H=>Iz=LR.next ()∧s=[.fz (a0.map Fu),u,u,u,u,u,u,u,u,u,u,u,u,u,u,u,u,u,u,u,u,u,u,u,u,u,u]∧ap H (F)) (fun K7 Ge=> ?_) (fun s H hq=> ?_)
 ·refine BN fun K8 FL=> ?_;refine CF gC IA (fun x s H=>s=[.fz (a0.map Fu),u,u,u,u,.fz (a0.map Fu),.int .i64 (a0.length:Int),.int .i64 x,u,u,u,u,u,u,u,u,u,u,u,u,u,u,u,u,u,u,u]∧ap H (F)) ⟨rfl,hS⟩ (fun Fy Lq s H h Hr hi K9 FJ=> ?_)
  skip
  try dsimp only at hi
  obtain ⟨rfl,hS⟩:=hi;simp only [Ji] at h;refine BM fun Iv Gi=> ?_;refine Ca gC ?_;try simp only [W,Fp,Nat.reduceAdd]
  refine BT Gi ?_;refine BM fun HU F8=> ?_;refine BR ?_;simp only [W];refine B_ h (fun hc h=> ?_) (fun hc h=> ?_)
  ·refine BO ?_;refine BT F8 ?_;refine BM fun HV Gj=> ?_;refine BN fun Ho F1=> ?_;refine BM fun GM FN=> ?_;refine Ca gC ?_;try simp only [W,Fp,Nat.reduceAdd]
   refine Cy rfl rfl rfl (fun _=>rfl) h fun FW JJ h=> ?_;try simp only [W,Fp,Gh,reduceIte,Nat.reduceAdd,Nat.reduceLeDiff]
   refine Cs hS rfl rfl fun O5 O6 H hS=> ?_;try simp only [W]
   refine Ct (a:= .agg [.int .i64 FW.Fv,.int .i64 FW.Fs]) (y' := .agg [.int .i64 FW.Fv,.int .i64 FW.Fs]) 0 hS rfl rfl rfl rfl rfl rfl rfl rfl fun H hS=> ?_
   try simp only [W]
   refine BT FN ?_;refine BM fun JG G0=> ?_;obtain ⟨Ni,h,LF⟩:=Option.bind_eq_some_iff.1 h;refine CJ gC (fun s H=> ∃Gf:Bool,Ni=(Gf)∧s=[.fz (a0.map Fu),u,u,u,u,.fz (a0.map Fu),.int .i64 (a0.length:Int),.int .i64 Fy,u,u,u,u,u,u,u,u,u,u,u,u,u,u,.bool Gf,u,u,u,u]∧ap H (F)) (fun IC Gw=> ?_) (fun s H hq=> ?_)
   ·refine BM fun KA Hd=> ?_;refine Ca gC ?_;try simp only [W,Fp,Nat.reduceAdd,Nat.reduceBEq,hS.var 0 rfl]
    refine CE h fun F7 Nj h=> ?_;refine Nh Nj hS fun H hS=> ?_;try simp only [W]
    refine Dh h (fun hc h=> ?_) (fun hc h=> ?_)
    ·try simp only [W,hc]
     refine BT Hd ?_;refine BS ?_;exact CK Gw ⟨_,(Option.some.inj h).symm,rfl,(hS.Db 1 [] (by decide))⟩
    ·try simp only [W,Fp,Nat.reduceAdd,Nat.reduceBEq,hS.var 0 rfl,hc]
     refine CE h fun FK LG h=> ?_;refine Nh LG hS fun H hS=> ?_;try simp only [W,reduceIte,Bool.false_eq_true]
     refine BT Hd ?_;refine BS ?_;exact CK Gw ⟨_,(Option.some.inj h).symm,rfl,(hS.Db 1 [] (by decide))⟩
   ·obtain ⟨Gf,FH,rfl,hS⟩:=hq;obtain rfl:=FH.symm;replace h:=LF;try dsimp only at h
    refine BT G0 ?_;refine BR ?_;simp only [W];refine B_ h (fun hc h=> ?_) (fun hc h=> ?_)
    ·refine BM fun I4 GB=> ?_;refine Ca gC ?_;try simp only [W,Nat.reduceAdd]
     refine BT GB ?_;refine BP ?_;refine B1 F1 ?_;refine BU Gj ?_;try obtain rfl:=Option.some.inj h
     obtain rfl:=Hr _ rfl;have h:(some (LR.done false):Option (LR Unit (Bool)))=some (LR.done false):=rfl;refine CI FJ ?_;refine B1 FL ?_;try obtain rfl:=Option.some.inj h
     obtain rfl:=Option.some.inj Hq;have h:(some false:Option (Bool))=some false:=rfl;refine CM Ge ?_;refine BU zO ?_;refine B4 Ft rfl ?_;try obtain rfl:=Option.some.inj h
     exact hP _ hS
    ·refine BO ?_;refine BX F1 ?_;refine BT Gj ?_;refine Ca gC ?_;try simp only [W,Fp,Nat.reduceAdd]
     exact CG FJ h ⟨rfl,hS⟩
  ·refine BQ ?_;refine BV F8 ?_;try obtain rfl:=Option.some.inj h
   obtain rfl:=Hr _ rfl;have h:(some (LR.next ()):Option (LR Unit (Bool)))=some (LR.next ()):=rfl
   refine CH FJ ?_;refine BZ FL ?_;exact CK Ge ⟨(Option.some.inj h).symm,rfl,hS⟩
 ·obtain ⟨rfl,rfl,hS⟩:=hq;replace h:=Hq;try dsimp only at h
  refine BT zO ?_;refine BM fun JN G4=> ?_;refine Ca gC ?_;try simp only [W,Fp,Nat.reduceAdd]
  refine BT G4 ?_;refine BP ?_;refine B4 Ft rfl ?_;try obtain rfl:=Option.some.inj h
  exact hP _ hS
theorem O7 {a0:List Fq} {a1:Int} {r:(Int)} (h:HD a0 a1=some r) {F:List It} {H:J} (hS:ap H (F)) {P:AV→J→Prop} (hP: ∀H',ap H' (F)→P (.int .i64 r) H'):aw C 286 [.fz (a0.map Fu),.int .i64 a1] H P:=by
 refine Cd gC (res:=[.tmp 4]) (n:=48) rfl rfl rfl rfl fun K0 Ft=> ?_;simp only [W,Nat.reduceSub,Nat.reduceAdd,List.replicate];unfold HD at h;refine BM fun K1 Fx=> ?_;refine Ca gC ?_;try simp only [W,Nat.reduceAdd]
 refine BT Fx ?_;refine BM fun K2 zO=> ?_;refine Ca gC ?_;try simp only [W,Fp,Nat.reduceAdd]
 refine Cy rfl rfl rfl (fun _=>rfl) h fun b3 kV h=> ?_;try simp only [W,Fp,Gh,Nat.reduceAdd,Nat.reduceBEq]
 refine BT zO ?_;refine BM fun K4 Gr=> ?_;obtain ⟨HE,IB,HI⟩:=Option.bind_eq_some_iff.1 h;refine CJ gC (fun s H=>HE=LR.next ()∧s=[u,u,u,u,u,u,u,u,u,u,u,u,u,u,u,u,u,u,u,u,u,u,u,u,u,u,u,u,u,u,u,u,u,u,u,u,u,u,u,u,u,u,u,u,u,u,u,u]∧ap H (F)) (fun K8 FL=> ?_) (fun s H hq=> ?_)
 ·refine BN fun K9 FJ=> ?_;refine CF gC IB (fun x s H=>s=[.fz (a0.map Fu),.int .i64 a1,u,u,u,.int .i64 x,u,u,u,u,u,u,u,u,u,u,u,u,u,u,u,u,u,u,u,u,u,u,u,u,u,u,u,u,u,u,u,u,u,u,u,u,u,u,u,u,u,u]∧ap H (F)) ⟨rfl,hS⟩ (fun Fw Ls s H h HJ hi I0 Gk=> ?_)
  skip
  try dsimp only at hi
  obtain ⟨rfl,hS⟩:=hi;simp only [HC] at h;refine BM fun HU F8=> ?_;refine BM fun HV Gj=> ?_;refine Ca gC ?_;try simp only [W,Fp,Nat.reduceAdd]
  refine BT Gj ?_;refine BR ?_;simp only [W];refine B_ h (fun hc h=> ?_) (fun hc h=> ?_)
  ·refine BO ?_;refine BT F8 ?_;refine BN fun Ho F1=> ?_;refine BM fun GM FN=> ?_;refine Ca gC ?_;try simp only [W,Fp,Nat.reduceAdd]
   refine Cy rfl rfl rfl (fun _=>rfl) h fun FW JJ h=> ?_;try simp only [W,Fp,Gh,Nat.reduceAdd,Nat.reduceBEq]
   refine BT FN ?_;refine BM fun HG F9=> ?_;refine BM fun I3 GN=> ?_;refine Ca gC ?_;try simp only [W,Fp,Nat.reduceAdd]
   refine CU rfl rfl rfl (fun _=>rfl) h fun Gu O1 h=> ?_;try simp only [W,Fp]
   refine BT GN ?_;obtain ⟨JK,Lt,JL⟩:=Option.bind_eq_some_iff.1 h;refine CJ gC (fun s H=> ∃FT:Int,JK=(FT)∧s=[.fz (a0.map Fu),.int .i64 a1,u,u,u,.int .i64 Fw,.int .i64 FT,u,u,u,u,u,u,u,u,u,u,u,u,u,u,u,u,u,u,u,u,u,u,u,u,u,u,u,u,u,u,u,u,u,u,u,u,u,u,u,u,u]∧ap H (F)) (fun JM G3=> ?_) (fun s H hq=> ?_)
   ·refine BN fun Kx Hs=> ?_;refine CF gC Lt (fun x s H=>match x with|(Gf,Gy)=>s=[.fz (a0.map Fu),.int .i64 a1,u,u,u,.int .i64 Fw,.int .i64 Gf,u,u,u,u,u,u,u,u,u,u,u,u,u,u,u,u,.fz (Gu.map Fu),.int .i64 (Gu.length:Int),.int .i64 Gy,u,u,u,u,u,u,u,u,u,u,u,u,u,u,u,u,u,u,u,u,u,u]∧ap H (F)) ⟨rfl,hS⟩ (fun x Lu s H h Lv hi I4 GB=> ?_)
    obtain ⟨Gf,Gy⟩:=x;try dsimp only at hi
    obtain ⟨rfl,hS⟩:=hi;simp only [Jj] at h;refine BM fun Lw HZ=> ?_;refine Ca gC ?_;try simp only [W,Fp,Nat.reduceAdd]
    refine BT HZ ?_;refine BM fun Ly Hb=> ?_;refine BR ?_;simp only [W];refine B_ h (fun hc h=> ?_) (fun hc h=> ?_)
    ·refine BO ?_;refine BT Hb ?_;refine BM fun Ky Ht=> ?_;refine BN fun JN G4=> ?_;refine BM fun JO Hc=> ?_;refine Ca gC ?_;try simp only [W,Fp,Nat.reduceAdd]
     refine Cy rfl rfl rfl (fun _=>rfl) h fun F0 JP h=> ?_;try simp only [W,Fp,Gh,reduceIte,Nat.reduceAdd,Nat.reduceLeDiff]
     refine Cs hS rfl rfl fun O2 O3 H hS=> ?_;try simp only [W]
     refine Ct (a:= .agg [.int .i64 F0.Fv,.int .i64 F0.Fs]) (y' := .agg [.int .i64 F0.Fv,.int .i64 F0.Fs]) 0 hS rfl rfl rfl rfl rfl rfl rfl rfl fun H hS=> ?_
     try simp only [W]
     refine BT Hc ?_;refine Cc gC (by kernel_rfl) ?_
     try simp only [W,Fp,Nat.reduceAdd,Nat.reduceBEq,hS.var 0 rfl]
     refine Cp _ h fun Jh O4 h=> ?_;try simp only [W,Fp]
     refine BX G4 ?_;refine BT Ht ?_;refine Ca gC ?_;try simp only [W,Fp,Nat.reduceAdd]
     exact CG GB h ⟨rfl,(hS.Db 1 [] (by decide))⟩
    ·refine BQ ?_;refine BV Hb ?_;try obtain rfl:=Option.some.inj h
     obtain rfl:=Lv _ rfl;have h:(some (Gf):Option (Int))=some (Gf):=rfl;refine CH GB ?_;refine BZ Hs ?_;exact CK G3 ⟨_,(Option.some.inj h).symm,rfl,hS⟩
   ·obtain ⟨FT,FH,rfl,hS⟩:=hq;obtain rfl:=FH.symm;replace h:=JL;try dsimp only at h
    refine BT F9 ?_;refine BM fun Ku GZ=> ?_;refine BM fun Lk Iy=> ?_;refine Ca gC ?_;try simp only [W,Fp,Nat.reduceAdd]
    refine BT Iy ?_;refine BR ?_;simp only [W];refine B_ h (fun hc h=> ?_) (fun hc h=> ?_)
    ·refine BM fun Ll GS=> ?_;refine Ca gC ?_;try simp only [W,Nat.reduceAdd]
     refine BT GS ?_;refine BP ?_;refine BU GZ ?_;refine B1 F1 ?_;try obtain rfl:=Option.some.inj h
     obtain rfl:=HJ _ rfl;have h:(some (LR.done Fw):Option (LR Unit (Int)))=some (LR.done Fw):=rfl;refine CI Gk ?_;refine B1 FJ ?_;try obtain rfl:=Option.some.inj h
     obtain rfl:=Option.some.inj HI;have h:(some Fw:Option (Int))=some Fw:=rfl;refine CM FL ?_;refine BU Gr ?_;refine B4 Ft rfl ?_;try obtain rfl:=Option.some.inj h
     exact hP _ hS
    ·refine BO ?_;refine BT GZ ?_;refine Ca gC ?_;try simp only [W,Nat.reduceAdd]
     refine BX F1 ?_;exact CG Gk h ⟨rfl,hS⟩
  ·refine BQ ?_;refine BV F8 ?_;try obtain rfl:=Option.some.inj h
   obtain rfl:=HJ _ rfl;have h:(some (LR.next ()):Option (LR Unit (Int)))=some (LR.next ()):=rfl
   refine CH Gk ?_;refine BZ FJ ?_;exact CK FL ⟨(Option.some.inj h).symm,rfl,hS⟩
 ·obtain ⟨rfl,rfl,hS⟩:=hq;replace h:=HI;try dsimp only at h
  refine BT Gr ?_;refine BM fun Nd JQ=> ?_;refine Ca gC ?_;try simp only [W,Nat.reduceAdd]
  refine BT JQ ?_;refine BP ?_;refine B4 Ft rfl ?_;try obtain rfl:=Option.some.inj h
  exact hP _ hS
theorem O8 {a0:List Fq} {r:(Bool)} (h:Kg a0=some r) {F:List It} {H:J} (hS:ap H (F)) {P:AV→J→Prop} (hP: ∀H',ap H' (F)→P (.bool r) H'):aw C 172 [.fz (a0.map Fu)] H P:=by
 refine Cd gC (res:=[.tmp 2]) (n:=25) rfl rfl rfl rfl fun K0 Ft=> ?_;simp only [W,Nat.reduceSub,Nat.reduceAdd,List.replicate];unfold Kg at h;refine BM fun K1 Fx=> ?_;refine Ca gC ?_;try simp only [W,Nat.reduceAdd]
 refine BT Fx ?_;refine BM fun K2 zO=> ?_;refine BM fun K3 FO=> ?_;refine Ca gC ?_;try simp only [W,Fp,Nat.reduceAdd]
 refine BT FO ?_;obtain ⟨Iz,IA,Hq⟩:=Option.bind_eq_some_iff.1 h;refine CJ gC (fun s H=>Iz=LR.next ()∧s=[u,u,u,u,u,u,u,u,u,u,u,u,u,u,u,u,u,u,u,u,u,u,u,u,u]∧ap H (F)) (fun K7 Ge=> ?_) (fun s H hq=> ?_)
 ·refine BN fun K8 FL=> ?_;refine CF gC IA (fun x s H=>s=[.fz (a0.map Fu),u,u,u,u,u,.fz (a0.map Fu),.int .i64 (a0.length:Int),.int .i64 x,u,u,u,u,u,u,u,u,u,u,u,u,u,u,u,u]∧ap H (F)) ⟨rfl,hS⟩ (fun Fy Lq s H h Hr hi K9 FJ=> ?_)
  skip
  try dsimp only at hi
  obtain ⟨rfl,hS⟩:=hi;simp only [Kf] at h;refine BM fun Iv Gi=> ?_;refine Ca gC ?_;try simp only [W,Fp,Nat.reduceAdd]
  refine BT Gi ?_;refine BM fun HU F8=> ?_;refine BR ?_;simp only [W];refine B_ h (fun hc h=> ?_) (fun hc h=> ?_)
  ·refine BO ?_;refine BT F8 ?_;refine BM fun HV Gj=> ?_;refine BN fun Ho F1=> ?_;refine BM fun GM FN=> ?_;refine Ca gC ?_;try simp only [W,Fp,Nat.reduceAdd]
   refine Cy rfl rfl rfl (fun _=>rfl) h fun FW JJ h=> ?_;try simp only [W,Fp,Gh,reduceIte,Nat.reduceAdd,Nat.reduceLeDiff]
   refine Cs hS rfl rfl fun O5 O6 H hS=> ?_;try simp only [W]
   refine Ct (a:= .agg [.int .i64 FW.Fv,.int .i64 FW.Fs]) (y' := .agg [.int .i64 FW.Fv,.int .i64 FW.Fs]) 0 hS rfl rfl rfl rfl rfl rfl rfl rfl fun H hS=> ?_
   try simp only [W]
   refine BT FN ?_;refine BM fun JG G0=> ?_;refine Ca gC ?_;try simp only [W,Nat.reduceAdd]
   refine CE h fun F6 LB h=> ?_;refine O7 LB hS fun H hS=> ?_;try simp only [W]
   refine BT G0 ?_;refine BM fun JD GY=> ?_;obtain ⟨JK,h,O9⟩:=Option.bind_eq_some_iff.1 h;refine CJ gC (fun s H=> ∃FT:Bool,JK=(FT)∧s=[.fz (a0.map Fu),u,u,u,u,u,.fz (a0.map Fu),.int .i64 (a0.length:Int),.int .i64 Fy,u,u,u,u,u,u,u,u,u,u,u,u,u,u,.bool FT,u]∧ap H (F)) (fun JM G3=> ?_) (fun s H hq=> ?_)
   ·refine BM fun Kx Hs=> ?_;refine Ca gC ?_;try simp only [W,Fp,Nat.reduceAdd]
    refine Dh h (fun hc h=> ?_) (fun hc h=> ?_)
    ·try simp only [W,hc]
     refine BT Hs ?_;refine BS ?_;exact CK G3 ⟨_,(Option.some.inj h).symm,rfl,(hS.Db 1 [] (by decide))⟩
    ·try simp only [W,Fp,reduceIte,Nat.reduceAdd,Nat.reduceBEq,Bool.false_eq_true,hS.var 0 rfl,hc]
     refine BT Hs ?_;refine BS ?_;exact CK G3 ⟨_,(Option.some.inj h).symm,rfl,(hS.Db 1 [] (by decide))⟩
   ·obtain ⟨FT,FH,rfl,hS⟩:=hq;obtain rfl:=FH.symm;replace h:=O9;try dsimp only at h
    refine BT GY ?_;refine BR ?_;simp only [W];refine B_ h (fun hc h=> ?_) (fun hc h=> ?_)
    ·refine BM fun I4 GB=> ?_;refine Ca gC ?_;try simp only [W,Nat.reduceAdd]
     refine BT GB ?_;refine BP ?_;refine B1 F1 ?_;refine BU Gj ?_;try obtain rfl:=Option.some.inj h
     obtain rfl:=Hr _ rfl;have h:(some (LR.done false):Option (LR Unit (Bool)))=some (LR.done false):=rfl;refine CI FJ ?_;refine B1 FL ?_;try obtain rfl:=Option.some.inj h
     obtain rfl:=Option.some.inj Hq;have h:(some false:Option (Bool))=some false:=rfl;refine CM Ge ?_;refine BU zO ?_;refine B4 Ft rfl ?_;try obtain rfl:=Option.some.inj h
     exact hP _ hS
    ·refine BO ?_;refine BX F1 ?_;refine BT Gj ?_;refine Ca gC ?_;try simp only [W,Fp,Nat.reduceAdd]
     exact CG FJ h ⟨rfl,hS⟩
  ·refine BQ ?_;refine BV F8 ?_;try obtain rfl:=Option.some.inj h
   obtain rfl:=Hr _ rfl;have h:(some (LR.next ()):Option (LR Unit (Bool)))=some (LR.next ()):=rfl
   refine CH FJ ?_;refine BZ FL ?_;exact CK Ge ⟨(Option.some.inj h).symm,rfl,hS⟩
 ·obtain ⟨rfl,rfl,hS⟩:=hq;replace h:=Hq;try dsimp only at h
  refine BT zO ?_;refine BM fun JN G4=> ?_;refine Ca gC ?_;try simp only [W,Nat.reduceAdd]
  refine BT G4 ?_;refine BP ?_;refine B4 Ft rfl ?_;try obtain rfl:=Option.some.inj h
  exact hP _ hS
theorem O_ {a0:List Fq} {r:(Bool×Bool)} (h:Ii a0=some r) {F:List It} {H:J} (hS:ap H (F)) {P:AV→J→Prop} (hP: ∀H',ap H' (F)→P (.aA [.bool r.1,.bool r.2]) H'):aw C 33 [.fz (a0.map Fu)] H P:=by
 refine Cd gC (res:=[.tmp 2,.tmp 3]) (n:=9) rfl rfl rfl rfl fun K0 Ft=> ?_;simp only [W,Nat.reduceSub,Nat.reduceAdd,List.replicate];unfold Ii at h;refine BM fun K1 Fx=> ?_;refine Ca gC ?_;try simp only [W,Nat.reduceAdd]
 refine BT Fx ?_;refine BM fun K2 zO=> ?_;refine BM fun K3 FO=> ?_;refine Ca gC ?_;try simp only [W,Nat.reduceAdd]
 refine CE h fun FQ GR h=> ?_;refine LD GR hS fun H hS=> ?_;try simp only [W]
 refine BT FO ?_;refine BR ?_;simp only [W];refine B_ h (fun hc h=> ?_) (fun hc h=> ?_)
 ·refine BM fun K5 Gc=> ?_;refine Ca gC ?_;try simp only [W,Nat.reduceAdd]
  refine BT Gc ?_;refine BP ?_;refine BU zO ?_;refine B5 Ft rfl rfl ?_;try obtain rfl:=Option.some.inj h
  exact hP _ hS
 ·refine BO ?_;refine BT zO ?_;refine BM fun K6 G5=> ?_;refine Ca gC ?_;try simp only [W,Nat.reduceAdd]
  refine CE h fun Hy Pa h=> ?_;refine O8 Pa hS fun H hS=> ?_;try simp only [W]
  refine BT G5 ?_;refine BP ?_;refine B5 Ft rfl rfl ?_;try obtain rfl:=Option.some.inj h
  exact hP _ hS
theorem Pb {a0:Int} {a1:Int} {a2:List Fq} {i2:Nat} {w2:Nat} {r:(Int)} (h:Jk a0 a1 a2=some r) {F:List It} {H:J} (kR:⟨.ptr i2 w2 0 0,1,[.fz (a2.map Fu)]⟩∈F) (hS:ap H (F)) {P:AV→J→Prop} (hP: ∀H',ap H' (F)→P (.int .i64 r) H'):aw C 174 [.int .i64 a0,.int .i64 a1,.ptr i2 w2 0 0] H P:=by
 refine Cd gC (res:=[.tmp 5]) (n:=17) rfl rfl rfl rfl fun K0 Ft=> ?_;simp only [W,Nat.reduceSub,Nat.reduceAdd,List.replicate];unfold Jk at h;refine BM fun K1 Fx=> ?_;refine Ca gC ?_;try simp only [W,Nat.reduceAdd]
 refine BT Fx ?_;refine BM fun K2 zO=> ?_;refine Cc gC (by kernel_rfl) ?_
 try simp only [W,Fp,Nat.reduceAdd,hS.CX kR]
 refine Cy rfl rfl rfl (fun _=>rfl) h fun b3 kV h=> ?_;try simp only [W,Fp,Gh,Nat.reduceAdd,Nat.reduceBEq,hS.CX kR]
 refine Cy rfl rfl rfl (fun _=>rfl) h fun FQ GR h=> ?_;try simp only [W,Fp,Gh,Nat.reduceAdd,Nat.reduceBEq]
 refine BT zO ?_;refine BP ?_;refine B4 Ft rfl ?_;try obtain rfl:=Option.some.inj h
 exact hP _ hS
theorem Nk {a0:List Int} {a1:Int} {a2:Int} {g3:Int→Int→Option Int} {f3:FuncId} {c3:List AV} {m0:AV} {r:(List Int)} (h:HQ a0 a1 a2 g3=some r) {F:List It} {H:J} (n3: ∀{x0:Int} {He:Int} {r:Int},g3 x0 He=some r→ ∀(L:List It) (n:Nat),L.drop n=F→ ∀(H:J),ap H L→ ∀(P:AV→J→Prop),(∀H',ap H' L→P (.int .i64 r) H')→aw C f3 ([.int .i64 x0,.int .i64 He] ++ c3) H P) (hS:ap H (⟨m0,1,a0.map (AV.int .i64)⟩::F)) (G6:aJ m0) {P:AV→J→Prop} (hP: ∀H',ap H' (⟨m0,1,r.map (AV.int .i64)⟩::F)→P (.aA []) H'):aw C 321 [m0,.int .i64 a1,.int .i64 a2,.fn f3 c3] H P:=by
 refine Cd gC (res:=[]) (n:=53) rfl rfl rfl rfl fun K0 Ft=> ?_;simp only [W,Nat.reduceSub,Nat.reduceAdd,List.replicate];unfold HQ at h;refine BM fun K1 Fx=> ?_;refine Ca gC ?_;try simp only [W,Fp,Nat.reduceAdd]
 refine BT Fx ?_;obtain ⟨Iz,IA,Hq⟩:=Option.bind_eq_some_iff.1 h;refine CJ gC (fun s H=> ∃Fy:List Int,Iz=(Fy)∧s=[u,u,u,u,u,u,u,u,u,u,u,u,u,u,u,u,u,u,u,u,u,u,u,u,u,u,u,u,u,u,u,u,u,u,u,u,u,u,u,u,u,u,u,u,u,u,u,u,u,u,u,u,u]∧ap H (⟨m0,1,Fy.map (AV.int .i64)⟩::F)) (fun K7 Ge=> ?_) (fun s H hq=> ?_)
 ·refine BN fun K8 FL=> ?_;refine CF gC IA (fun x s H=>match x with|(Ij,x3)=>s=[m0,.int .i64 a1,.int .i64 a2,.fn f3 c3,u,u,u,u,.int .i64 x3,u,u,u,u,u,u,u,u,u,u,u,u,u,u,u,u,u,u,u,u,u,u,u,u,u,u,u,u,u,u,u,u,u,u,u,u,u,u,u,u,u,u,u,u]∧ap H (⟨m0,1,Ij.map (AV.int .i64)⟩::F)) ⟨rfl,hS⟩ (fun x Lq s H h Hr hi K9 FJ=> ?_)
  obtain ⟨Ij,x3⟩:=x;try dsimp only at hi
  obtain ⟨rfl,hS⟩:=hi;simp only [Ki] at h;refine BM fun Iv Gi=> ?_;refine BM fun HU F8=> ?_;refine Ca gC ?_;try simp only [W,Fp,Nat.reduceAdd]
  refine BT F8 ?_;refine BR ?_;simp only [W];refine B_ h (fun hc h=> ?_) (fun hc h=> ?_)
  ·refine BO ?_;refine BT Gi ?_;refine BM fun HV Gj=> ?_;refine BN fun Ho F1=> ?_;refine BM fun GM FN=> ?_;refine Ca gC ?_;try simp only [W,Nat.reduceAdd]
   refine BT FN ?_;obtain ⟨LH,Pc,Pd⟩:=Option.bind_eq_some_iff.1 h;refine CJ gC (fun s H=> ∃Jo:List Int,LH=(Jo)∧s=[m0,.int .i64 a1,.int .i64 a2,.fn f3 c3,u,u,u,u,.int .i64 x3,u,u,u,u,u,u,u,u,u,u,u,u,u,u,u,u,u,u,u,u,u,u,u,u,u,u,u,u,u,u,u,u,u,u,u,u,u,u,u,u,u,u,u,u]∧ap H (⟨m0,1,Jo.map (AV.int .i64)⟩::F)) (fun JD GY=> ?_) (fun s H hq=> ?_)
   ·refine BN fun JS GU=> ?_;refine CF gC Pc (fun x s H=>match x with|(Gv,GG)=>s=[m0,.int .i64 a1,.int .i64 a2,.fn f3 c3,u,u,u,u,.int .i64 x3,.int .i64 GG,u,u,u,u,u,u,u,u,u,u,u,u,u,u,u,u,u,u,u,u,u,u,u,u,u,u,u,u,u,u,u,u,u,u,u,u,u,u,u,u,u,u,u]∧ap H (⟨m0,1,Gv.map (AV.int .i64)⟩::F)) ⟨rfl,hS⟩ (fun x S4 s H h Pe hi IC Gw=> ?_)
    obtain ⟨Gv,GG⟩:=x;try dsimp only at hi
    obtain ⟨rfl,hS⟩:=hi;simp only [Jl] at h;refine BM fun I4 GB=> ?_;refine BM fun Nl JT=> ?_;obtain ⟨Pf,h,Pg⟩:=Option.bind_eq_some_iff.1 h;refine CJ gC (fun s H=> ∃GF:Bool,Pf=(GF)∧s=[m0,.int .i64 a1,.int .i64 a2,.fn f3 c3,u,u,u,u,.int .i64 x3,.int .i64 GG,u,u,u,u,u,u,u,u,u,u,u,u,u,u,u,u,u,u,u,u,u,u,u,u,.bool GF,u,u,u,u,u,u,u,u,u,u,u,u,u,u,u,u,u,u]∧ap H (⟨m0,1,Gv.map (AV.int .i64)⟩::F)) (fun Ly Hb=> ?_) (fun s H hq=> ?_)
    ·refine BM fun Ky Ht=> ?_;refine Dk gC [(14,[])] (by kernel_rfl) rfl (by kernel_rfl) ?_
     try simp only [W,Fp,reduceIte,Nat.reduceAdd,iV,lS,Nat.reduceEqDiff]
     refine Dh h (fun hc h=> ?_) (fun hc h=> ?_)
     ·try simp only [W,Fp,hc]
      refine Cz 0 hS rfl rfl rfl rfl rfl h (fun Mq S5 S6 S7 Ph h Pj=> ?_) G6.ne;obtain ⟨S8,Pk,Pl⟩:=hS.elem 0 rfl Pj Ph;try simp only [W,Fp,Pk,Pl]
      refine Cz 0 hS rfl rfl rfl rfl rfl h (fun F0 S9 S_ Ta JP h Pm=> ?_) G6.ne;obtain ⟨Tb,Pn,Po⟩:=hS.elem 0 rfl Pm JP;try simp only [W,Fp,Pn,Po]
      refine CE h fun Jm Pp h=> ?_;refine n3 Pp _ 1 rfl _ hS _ fun H hS=> ?_;try simp only [W,Fp,reduceIte]
      refine BT Ht ?_;refine BS ?_;exact CK Hb ⟨_,(Option.some.inj h).symm,rfl,hS⟩
     ·try simp only [W,hc]
      refine BT Ht ?_;refine BS ?_;exact CK Hb ⟨_,(Option.some.inj h).symm,rfl,hS⟩
    ·obtain ⟨GF,FH,rfl,hS⟩:=hq;obtain rfl:=FH.symm;replace h:=Pg;try dsimp only at h
     refine BT JT ?_;refine BR ?_;simp only [W];refine B_ h (fun hc h=> ?_) (fun hc h=> ?_)
     ·refine BO ?_;refine BT GB ?_;refine BM fun Pq KB=> ?_;refine BN fun Ng JR=> ?_;refine Dk gC [(15,[2,3,4]),(17,[])] (by kernel_rfl) rfl (by kernel_rfl) ?_
      try simp only [W,Fp,reduceIte,Nat.reduceAdd,iV,lS,Nat.reduceEqDiff]
      refine Cz 0 hS rfl rfl rfl rfl rfl h (fun Jn Tc Td Te ID h IE=> ?_) G6.ne;obtain ⟨Tf,Pr,Ps⟩:=hS.elem 0 rfl IE ID;try simp only [W,Fp,Pr,Ps]
      refine Cz 0 hS rfl rfl rfl rfl rfl h (fun Kh Tg Th Ti IF h IG=> ?_) G6.ne;obtain ⟨Tj,Pt,Pu⟩:=hS.elem 0 rfl IG IF;try simp only [W,Fp,Pt,Pu]
      refine Cz 0 hS rfl rfl rfl rfl rfl h (fun Tk Tl Tm Tn H4 h H7=> ?_) G6.ne;obtain ⟨To,Tp,Tq⟩:=hS.elem 0 rfl H7 H4;try simp only [W]
      refine CA (a:= .int .i64 Jn) (y' :=Jn) 0 hS rfl H7 H4 rfl rfl rfl rfl rfl rfl rfl fun H hS=> ?_
      refine Dl ?_;refine Dm (by first|rfl|(simp [aP,W,Fp,Gh,bS,jO,aI,AV.cells];done)|exact D3 0 hS rfl rfl rfl rfl rfl JU JV rfl rfl rfl rfl|exact D4 0 hS rfl rfl JU JV rfl rfl rfl|exact D3 0 hS rfl rfl rfl rfl rfl JW JX rfl rfl rfl rfl|exact D4 0 hS rfl rfl JW JX rfl rfl rfl|exact D3 0 hS rfl rfl rfl rfl rfl IE ID rfl rfl rfl rfl|exact D4 0 hS rfl rfl IE ID rfl rfl rfl|exact D3 0 hS rfl rfl rfl rfl rfl IG IF rfl rfl rfl rfl|exact D4 0 hS rfl rfl IG IF rfl rfl rfl|exact D3 0 hS rfl rfl rfl rfl rfl H7 H4 rfl rfl rfl rfl|exact D4 0 hS rfl rfl H7 H4 rfl rfl rfl) ?_
      refine Dm (by first|rfl|(simp [aP,W,Fp,Gh,bS,jO,aI,AV.cells];done)|exact D3 0 hS rfl rfl rfl rfl rfl JU JV rfl rfl rfl rfl|exact D4 0 hS rfl rfl JU JV rfl rfl rfl|exact D3 0 hS rfl rfl rfl rfl rfl JW JX rfl rfl rfl rfl|exact D4 0 hS rfl rfl JW JX rfl rfl rfl|exact D3 0 hS rfl rfl rfl rfl rfl IE ID rfl rfl rfl rfl|exact D4 0 hS rfl rfl IE ID rfl rfl rfl|exact D3 0 hS rfl rfl rfl rfl rfl IG IF rfl rfl rfl rfl|exact D4 0 hS rfl rfl IG IF rfl rfl rfl|exact D3 0 hS rfl rfl rfl rfl rfl H7 H4 rfl rfl rfl rfl|exact D4 0 hS rfl rfl H7 H4 rfl rfl rfl) ?_
      refine Dm (by first|rfl|(simp [aP,W,Fp,Gh,bS,jO,aI,AV.cells];done)|exact D3 0 hS rfl rfl rfl rfl rfl JU JV rfl rfl rfl rfl|exact D4 0 hS rfl rfl JU JV rfl rfl rfl|exact D3 0 hS rfl rfl rfl rfl rfl JW JX rfl rfl rfl rfl|exact D4 0 hS rfl rfl JW JX rfl rfl rfl|exact D3 0 hS rfl rfl rfl rfl rfl IE ID rfl rfl rfl rfl|exact D4 0 hS rfl rfl IE ID rfl rfl rfl|exact D3 0 hS rfl rfl rfl rfl rfl IG IF rfl rfl rfl rfl|exact D4 0 hS rfl rfl IG IF rfl rfl rfl|exact D3 0 hS rfl rfl rfl rfl rfl H7 H4 rfl rfl rfl rfl|exact D4 0 hS rfl rfl H7 H4 rfl rfl rfl) ?_
      refine Dn ?_;try simp only [W,Fp]
      refine Cz 0 hS rfl rfl rfl rfl rfl h (fun M6 Ts Tt Tu Kw h Nm=> ?_) G6.ne;obtain ⟨Tv,Tw,Tx⟩:=hS.elem 0 rfl Nm Kw;try simp only [W]
      refine CA (a:= .int .i64 Kh) (y' :=Kh) 0 hS rfl Nm Kw rfl rfl rfl rfl rfl rfl rfl fun H hS=> ?_
      try simp only [W]
      refine BX JR ?_;refine BT KB ?_;refine Ca gC ?_;try simp only [W,Fp,Nat.reduceAdd]
      exact CG Gw h ⟨rfl,hS⟩
     ·refine BQ ?_;refine BV GB ?_;try obtain rfl:=Option.some.inj h
      obtain rfl:=Pe _ rfl;have h:(some (Gv):Option ((List Int)))=some (Gv):=rfl;refine CH Gw ?_;refine BZ GU ?_;exact CK GY ⟨_,(Option.some.inj h).symm,rfl,hS⟩
   ·obtain ⟨Jo,FH,rfl,hS⟩:=hq;obtain rfl:=FH.symm;replace h:=Pd;try dsimp only at h
    refine BX F1 ?_;refine BT Gj ?_;refine Ca gC ?_;try simp only [W,Fp,Nat.reduceAdd]
    exact CG FJ h ⟨rfl,hS⟩
  ·refine BQ ?_;refine BV Gi ?_;try obtain rfl:=Option.some.inj h
   obtain rfl:=Hr _ rfl;have h:(some (Ij):Option ((List Int)))=some (Ij):=rfl;refine CH FJ ?_;refine BZ FL ?_;exact CK Ge ⟨_,(Option.some.inj h).symm,rfl,hS⟩
 ·obtain ⟨Fy,FH,rfl,hS⟩:=hq;obtain rfl:=FH.symm;replace h:=Hq;try dsimp only at h
  refine B9 Ft ?_;try obtain rfl:=Option.some.inj h
  exact hP _ hS
theorem Pv {a0:List Int} {a1:Int} {g2:Int→Int→Option Int} {f2:FuncId} {c2:List AV} {m0:AV} {r:(List Int)} (h:Jr a0 a1 g2=some r) {F:List It} {H:J} (n1: ∀{x0:Int} {He:Int} {r:Int},g2 x0 He=some r→ ∀(L:List It) (n:Nat),L.drop n=F→ ∀(H:J),ap H L→ ∀(P:AV→J→Prop),(∀H',ap H' L→P (.int .i64 r) H')→aw C f2 ([.int .i64 x0,.int .i64 He] ++ c2) H P) (hS:ap H (⟨m0,1,a0.map (AV.int .i64)⟩::F)) (G6:aJ m0) {P:AV→J→Prop} (hP: ∀H',ap H' (⟨m0,1,r.map (AV.int .i64)⟩::F)→P (.aA []) H'):aw C 287 [m0,.int .i64 a1,.fn f2 c2] H P:=by
 refine Cd gC (res:=[]) (n:=63) rfl rfl rfl rfl fun K0 Ft=> ?_;simp only [W,Nat.reduceSub,Nat.reduceAdd,List.replicate];unfold Jr at h;refine BM fun K1 Fx=> ?_;refine Ca gC ?_;try simp only [W,Nat.reduceAdd]
 refine BT Fx ?_;refine BM fun K2 zO=> ?_;refine Ca gC ?_;try simp only [W,Nat.reduceAdd]
 refine BT zO ?_;refine BM fun K3 FO=> ?_;obtain ⟨Lz,LA,I1⟩:=Option.bind_eq_some_iff.1 h;refine CJ gC (fun s H=> ∃G_:List Int,∃GX:Int,Lz=(G_,GX)∧s=(m0:: .int .i64 a1:: .fn f2 c2::u::u::u:: .int .i64 20:: .int .i64 GX::u::u::u::u::u::u::u::u::u::u::u::u::u::u::u::u::u::u::u::u::u::u::u::u::u::u::u::u::u::u::u::u::u::u::u::u::u::u::u::u::u::u::u::u::u::u::u::u::u::u::u::u::u::u::u::[])∧ap H (⟨m0,1,G_.map (AV.int .i64)⟩::F)) (fun Le HF=> ?_) (fun s H hq=> ?_)
 ·refine BN fun Lf Hn=> ?_;refine CF gC LA (fun x s H=>match x with|(Fy,Fw,Ik)=>s=(m0:: .int .i64 a1:: .fn f2 c2::u::u::u:: .int .i64 20:: .int .i64 Fw:: .int .i64 Ik::u::u::u::u::u::u::u::u::u::u::u::u::u::u::u::u::u::u::u::u::u::u::u::u::u::u::u::u::u::u::u::u::u::u::u::u::u::u::u::u::u::u::u::u::u::u::u::u::u::u::u::u::u::u::[])∧ap H (⟨m0,1,Fy.map (AV.int .i64)⟩::F)) ⟨rfl,hS⟩ (fun x Iw s H h Kz hi Iv Gi=> ?_)
  obtain ⟨Fy,Fw,Ik⟩:=x;try dsimp only at hi
  obtain ⟨rfl,hS⟩:=hi;simp only [Jp] at h;refine BM fun GM FN=> ?_;refine BM fun HW Gd=> ?_;refine Ca gC ?_;try simp only [W,Fp,Nat.reduceAdd]
  refine BT Gd ?_;refine BR ?_;simp only [W];refine B_ h (fun hc h=> ?_) (fun hc h=> ?_)
  ·refine BO ?_;refine BT FN ?_;refine BN fun HG F9=> ?_;refine BM fun I3 GN=> ?_;refine Ca gC ?_;try simp only [W,Nat.reduceAdd]
   refine CE h fun Hk Pw h=> ?_;refine Nk Pw n1 hS G6 fun H hS=> ?_;try simp only [W]
   refine BT GN ?_;refine BM fun Lg Ix=> ?_;refine Ca gC ?_;try simp only [W,Nat.reduceAdd]
   refine BT Ix ?_;refine Ca gC ?_;try simp only [W,Fp,Nat.reduceAdd]
   refine BX F9 ?_;exact CG Gi h ⟨rfl,hS⟩
  ·refine BQ ?_;refine BV FN ?_;try obtain rfl:=Option.some.inj h
   obtain rfl:=Kz _ rfl;have h:(some (Fy,Fw):Option ((List Int)×Int))=some (Fy,Fw):=rfl;refine CH Gi ?_;refine BZ Hn ?_;exact CK HF ⟨_,_,(Option.some.inj h).symm,rfl,hS⟩
 ·obtain ⟨G_,GX,rfl,rfl,hS⟩:=hq;replace h:=I1;try dsimp only at h
  refine BT FO ?_;refine BM fun IC Gw=> ?_;refine Ca gC ?_;try simp only [W,Nat.reduceAdd]
  refine CE h fun GQ LC h=> ?_;refine Nk LC n1 hS G6 fun H hS=> ?_;try simp only [W]
  refine BT Gw ?_;obtain ⟨Px,Py,Pz⟩:=Option.bind_eq_some_iff.1 h;refine CJ gC (fun s H=>Px=()∧s=(u::u::u::u::u::u::u::u::u::u::u::u::u::u::u::u::u::u::u::u::u::u::u::u::u::u::u::u::u::u::u::u::u::u::u::u::u::u::u::u::u::u::u::u::u::u::u::u::u::u::u::u::u::u::u::u::u::u::u::u::u::u::u::[])∧ap H (⟨m0,1,GQ.map (AV.int .i64)⟩::F)) (fun Nl JT=> ?_) (fun s H hq=> ?_)
  ·refine BN fun JY Hf=> ?_;refine CF gC Py (fun x s H=>s=(m0:: .int .i64 a1:: .fn f2 c2::u::u::u:: .int .i64 x::u::u::u::u::u::u::u::u::u::u::u::u::u::u::u::u::u::u::u::u::u::u::u::u::u::u::u::u::u::u::u::u::u::u::u::u::u::u::u::u::u::u::u::u::u::u::u::u::u::u::u::u::u::u::u::u::[])∧ap H (⟨m0,1,GQ.map (AV.int .i64)⟩::F)) ⟨rfl,hS⟩ (fun Gn Ty s H h PA hi Nn I5=> ?_)
   skip
   try dsimp only at hi
   obtain ⟨rfl,hS⟩:=hi;simp only [Jq] at h;refine BM fun JN G4=> ?_;refine BM fun JO Hc=> ?_;refine Ca gC ?_;try simp only [W,Fp,Nat.reduceAdd]
   refine BT Hc ?_;refine BR ?_;simp only [W];refine B_ h (fun hc h=> ?_) (fun hc h=> ?_)
   ·refine BO ?_;refine BT G4 ?_;refine BN fun M3 JE=> ?_;refine BM fun Lj HY=> ?_;refine Ca gC ?_;try simp only [W,Fp,Nat.reduceAdd]
    refine BT HY ?_;refine BM fun M4 I2=> ?_;obtain ⟨Np,PB,PC⟩:=Option.bind_eq_some_iff.1 h;refine CJ gC (fun s H=>Np=()∧s=(m0:: .int .i64 a1:: .fn f2 c2::u::u::u:: .int .i64 Gn:: .int .i64 0::u::u::u::u::u::u::u::u::u::u::u::u::u::u::u::u::u::u::u::u::u::u::u::u::u::u::u::u::u::u::u::u::u::u::u::u::u::u::u::u::u::u::u::u::u::u::u::u::u::u::u::u::u::u::u::[])∧ap H (⟨m0,1,GQ.map (AV.int .i64)⟩::F)) (fun PD KC=> ?_) (fun s H hq=> ?_)
    ·refine BN fun Ku GZ=> ?_;refine CF gC PB (fun x s H=>s=(m0:: .int .i64 a1:: .fn f2 c2::u::u::u:: .int .i64 Gn:: .int .i64 0:: .int .i64 (IntKind.i64.wrap (2*Gn))::u::u::u::u::u::u::u::u::u::u::u::u::u::u::u::u::u::u::u::u::u::u::u::u::u::u::u::u::u::u::u::u::u::u::u::u::u::u::u::u::u::u::u::u::u::u::u::u::u::u::u::u::u::u::[])∧ap H (⟨m0,1,GQ.map (AV.int .i64)⟩::F)) ⟨rfl,hS⟩ (fun x Tz s H h PE hi Lk Iy=> ?_)
     skip
     try dsimp only at hi
     obtain ⟨rfl,hS⟩:=hi;simp only [Mr] at h;refine BM fun Nq IH=> ?_;refine BM fun PF KD=> ?_;refine Ca gC ?_;try simp only [W,Fp,Nat.reduceAdd]
     refine BT KD ?_;refine BR ?_;simp only [W];refine B_ h (fun hc h=> ?_) (fun hc h=> ?_)
     ·refine BO ?_;refine BT IH ?_;refine BN fun PG Nr=> ?_;refine BM fun TA TB=> ?_;refine Ca gC ?_;try simp only [W,Fp,Nat.reduceAdd]
      exact absurd h (by simp)
     ·refine BQ ?_;refine BV IH ?_;try obtain rfl:=Option.some.inj h
      obtain rfl:=PE _ rfl;have h:(some ():Option Unit)=some ():=rfl;refine CH Iy ?_;refine BZ GZ ?_;exact CK KC ⟨(Option.some.inj h).symm,rfl,hS⟩
    ·obtain ⟨rfl,rfl,hS⟩:=hq;replace h:=PC;try dsimp only at h
     refine BT I2 ?_;refine BM fun PH KE=> ?_;refine BM fun Ns I6=> ?_;refine Ca gC ?_;try simp only [W,Fp,Nat.reduceAdd]
     refine BT I6 ?_;refine BM fun TD PI=> ?_;refine Ca gC ?_;try simp only [W,Fp,Nat.reduceAdd]
     refine BT PI ?_;obtain ⟨PJ,h,PK⟩:=Option.bind_eq_some_iff.1 h;refine CJ gC (fun s H=>PJ=()∧s=(m0:: .int .i64 a1:: .fn f2 c2::u::u::u:: .int .i64 Gn::u::u::u::u::u::u::u::u::u::u::u::u::u::u::u::u::u::u::u::u::u::u::u::u::u::u::u::u::u::u::u::u::u::u::u::u::u::u::u::u::u::u::u::u::u::u::u::u::u::u::u::u::u::u::u::u::[])∧ap H (⟨m0,1,GQ.map (AV.int .i64)⟩::F)) (fun PM JZ=> ?_) (fun s H hq=> ?_)
     ·refine BM fun PN LI=> ?_;refine BR ?_;simp only [W];refine B_ h (fun hc h=> ?_) (fun hc h=> ?_)
      ·refine Ca gC ?_;try simp only [W,Nat.reduceAdd]
       exact absurd h (by simp)
      ·refine BO ?_;refine BT LI ?_;refine EL (s' :=(m0:: .int .i64 a1:: .fn f2 c2::u::u::u:: .int .i64 Gn::u::u::u::u::u::u::u::u::u::u::u::u::u::u::u::u::u::u::u::u::u::u::u::u::u::u::u::u::u::u::u::u::u::u::u::u::u::u::u::u::u::u::u::u::u::u::u::u::u::u::u::u::u::u::u::u::[])) rfl ?_
       exact CK JZ ⟨(Option.some.inj h).symm,rfl,hS⟩
     ·obtain ⟨rfl,rfl,hS⟩:=hq;replace h:=PK;try dsimp only at h
      refine BT KE ?_;refine Ca gC ?_;try simp only [W,Fp,Nat.reduceAdd]
      refine BX JE ?_;exact CG I5 h ⟨rfl,hS⟩
   ·refine BQ ?_;refine BV G4 ?_;try obtain rfl:=Option.some.inj h
    obtain rfl:=PA _ rfl;have h:(some ():Option Unit)=some ():=rfl;refine CH I5 ?_;refine BZ Hf ?_;exact CK JT ⟨(Option.some.inj h).symm,rfl,hS⟩
  ·obtain ⟨rfl,rfl,hS⟩:=hq;replace h:=Pz;try dsimp only at h
   refine B9 Ft ?_;try obtain rfl:=Option.some.inj h
   exact hP _ hS
theorem PO {a0:List Int} {g1:Int→Int→Option Int} {f1:FuncId} {c1:List AV} {m0:AV} {r:(List Int)} (h:HR a0 g1=some r) {F:List It} {H:J} (cQ: ∀{x0:Int} {He:Int} {r:Int},g1 x0 He=some r→ ∀(L:List It) (n:Nat),L.drop n=F→ ∀(H:J),ap H L→ ∀(P:AV→J→Prop),(∀H',ap H' L→P (.int .i64 r) H')→aw C f1 ([.int .i64 x0,.int .i64 He] ++ c1) H P) (hS:ap H (⟨m0,1,a0.map (AV.int .i64)⟩::F)) (G6:aJ m0) {P:AV→J→Prop} (hP: ∀H',ap H' (⟨m0,1,r.map (AV.int .i64)⟩::F)→P (.aA []) H'):aw C 173 [m0,.fn f1 c1] H P:=by
 refine Cd gC (res:=[]) (n:=9) rfl rfl rfl rfl fun K0 Ft=> ?_;simp only [W,Nat.reduceSub,Nat.reduceAdd,List.replicate];unfold HR at h;refine Ca gC ?_;try simp only [W,Fp,Nat.reduceAdd]
 refine uJ 0 hS rfl G6 rfl ?_;try simp only [W]
 refine CE h fun b1 ng h=> ?_;refine Pv ng cQ hS G6 fun H hS=> ?_;try simp only [W]
 refine B9 Ft ?_;try obtain rfl:=Option.some.inj h
 exact hP _ hS
theorem Nt {a0:List Fq} {r:(List Int×Bool)} (h:Il a0=some r) {F:List It} {H:J} (hS:ap H (F)) {P:AV→J→Prop} (hP: ∀LJ:AV,aJ LJ→ ∀H',ap H' (⟨LJ,1,r.1.map (AV.int .i64)⟩::F)→P (.aA [LJ,.bool r.2]) H'):aw C 34 [.fz (a0.map Fu)] H P:=by
 refine Cd gC (res:=[.tmp 2,.tmp 3]) (n:=24) rfl rfl rfl rfl fun K0 Ft=> ?_;simp only [W,Nat.reduceSub,Nat.reduceAdd,List.replicate];unfold Il at h;refine BM fun K1 Fx=> ?_;refine Ca gC ?_;try simp only [W,Nat.reduceAdd]
 refine Cr hS rfl rfl rfl rfl fun JH JI H hS=> ?_;try simp only [W]
 refine BT Fx ?_;refine BM fun K4 Gr=> ?_;refine BM fun K5 Gc=> ?_;refine Ca gC ?_;try simp only [W,Fp,Nat.reduceAdd,hS.var 0 rfl]
 refine CE h fun FI Hp h=> ?_;refine Lr Hp hS fun H hS=> ?_;try simp only [W]
 refine BT Gc ?_;refine BR ?_;simp only [W];refine B_ h (fun hc h=> ?_) (fun hc h=> ?_)
 ·refine BM fun K7 Ge=> ?_;refine Ca gC ?_;try simp only [W,Nat.reduceAdd]
  refine BT Ge ?_;refine BP ?_;refine BU Gr ?_;refine B5 Ft rfl rfl ?_;try obtain rfl:=Option.some.inj h
  exact hP _ lP _ ((hS.u2 1).Db 2 [0] (by decide))
 ·refine BO ?_;refine BT Gr ?_;refine BM fun K8 FL=> ?_;refine Ca gC ?_;try simp only [W,Nat.reduceAdd]
  refine CC rfl rfl ?_;try simp only [W]
  refine BT FL ?_;refine BM fun K9 FJ=> ?_;refine BM fun I0 Gk=> ?_;refine Ca gC ?_;try simp only [W,Fp,Nat.reduceAdd,hS.var 0 rfl]
  refine BT Gk ?_;obtain ⟨PP,PQ,LF⟩:=Option.bind_eq_some_iff.1 h;refine CJ gC (fun s H=> ∃G9:List Int,PP=(G9)∧ ∃KF:AV,aJ KF∧s=[u,.ptr JH JI 0 0,u,u,KF,u,u,u,u,u,u,u,u,u,u,u,u,u,u,u,u,u,u,u]∧ap H (⟨KF,1,G9.map (AV.int .i64)⟩::⟨.ptr JH JI 0 0,1,[.fz (a0.map Fu)]⟩::F)) (fun HG F9=> ?_) (fun s H hq=> ?_)
  ·refine BN fun I3 GN=> ?_;refine CF gC PQ (fun x s H=>match x with|(FM,F2)=> ∃KG:AV,aJ KG∧s=[u,.ptr JH JI 0 0,u,u,KG,u,u,u,u,u,u,.int .i64 (a0.length:Int),.int .i64 F2,u,u,u,u,u,u,u,u,u,u,u]∧ap H (⟨KG,1,FM.map (AV.int .i64)⟩::⟨.ptr JH JI 0 0,1,[.fz (a0.map Fu)]⟩::F)) ⟨_,ny,rfl,(hS.Ai 1)⟩ (fun x Ni s H h PR hi JG G0=> ?_)
   obtain ⟨FM,F2⟩:=x;try dsimp only at hi
   obtain ⟨KG,Nu,rfl,hS⟩:=hi;simp only [Kj] at h;refine BM fun IC Gw=> ?_;refine Ca gC ?_;try simp only [W,Fp,Nat.reduceAdd]
   refine BT Gw ?_;refine BM fun KA Hd=> ?_;refine BR ?_;simp only [W];refine B_ h (fun hc h=> ?_) (fun hc h=> ?_)
   ·refine BO ?_;refine BT Hd ?_;refine BM fun JM G3=> ?_;refine BN fun Kx Hs=> ?_;refine BM fun I4 GB=> ?_;refine Ca gC ?_;try simp only [W,Nat.reduceAdd]
    refine BT GB ?_;refine Ca gC ?_;try simp only [W,Nat.reduceAdd]
    refine CD (el:=([F2]:List Int).map (AV.int .i64)) hS rfl rfl rfl rfl rfl rfl rfl fun v30 H LK hS=> ?_;try simp only [W,Fp]
    refine CW (l:=FM) (c:=(AV.int .i64)) 1 hS rfl Nu rfl rfl rfl (hS.g6 0 rfl LK) (fun _=>rfl) rfl h fun TE H Ms PS hm h hS=> ?_;try simp only [W]
    refine BX Hs ?_;refine BT G3 ?_;refine Ca gC ?_;try simp only [W,Fp,Nat.reduceAdd]
    exact CG G0 h ⟨_,PS,rfl,(hS.Db 3 [1,2] (by decide))⟩
   ·refine BQ ?_;refine BV Hd ?_;try obtain rfl:=Option.some.inj h
    obtain rfl:=PR _ rfl;have h:(some (FM):Option ((List Int)))=some (FM):=rfl;refine CH G0 ?_;refine BZ GN ?_;exact CK F9 ⟨_,(Option.some.inj h).symm,_,Nu,rfl,hS⟩
  ·obtain ⟨G9,FH,KF,Nv,rfl,hS⟩:=hq;obtain rfl:=FH.symm;replace h:=LF;try dsimp only at h
   refine BT FJ ?_;refine BM fun JO Hc=> ?_;refine Ca gC ?_;try simp only [W,Nat.reduceAdd]
   refine CE h fun F0 JP h=> ?_;refine PO JP (fun h _ n hL _ hS _ hP=>Pb h (Dc hL (List.mem_of_getElem? (i:=0) rfl)) hS hP) hS Nv fun H hS=> ?_;try simp only [W]
   refine BT Hc ?_;refine BM fun Lj HY=> ?_;refine Ca gC ?_;try simp only [W,Nat.reduceAdd]
   refine BT HY ?_;refine BP ?_;refine B5 Ft rfl rfl ?_;try obtain rfl:=Option.some.inj h
   exact hP _ Nv _ (hS.Db 2 [0] (by decide))
theorem Nw {a0:List Fq} {r:(List Int×Bool)} (h:Ip a0=some r) {F:List It} {H:J} (hS:ap H (F)) {P:AV→J→Prop} (hP: ∀LL:AV,aJ LL→ ∀H',ap H' (⟨LL,1,r.1.map (AV.int .i64)⟩::F)→P (.aA [LL,.bool r.2]) H'):aw C 35 [.fz (a0.map Fu)] H P:=by
 refine Cd gC (res:=[.tmp 2,.tmp 3]) (n:=54) rfl rfl rfl rfl fun K0 Ft=> ?_;simp only [W,Nat.reduceSub,Nat.reduceAdd,List.replicate];unfold Ip at h;refine BM fun K1 Fx=> ?_;refine Ca gC ?_;try simp only [W,Nat.reduceAdd]
 refine BT Fx ?_;refine BM fun K2 zO=> ?_;refine BM fun K3 FO=> ?_;refine Ca gC ?_;try simp only [W,Nat.reduceAdd]
 refine CE h fun FQ GR h=> ?_;refine LD GR hS fun H hS=> ?_;try simp only [W]
 refine BT FO ?_;refine BR ?_;simp only [W];refine B_ h (fun hc h=> ?_) (fun hc h=> ?_)
 ·refine BM fun K5 Gc=> ?_;refine Ca gC ?_;try simp only [W,Nat.reduceAdd]
  refine BT Gc ?_;refine BP ?_;refine BU zO ?_;refine B5 Ft rfl rfl ?_;try obtain rfl:=Option.some.inj h
  exact hP _ lP _ (hS.u2 1)
 ·refine BO ?_;refine BT zO ?_;refine BM fun K6 G5=> ?_;refine Ca gC ?_;try simp only [W,Nat.reduceAdd]
  refine BT G5 ?_;refine BM fun K7 Ge=> ?_;refine BM fun K8 FL=> ?_;refine Ca gC ?_;try simp only [W,Fp,Nat.reduceAdd]
  refine BT FL ?_;obtain ⟨Iw,LM,LN⟩:=Option.bind_eq_some_iff.1 h;refine CJ gC (fun s H=> ∃FP:List Int,Iw=(FP)∧ ∃KH:AV,aJ KH∧s=[u,u,u,u,KH,u,u,u,u,u,u,u,u,u,u,u,u,u,u,u,u,u,u,u,u,u,u,u,u,u,u,u,u,u,u,u,u,u,u,u,u,u,u,u,u,u,u,u,u,u,u,u,u,u]∧ap H (⟨KH,1,FP.map (AV.int .i64)⟩::F)) (fun GM FN=> ?_) (fun s H hq=> ?_)
  ·refine BN fun HW Gd=> ?_;refine CF gC LM (fun x s H=>match x with|(F3,FF)=> ∃v10:AV,aJ v10∧s=[.fz (a0.map Fu),u,u,u,v10,u,u,u,u,u,u,u,.fz (a0.map Fu),.int .i64 (a0.length:Int),.int .i64 FF,u,u,u,u,u,u,u,u,u,u,u,u,u,u,u,u,u,u,u,u,u,u,u,u,u,u,u,u,u,u,u,u,u,u,u,u,u,u,u]∧ap H (⟨v10,1,F3.map (AV.int .i64)⟩::F)) ⟨_,lP,rfl,(hS.u2 1)⟩ (fun x LH s H h LO hi HG F9=> ?_)
   obtain ⟨F3,FF⟩:=x;try dsimp only at hi
   obtain ⟨v10,J0,rfl,hS⟩:=hi;simp only [Kl] at h;refine BM fun JD GY=> ?_;refine Ca gC ?_;try simp only [W,Fp,Nat.reduceAdd]
   refine BT GY ?_;refine BM fun JS GU=> ?_;refine BR ?_;simp only [W];refine B_ h (fun hc h=> ?_) (fun hc h=> ?_)
   ·refine BO ?_;refine BT GU ?_;refine BM fun IC Gw=> ?_;refine BN fun KA Hd=> ?_;refine BM fun JM G3=> ?_;refine Ca gC ?_;try simp only [W,Fp,Nat.reduceAdd]
    refine Cy rfl rfl rfl (fun _=>rfl) h fun FK LG h=> ?_;try simp only [W,Fp,Gh,reduceIte,Nat.reduceAdd,Nat.reduceLeDiff]
    refine Cs hS rfl rfl fun J1 J2 H hS=> ?_;try simp only [W]
    refine Ct (a:= .agg [.int .i64 FK.Fv,.int .i64 FK.Fs]) (y' := .agg [.int .i64 FK.Fv,.int .i64 FK.Fs]) 0 hS rfl rfl rfl rfl rfl rfl rfl rfl fun H hS=> ?_
    try simp only [W]
    refine BT G3 ?_;refine BM fun JY Hf=> ?_;refine Ca gC ?_;try simp only [W,Nat.reduceAdd]
    refine BT Hf ?_;refine BM fun Nn I5=> ?_;obtain ⟨PT,PU,PV⟩:=Option.bind_eq_some_iff.1 h;refine CJ gC (fun s H=> ∃Gz:Int,PT=(Gz)∧s=[.fz (a0.map Fu),u,u,u,v10,.int .i64 FF,u,.int .i64 Gz,u,u,u,u,.fz (a0.map Fu),.int .i64 (a0.length:Int),.int .i64 FF,u,u,u,u,u,u,u,u,u,u,u,u,u,u,u,u,u,u,u,u,u,u,u,u,u,u,u,u,u,u,u,u,u,u,u,u,u,u,u]∧ap H (⟨v10,1,F3.map (AV.int .i64)⟩::F)) (fun JO Hc=> ?_) (fun s H hq=> ?_)
    ·refine BN fun M3 JE=> ?_;refine CF gC PU (fun x s H=>s=[.fz (a0.map Fu),u,u,u,v10,.int .i64 FF,.ptr J1 J2 0 0,.int .i64 x,u,u,u,u,.fz (a0.map Fu),.int .i64 (a0.length:Int),.int .i64 FF,u,u,u,u,u,u,u,u,u,u,u,u,u,u,u,u,u,u,u,u,u,u,u,u,u,u,u,u,u,u,u,u,u,u,u,u,u,u,u]∧ap H (⟨v10,1,F3.map (AV.int .i64)⟩::⟨.ptr J1 J2 0 0,2,[.agg [.int .i64 FK.Fv,.int .i64 FK.Fs]]⟩::F)) ⟨rfl,(hS.Db 2 [1,0] (by decide))⟩ (fun Gp Np s H h PW hi Lj HY=> ?_)
     skip
     try dsimp only at hi
     obtain ⟨rfl,hS⟩:=hi;simp only [Kk] at h;refine BM fun PD KC=> ?_;refine BM fun Ku GZ=> ?_;obtain ⟨PX,h,PY⟩:=Option.bind_eq_some_iff.1 h;refine CJ gC (fun s H=> ∃Js:Bool,PX=(Js)∧s=[.fz (a0.map Fu),u,u,u,v10,.int .i64 FF,.ptr J1 J2 0 0,.int .i64 Gp,u,u,u,u,.fz (a0.map Fu),.int .i64 (a0.length:Int),.int .i64 FF,u,u,u,u,u,u,u,u,u,u,u,u,u,u,u,u,u,u,u,u,.bool Js,u,u,u,u,u,u,u,u,u,u,u,u,u,u,u,u,u,u]∧ap H (⟨v10,1,F3.map (AV.int .i64)⟩::⟨.ptr J1 J2 0 0,2,[.agg [.int .i64 FK.Fv,.int .i64 FK.Fs]]⟩::F)) (fun Ox Kv=> ?_) (fun s H hq=> ?_)
     ·refine BM fun Nq IH=> ?_;refine Cc gC (by kernel_rfl) ?_
      try simp only [W,Fp,Nat.reduceAdd]
      refine uJ 0 hS rfl J0 rfl ?_;try simp only [W,Fp]
      refine Dh h (fun hc h=> ?_) (fun hc h=> ?_)
      ·try simp only [W,Fp,hc]
       refine Cz 0 hS rfl rfl rfl rfl rfl h (fun G8 TF TG TJ PZ h P0=> ?_) J0.ne;obtain ⟨TK,P1,P2⟩:=hS.elem 0 rfl P0 PZ;try simp only [W,Fp,P1,P2]
       refine Cy rfl rfl rfl (fun _=>rfl) h fun Mt TL h=> ?_;try simp only [W,Fp,Gh,reduceIte,Nat.reduceAdd,Nat.reduceBEq,hS.var 1 rfl]
       refine BT IH ?_;refine BS ?_;exact CK Kv ⟨_,(Option.some.inj h).symm,rfl,hS⟩
      ·try simp only [W,hc]
       refine BT IH ?_;refine BS ?_;exact CK Kv ⟨_,(Option.some.inj h).symm,rfl,hS⟩
     ·obtain ⟨Js,FH,rfl,hS⟩:=hq;obtain rfl:=FH.symm;replace h:=PY;try dsimp only at h
      refine BT GZ ?_;refine BR ?_;simp only [W];refine B_ h (fun hc h=> ?_) (fun hc h=> ?_)
      ·refine BO ?_;refine BT KC ?_;refine BN fun Nd JQ=> ?_;refine Ca gC ?_;try simp only [W,Fp,Nat.reduceAdd]
       refine BX JQ ?_;exact CG HY h ⟨rfl,hS⟩
      ·refine BQ ?_;refine BV KC ?_;try obtain rfl:=Option.some.inj h
       obtain rfl:=PW _ rfl;have h:(some (Gp):Option (Int))=some (Gp):=rfl;refine CH HY ?_;refine BZ JE ?_;exact CK Hc ⟨_,(Option.some.inj h).symm,rfl,(hS.Db 2 [0] (by decide))⟩
    ·obtain ⟨Gz,FH,rfl,hS⟩:=hq;obtain rfl:=FH.symm;replace h:=PV;try dsimp only at h
     refine BT I5 ?_;refine BM fun Ns I6=> ?_;refine Ca gC ?_;try simp only [W,Nat.reduceAdd]
     refine CC rfl rfl ?_;try simp only [W,Fp]
     refine Ev 0 hS rfl J0 rfl rfl rfl h fun TM Mu TN P3 P4 h=> ?_;try simp only [W,Fp]
     have hS:=hS.Ai 1;refine CW (l:=([]:List Int)) (c:=(AV.int .i64)) 0 hS rfl ny rfl rfl rfl (hS.wN 1 rfl P3 P4) (fun _=>rfl) rfl h fun TO H KX P5 hm h hS=> ?_;try simp only [W]
     refine BT I6 ?_;refine BM fun P6 LP=> ?_;refine Ca gC ?_;try simp only [W,Nat.reduceAdd]
     refine CD (el:=([FF]:List Int).map (AV.int .i64)) hS rfl rfl rfl rfl rfl rfl rfl fun TP H P7 hS=> ?_;try simp only [W,Fp]
     refine CW (l:=KX) (c:=(AV.int .i64)) 1 hS rfl P5 rfl rfl rfl (hS.g6 0 rfl P7) (fun _=>rfl) rfl h fun TQ H KY P8 hm h hS=> ?_;try simp only [W]
     refine BT LP ?_;refine Ca gC ?_;try simp only [W,Fp,Nat.reduceAdd]
     refine CV 2 hS rfl J0 rfl rfl rfl h fun TR Hz P9 TS h hS=> ?_;try simp only [W,Fp]
     refine CW (l:=KY) (c:=(AV.int .i64)) 1 hS rfl P8 rfl rfl rfl (hS.g6 2 rfl P9) (fun _=>rfl) rfl h fun TT H Mw P_ hm h hS=> ?_;try simp only [W]
     refine BX Hd ?_;refine BT Gw ?_;refine Ca gC ?_;try simp only [W,Fp,Nat.reduceAdd]
     exact CG F9 h ⟨_,P_,rfl,(hS.Db 3 [1] (by decide))⟩
   ·refine BQ ?_;refine BV GU ?_;try obtain rfl:=Option.some.inj h
    obtain rfl:=LO _ rfl;have h:(some (F3):Option ((List Int)))=some (F3):=rfl;refine CH F9 ?_;refine BZ Gd ?_;exact CK FN ⟨_,(Option.some.inj h).symm,_,J0,rfl,hS⟩
  ·obtain ⟨FP,FH,KH,Qa,rfl,hS⟩:=hq;obtain rfl:=FH.symm;replace h:=LN;try dsimp only at h
   refine BT Ge ?_;refine BM fun TU Qb=> ?_;refine Ca gC ?_;try simp only [W,Nat.reduceAdd]
   refine BT Qb ?_;refine BP ?_;refine B5 Ft rfl rfl ?_;try obtain rfl:=Option.some.inj h
   exact hP _ Qa _ hS
theorem Qc {a0:Int} {a1:Int} {r:(Int)} (h:Kn a0 a1=some r) {F:List It} {H:J} (hS:ap H (F)) {P:AV→J→Prop} (hP: ∀H',ap H' (F)→P (.int .i64 r) H'):aw C 175 [.int .i64 a0,.int .i64 a1] H P:=by
 refine Cd gC (res:=[.tmp 4]) (n:=12) rfl rfl rfl rfl fun K0 Ft=> ?_;simp only [W,Nat.reduceSub,Nat.reduceAdd,List.replicate];unfold Kn at h;refine BM fun K1 Fx=> ?_;refine Ca gC ?_;try simp only [W,Nat.reduceAdd]
 refine BT Fx ?_;refine BM fun K2 zO=> ?_;obtain ⟨HE,IB,HI⟩:=Option.bind_eq_some_iff.1 h;refine CJ gC (fun s H=> ∃Fw:Int,HE=(Fw)∧s=[.int .i64 Fw,u,u,u,u,u,u,u,u,u,u,u]∧ap H (F)) (fun K8 FL=> ?_) (fun s H hq=> ?_)
 ·refine BN fun K9 FJ=> ?_;refine CF gC IB (fun x s H=>match x with|(x3,Fy)=>s=[.int .i64 x3,.int .i64 Fy,u,u,u,u,u,u,u,u,u,u]∧ap H (F)) ⟨rfl,hS⟩ (fun x Ls s H h HJ hi I0 Gk=> ?_)
  obtain ⟨x3,Fy⟩:=x;try dsimp only at hi
  obtain ⟨rfl,hS⟩:=hi;simp only [Km] at h;refine BM fun HU F8=> ?_;refine BM fun HV Gj=> ?_;refine Ca gC ?_;try simp only [W,Fp,Nat.reduceAdd]
  refine BT Gj ?_;refine BR ?_;simp only [W];refine B_ h (fun hc h=> ?_) (fun hc h=> ?_)
  ·refine BO ?_;refine BT F8 ?_;refine BN fun Ho F1=> ?_;refine Cc gC (by kernel_rfl) ?_
   try simp only [W,Fp,Nat.reduceAdd]
   refine Cp _ h fun Mx TW h=> ?_;try simp only [W]
   refine BX F1 ?_;exact CG Gk h ⟨rfl,hS⟩
  ·refine BQ ?_;refine BV F8 ?_;try obtain rfl:=Option.some.inj h
   obtain rfl:=HJ _ rfl;have h:(some (x3):Option (Int))=some (x3):=rfl;refine CH Gk ?_;refine BZ FJ ?_;exact CK FL ⟨_,(Option.some.inj h).symm,rfl,hS⟩
 ·obtain ⟨Fw,FH,rfl,hS⟩:=hq;obtain rfl:=FH.symm;replace h:=HI;try dsimp only at h
  refine BT zO ?_;refine BM fun I3 GN=> ?_;refine Ca gC ?_;try simp only [W,Nat.reduceAdd]
  refine BT GN ?_;refine BP ?_;refine B4 Ft rfl ?_;try obtain rfl:=Option.some.inj h
  exact hP _ hS
theorem Nx {a0:List Fq} {r:(Int×Int×Bool)} (h:Hm a0=some r) {F:List It} {H:J} (hS:ap H (F)) {P:AV→J→Prop} (hP: ∀H',ap H' (F)→P (.aA [.int .i64 r.1,.int .i64 r.2.1,.bool r.2.2]) H'):aw C 36 [.fz (a0.map Fu)] H P:=by
 refine Cd gC (res:=[.tmp 2,.tmp 3,.tmp 4]) (n:=44) rfl rfl rfl rfl fun K0 Ft=> ?_;simp only [W,Nat.reduceSub,Nat.reduceAdd,List.replicate];unfold Hm at h;refine BM fun K1 Fx=> ?_;refine Ca gC ?_;try simp only [W,Nat.reduceAdd]
 refine BT Fx ?_;refine BM fun K2 zO=> ?_;refine BM fun K3 FO=> ?_;refine Ca gC ?_;try simp only [W,Nat.reduceAdd]
 refine CE h fun FQ GR h=> ?_;refine Lr GR hS fun H hS=> ?_;try simp only [W]
 refine BT FO ?_;refine BR ?_;simp only [W];refine B_ h (fun hc h=> ?_) (fun hc h=> ?_)
 ·refine BM fun K5 Gc=> ?_;refine Ca gC ?_;try simp only [W,Nat.reduceAdd]
  refine BT Gc ?_;refine BP ?_;refine BU zO ?_;refine B6 Ft rfl rfl rfl ?_;try obtain rfl:=Option.some.inj h
  exact hP _ hS
 ·refine BO ?_;refine BT zO ?_;refine BM fun K6 G5=> ?_;refine Ca gC ?_;try simp only [W,Nat.reduceAdd]
  refine BT G5 ?_;refine BM fun K7 Ge=> ?_;refine BM fun K8 FL=> ?_;refine Ca gC ?_;try simp only [W,Fp,Nat.reduceAdd]
  refine BT FL ?_;obtain ⟨Ny,Qd,Qe⟩:=Option.bind_eq_some_iff.1 h;refine CJ gC (fun s H=> ∃FF:Int,∃FP:Int,Ny=(FF,FP)∧s=[u,u,u,u,u,.int .i64 FF,.int .i64 FP,u,u,u,u,u,u,u,u,u,u,u,u,u,u,u,u,u,u,u,u,u,u,u,u,u,u,u,u,u,u,u,u,u,u,u,u,u]∧ap H (F)) (fun Ho F1=> ?_) (fun s H hq=> ?_)
  ·refine BN fun GM FN=> ?_;refine CF gC Qd (fun x s H=>match x with|(F3,Gm,FM)=>s=[u,u,u,u,u,.int .i64 F3,.int .i64 Gm,u,u,u,u,u,u,.fz (a0.map Fu),.int .i64 (a0.length:Int),.int .i64 FM,u,u,u,u,u,u,u,u,u,u,u,u,u,u,u,u,u,u,u,u,u,u,u,u,u,u,u,u]∧ap H (F)) ⟨rfl,hS⟩ (fun x TX s H h Qf hi HW Gd=> ?_)
   obtain ⟨F3,Gm,FM⟩:=x;try dsimp only at hi
   obtain ⟨rfl,hS⟩:=hi;simp only [Iq] at h;refine BM fun Lg Ix=> ?_;refine Ca gC ?_;try simp only [W,Fp,Nat.reduceAdd]
   refine BT Ix ?_;refine BM fun JD GY=> ?_;refine BR ?_;simp only [W];refine B_ h (fun hc h=> ?_) (fun hc h=> ?_)
   ·refine BO ?_;refine BT GY ?_;refine BM fun JS GU=> ?_;refine BN fun IC Gw=> ?_;refine BM fun KA Hd=> ?_;refine Ca gC ?_;try simp only [W,Fp,Nat.reduceAdd]
    refine Cy rfl rfl rfl (fun _=>rfl) h fun F7 Nj h=> ?_;try simp only [W,Fp,Gh,reduceIte,Nat.reduceAdd,Nat.reduceLeDiff]
    refine Cs hS rfl rfl fun TY TZ H hS=> ?_;try simp only [W]
    refine Ct (a:= .agg [.int .i64 F7.Fv,.int .i64 F7.Fs]) (y' := .agg [.int .i64 F7.Fv,.int .i64 F7.Fs]) 0 hS rfl rfl rfl rfl rfl rfl rfl rfl fun H hS=> ?_
    try simp only [W]
    refine BT Hd ?_;refine BM fun Nl JT=> ?_;refine Cc gC (by kernel_rfl) ?_
    try simp only [W,Fp,Nat.reduceAdd,Nat.reduceBEq,hS.var 0 rfl]
    refine BT JT ?_;refine BM fun JY Hf=> ?_;refine Ca gC ?_;try simp only [W,Nat.reduceAdd]
    refine CE h fun HS LQ h=> ?_;refine Qc LQ hS fun H hS=> ?_;try simp only [W]
    refine BT Hf ?_;refine Cc gC (by kernel_rfl) ?_
    try simp only [W,Fp,Nat.reduceAdd]
    refine Cp _ h fun Gp T1 h=> ?_;try simp only [W,Fp]
    refine Cp _ h fun Gz T2 h=> ?_;try simp only [W]
    refine BX Gw ?_;refine BT GU ?_;refine Ca gC ?_;try simp only [W,Fp,Nat.reduceAdd]
    exact CG Gd h ⟨rfl,(hS.Db 1 [] (by decide))⟩
   ·refine BQ ?_;refine BV GY ?_;try obtain rfl:=Option.some.inj h
    obtain rfl:=Qf _ rfl;have h:(some (F3,Gm):Option (Int×Int))=some (F3,Gm):=rfl;refine CH Gd ?_;refine BZ FN ?_;exact CK F1 ⟨_,_,(Option.some.inj h).symm,rfl,hS⟩
  ·obtain ⟨FF,FP,rfl,rfl,hS⟩:=hq;replace h:=Qe;try dsimp only at h
   refine BT Ge ?_;refine BM fun JO Hc=> ?_;refine Ca gC ?_;try simp only [W,Nat.reduceAdd]
   refine BT Hc ?_;refine BP ?_;refine B6 Ft rfl rfl rfl ?_;try obtain rfl:=Option.some.inj h
   exact hP _ hS
theorem Qg {a0:Int} {a1:Int} {r:(Int)} (h:Ko a0 a1=some r) {F:List It} {H:J} (hS:ap H (F)) {P:AV→J→Prop} (hP: ∀H',ap H' (F)→P (.int .i64 r) H'):aw C 176 [.int .i64 a0,.int .i64 a1] H P:=by
 refine Cd gC (res:=[.tmp 4]) (n:=14) rfl rfl rfl rfl fun K0 Ft=> ?_;simp only [W,Nat.reduceSub,Nat.reduceAdd,List.replicate];unfold Ko at h;refine BM fun K1 Fx=> ?_;refine Ca gC ?_;try simp only [W,Nat.reduceAdd]
 refine BT Fx ?_;refine BM fun K2 zO=> ?_;obtain ⟨HE,IB,HI⟩:=Option.bind_eq_some_iff.1 h;refine CJ gC (fun s H=> ∃Fw:Int,HE=(Fw)∧s=[.int .i64 Fw,u,u,u,u,u,u,u,u,u,u,u,u,u]∧ap H (F)) (fun K8 FL=> ?_) (fun s H hq=> ?_)
 ·refine BN fun K9 FJ=> ?_;refine CF gC IB (fun x s H=>match x with|(x3,Fy)=>s=[.int .i64 x3,.int .i64 Fy,u,u,u,u,u,u,u,u,u,u,u,u]∧ap H (F)) ⟨rfl,hS⟩ (fun x Ls s H h HJ hi I0 Gk=> ?_)
  obtain ⟨x3,Fy⟩:=x;try dsimp only at hi
  obtain ⟨rfl,hS⟩:=hi;simp only [Jt] at h;refine BM fun HU F8=> ?_;refine BM fun HV Gj=> ?_;refine Ca gC ?_;try simp only [W,Fp,Nat.reduceAdd]
  refine BT Gj ?_;refine BR ?_;simp only [W];refine B_ h (fun hc h=> ?_) (fun hc h=> ?_)
  ·refine BO ?_;refine BT F8 ?_;refine BN fun Ho F1=> ?_;refine BM fun GM FN=> ?_;refine Ca gC ?_;try simp only [W,Fp,Nat.reduceAdd]
   refine Cp _ h fun Gv T3 h=> ?_;try simp only [W]
   refine BT FN ?_;refine BM fun HG F9=> ?_;refine Ca gC ?_;try simp only [W,Nat.reduceAdd]
   refine BT F9 ?_;refine Ca gC ?_;try simp only [W,Nat.reduceAdd]
   refine BX F1 ?_;exact CG Gk h ⟨rfl,hS⟩
  ·refine BQ ?_;refine BV F8 ?_;try obtain rfl:=Option.some.inj h
   obtain rfl:=HJ _ rfl;have h:(some (x3):Option (Int))=some (x3):=rfl;refine CH Gk ?_;refine BZ FJ ?_;exact CK FL ⟨_,(Option.some.inj h).symm,rfl,hS⟩
 ·obtain ⟨Fw,FH,rfl,hS⟩:=hq;obtain rfl:=FH.symm;replace h:=HI;try dsimp only at h
  refine BT zO ?_;refine BM fun Lg Ix=> ?_;refine Ca gC ?_;try simp only [W,Nat.reduceAdd]
  refine BT Ix ?_;refine BP ?_;refine B4 Ft rfl ?_;try obtain rfl:=Option.some.inj h
  exact hP _ hS
theorem Qh {a0:List Fq} {r:(Int×Int×Bool)} (h:Is a0=some r) {F:List It} {H:J} (hS:ap H (F)) {P:AV→J→Prop} (hP: ∀H',ap H' (F)→P (.aA [.int .i64 r.1,.int .i64 r.2.1,.bool r.2.2]) H'):aw C 37 [.fz (a0.map Fu)] H P:=by
 refine Cd gC (res:=[.tmp 2,.tmp 3,.tmp 4]) (n:=44) rfl rfl rfl rfl fun K0 Ft=> ?_;simp only [W,Nat.reduceSub,Nat.reduceAdd,List.replicate];unfold Is at h;refine BM fun K1 Fx=> ?_;refine Ca gC ?_;try simp only [W,Nat.reduceAdd]
 refine BT Fx ?_;refine BM fun K2 zO=> ?_;refine BM fun K3 FO=> ?_;refine Ca gC ?_;try simp only [W,Nat.reduceAdd]
 refine CE h fun FQ GR h=> ?_;refine LD GR hS fun H hS=> ?_;try simp only [W]
 refine BT FO ?_;refine BR ?_;simp only [W];refine B_ h (fun hc h=> ?_) (fun hc h=> ?_)
 ·refine BM fun K5 Gc=> ?_;refine Ca gC ?_;try simp only [W,Nat.reduceAdd]
  refine BT Gc ?_;refine BP ?_;refine BU zO ?_;refine B6 Ft rfl rfl rfl ?_;try obtain rfl:=Option.some.inj h
  exact hP _ hS
 ·refine BO ?_;refine BT zO ?_;refine BM fun K6 G5=> ?_;refine Ca gC ?_;try simp only [W,Nat.reduceAdd]
  refine BT G5 ?_;refine BM fun K7 Ge=> ?_;refine Ca gC ?_;try simp only [W,Nat.reduceAdd]
  refine BT Ge ?_;refine BM fun K8 FL=> ?_;refine BM fun K9 FJ=> ?_;refine Ca gC ?_;try simp only [W,Fp,Nat.reduceAdd]
  refine BT FJ ?_;obtain ⟨Iw,LM,LN⟩:=Option.bind_eq_some_iff.1 h;refine CJ gC (fun s H=> ∃FP:Int,∃F2:Int,Iw=(FP,F2)∧s=[u,u,u,u,u,.int .i64 FP,.int .i64 F2,u,u,u,u,u,u,u,u,u,u,u,u,u,u,u,u,u,u,u,u,u,u,u,u,u,u,u,u,u,u,u,u,u,u,u,u,u]∧ap H (F)) (fun GM FN=> ?_) (fun s H hq=> ?_)
  ·refine BN fun HW Gd=> ?_;refine CF gC LM (fun x s H=>match x with|(Gm,FM,FF)=>s=[u,u,u,u,u,.int .i64 Gm,.int .i64 FM,u,u,u,u,u,u,.fz (a0.map Fu),.int .i64 (a0.length:Int),.int .i64 FF,u,u,u,u,u,u,u,u,u,u,u,u,u,u,u,u,u,u,u,u,u,u,u,u,u,u,u,u]∧ap H (F)) ⟨rfl,hS⟩ (fun x LH s H h LO hi HG F9=> ?_)
   obtain ⟨Gm,FM,FF⟩:=x;try dsimp only at hi
   obtain ⟨rfl,hS⟩:=hi;simp only [Ir] at h;refine BM fun JD GY=> ?_;refine Ca gC ?_;try simp only [W,Fp,Nat.reduceAdd]
   refine BT GY ?_;refine BM fun JS GU=> ?_;refine BR ?_;simp only [W];refine B_ h (fun hc h=> ?_) (fun hc h=> ?_)
   ·refine BO ?_;refine BT GU ?_;refine BM fun IC Gw=> ?_;refine BN fun KA Hd=> ?_;refine BM fun JM G3=> ?_;refine Ca gC ?_;try simp only [W,Fp,Nat.reduceAdd]
    refine Cy rfl rfl rfl (fun _=>rfl) h fun FK LG h=> ?_;try simp only [W,Fp,Gh,reduceIte,Nat.reduceAdd,Nat.reduceLeDiff]
    refine Cs hS rfl rfl fun J1 J2 H hS=> ?_;try simp only [W]
    refine Ct (a:= .agg [.int .i64 FK.Fv,.int .i64 FK.Fs]) (y' := .agg [.int .i64 FK.Fv,.int .i64 FK.Fs]) 0 hS rfl rfl rfl rfl rfl rfl rfl rfl fun H hS=> ?_
    try simp only [W]
    refine BT G3 ?_;refine BM fun JY Hf=> ?_;refine Ca gC ?_;try simp only [W,Fp,Nat.reduceAdd,Nat.reduceBEq,hS.var 0 rfl]
    refine BT Hf ?_;refine BM fun Nn I5=> ?_;refine Ca gC ?_;try simp only [W,Fp,Nat.reduceAdd,Nat.reduceBEq,hS.var 0 rfl]
    refine BT I5 ?_;refine BM fun Lw HZ=> ?_;refine Ca gC ?_;try simp only [W,Nat.reduceAdd]
    refine CE h fun F4 Qi h=> ?_;refine Qg Qi hS fun H hS=> ?_;try simp only [W]
    refine BT HZ ?_;refine BM fun Ky Ht=> ?_;refine Ca gC ?_;try simp only [W,Fp,Nat.reduceAdd]
    refine Cp _ h fun My T4 h=> ?_;try simp only [W]
    refine BT Ht ?_;refine Ca gC ?_;try simp only [W,Fp,Nat.reduceAdd]
    refine Cp _ h fun Mz T5 h=> ?_;try simp only [W]
    refine BX Hd ?_;refine BT Gw ?_;refine Ca gC ?_;try simp only [W,Fp,Nat.reduceAdd]
    exact CG F9 h ⟨rfl,(hS.Db 1 [] (by decide))⟩
   ·refine BQ ?_;refine BV GU ?_;try obtain rfl:=Option.some.inj h
    obtain rfl:=LO _ rfl;have h:(some (Gm,FM):Option (Int×Int))=some (Gm,FM):=rfl;refine CH F9 ?_;refine BZ Gd ?_;exact CK FN ⟨_,_,(Option.some.inj h).symm,rfl,hS⟩
  ·obtain ⟨FP,F2,rfl,rfl,hS⟩:=hq;replace h:=LN;try dsimp only at h
   refine BT FL ?_;refine BM fun M4 I2=> ?_;refine Ca gC ?_;try simp only [W,Nat.reduceAdd]
   refine BT I2 ?_;refine BP ?_;refine B6 Ft rfl rfl rfl ?_;try obtain rfl:=Option.some.inj h
   exact hP _ hS
theorem Nz {a0:List Int} {a1:List Int} {r:(Bool)} (h:Iu a0 a1=some r) {F:List It} {H:J} (hS:ap H (F)) {P:AV→J→Prop} (hP: ∀H',ap H' (F)→P (.bool r) H'):aw C 21 [.fz (a0.map (AV.int .i64)),.fz (a1.map (AV.int .i64))] H P:=by
 refine Cd gC (res:=[.tmp 4]) (n:=26) rfl rfl rfl rfl fun K0 Ft=> ?_;simp only [W,Nat.reduceSub,Nat.reduceAdd,List.replicate];unfold Iu at h;refine BM fun K1 Fx=> ?_;refine Ca gC ?_;try simp only [W,Nat.reduceAdd]
 refine BT Fx ?_;refine BM fun K2 zO=> ?_;refine BM fun K3 FO=> ?_;refine Ca gC ?_;try simp only [W,Fp,Nat.reduceAdd]
 refine BT FO ?_;refine BR ?_;simp only [W];refine B_ h (fun hc h=> ?_) (fun hc h=> ?_)
 ·refine BM fun K4 Gr=> ?_;refine Ca gC ?_;try simp only [W,Nat.reduceAdd]
  refine BT Gr ?_;refine BP ?_;refine BU zO ?_;refine B4 Ft rfl ?_;try obtain rfl:=Option.some.inj h
  exact hP _ hS
 ·refine BO ?_;refine BT zO ?_;refine BM fun K5 Gc=> ?_;refine BM fun K6 G5=> ?_;refine Ca gC ?_;try simp only [W,Fp,Nat.reduceAdd]
  refine BT G5 ?_;obtain ⟨Qj,Qk,NA⟩:=Option.bind_eq_some_iff.1 h;refine CJ gC (fun s H=>Qj=LR.next ()∧s=[u,u,u,u,u,u,u,u,u,u,u,u,u,u,u,u,u,u,u,u,u,u,u,u,u,u]∧ap H (F)) (fun I0 Gk=> ?_) (fun s H hq=> ?_)
  ·refine BN fun Le HF=> ?_;refine CF gC Qk (fun x s H=>s=[.fz (a0.map (AV.int .i64)),.fz (a1.map (AV.int .i64)),u,u,u,u,u,u,u,u,u,u,.int .i64 (a0.length:Int),.int .i64 x,u,u,u,u,u,u,u,u,u,u,u,u]∧ap H (F)) ⟨rfl,hS⟩ (fun G_ Ny s H h NB hi Lf Hn=> ?_)
   skip
   try dsimp only at hi
   obtain ⟨rfl,hS⟩:=hi;simp only [Kp] at h;refine BM fun Ho F1=> ?_;refine Ca gC ?_;try simp only [W,Fp,Nat.reduceAdd]
   refine BT F1 ?_;refine BM fun GM FN=> ?_;refine BR ?_;simp only [W];refine B_ h (fun hc h=> ?_) (fun hc h=> ?_)
   ·refine BO ?_;refine BT FN ?_;refine BM fun HW Gd=> ?_;refine BN fun HG F9=> ?_;refine BM fun I3 GN=> ?_;refine Ca gC ?_;try simp only [W,Nat.reduceAdd]
    refine BT GN ?_;refine BM fun JG G0=> ?_;refine Cc gC (by kernel_rfl) ?_
    try simp only [W,Fp,Nat.reduceAdd]
    refine Cy rfl rfl rfl (fun _=>rfl) h fun F6 LB h=> ?_;try simp only [W,Fp]
    refine Cy rfl rfl rfl (fun _=>rfl) h fun MA T6 h=> ?_;try simp only [W,Fp]
    refine BT G0 ?_;refine BR ?_;simp only [W];refine B_ h (fun hc h=> ?_) (fun hc h=> ?_)
    ·refine BM fun JS GU=> ?_;refine Ca gC ?_;try simp only [W,Nat.reduceAdd]
     refine BT GU ?_;refine BP ?_;refine B1 F9 ?_;refine BU Gd ?_;try obtain rfl:=Option.some.inj h
     obtain rfl:=NB _ rfl;have h:(some (LR.done false):Option (LR Unit (Bool)))=some (LR.done false):=rfl;refine CI Hn ?_;refine B1 HF ?_;try obtain rfl:=Option.some.inj h
     obtain rfl:=Option.some.inj NA;have h:(some false:Option (Bool))=some false:=rfl;refine CM Gk ?_;refine BU Gc ?_;refine B4 Ft rfl ?_;try obtain rfl:=Option.some.inj h
     exact hP _ hS
    ·refine BO ?_;refine BX F9 ?_;refine BT Gd ?_;refine Ca gC ?_;try simp only [W,Fp,Nat.reduceAdd]
     exact CG Hn h ⟨rfl,hS⟩
   ·refine BQ ?_;refine BV FN ?_;try obtain rfl:=Option.some.inj h
    obtain rfl:=NB _ rfl;have h:(some (LR.next ()):Option (LR Unit (Bool)))=some (LR.next ()):=rfl
    refine CH Hn ?_;refine BZ HF ?_;exact CK Gk ⟨(Option.some.inj h).symm,rfl,hS⟩
  ·obtain ⟨rfl,rfl,hS⟩:=hq;replace h:=NA;try dsimp only at h
   refine BT Gc ?_;refine BM fun JY Hf=> ?_;refine Ca gC ?_;try simp only [W,Nat.reduceAdd]
   refine BT Hf ?_;refine BP ?_;refine B4 Ft rfl ?_;try obtain rfl:=Option.some.inj h
   exact hP _ hS
theorem Ql {a0:List Int} {r:(List Fq)} (h:Ju a0=some r) {F:List It} {H:J} (hS:ap H (F)) {P:AV→J→Prop} (hP: ∀v6:AV,aJ v6→ ∀H',ap H' (⟨v6,2,r.map Fu⟩::F)→P (v6) H'):aw C 38 [.fz (a0.map (AV.int .u8))] H P:=by
 refine Cd gC (res:=[.tmp 2]) (n:=5) rfl rfl rfl rfl fun K0 Ft=> ?_;simp only [W,Nat.reduceSub,Nat.reduceAdd,List.replicate];unfold Ju at h;refine BM fun K1 Fx=> ?_;refine Ca gC ?_;try simp only [W,Nat.reduceAdd]
 refine BT Fx ?_;refine BM fun K2 zO=> ?_;refine Ca gC ?_;try simp only [W,Nat.reduceAdd]
 refine CE h fun b3 kV h=> ?_;refine Nb kV hS fun v4 Lp H hS=> ?_;try simp only [W]
 refine BT zO ?_;refine BP ?_;refine B4 Ft rfl ?_;try obtain rfl:=Option.some.inj h
 exact hP _ Lp _ hS
theorem Qm {a0:List Int} {a1:List Int} {r:(Bool)} (h:IY a0 a1=some r) {F:List It} {H:J} (hS:ap H (F)) {P:AV→J→Prop} (hP: ∀H',ap H' (F)→P (.bool r) H'):aw C 4 [.fz (a0.map (AV.int .u8)),.fz (a1.map (AV.int .u8))] H P:=by
 refine Cd gC (res:=[.tmp 4]) (n:=187) rfl rfl rfl rfl fun K0 Ft=> ?_;simp only [W,Nat.reduceSub,Nat.reduceAdd,List.replicate];unfold IY at h;refine BM fun K1 Fx=> ?_;refine Ca gC ?_;try simp only [W,Nat.reduceAdd]
 refine BT Fx ?_;refine BM fun K2 zO=> ?_;refine BM fun K3 FO=> ?_;refine Ca gC ?_;try simp only [W,Fp,Nat.reduceAdd]
 refine BT FO ?_;refine BR ?_;simp only [W];refine B_ h (fun hc h=> ?_) (fun hc h=> ?_)
 ·refine BM fun K4 Gr=> ?_;refine Ca gC ?_;try simp only [W,Nat.reduceAdd]
  refine BT Gr ?_;refine BP ?_;refine BU zO ?_;refine B4 Ft rfl ?_;try obtain rfl:=Option.some.inj h
  exact hP _ hS
 ·refine BO ?_;refine BT zO ?_;refine BM fun K5 Gc=> ?_;refine Ca gC ?_;try simp only [W,Nat.reduceAdd]
  refine CE h fun FI Hp h=> ?_;refine OV Hp hS fun GI II H hS=> ?_;try simp only [W]
  refine BT Gc ?_;refine BM fun K9 FJ=> ?_;refine Ca gC ?_;try simp only [W,Nat.reduceAdd]
  refine DQ (bC:=[[.sc],[.sc]]) (ys:=[.fz (FI.map Fu)]) h rfl (DC (Dz hS 0 rfl II (fun _=>rfl)) DB) fun GW MY h=>⟨.aA [.bool GW.1,.bool GW.2],Nf MY (ap.nil _) fun H hS=>DJ rfl (DF rfl (DF rfl (DE rfl))),⟨rfl,rfl,fun _=>rfl⟩,?_⟩;obtain ⟨Gb,Ha⟩:=GW;try dsimp only at h
  try simp only [W]
  refine BT FJ ?_;refine BM fun Iv Gi=> ?_;refine Ca gC ?_;try simp only [W,Nat.reduceAdd]
  refine DQ (bC:=[[.sc],[.sc]]) (ys:=[.fz (FI.map Fu)]) h rfl (DC (Dz hS 0 rfl II (fun _=>rfl)) DB) fun LS Qn h=>⟨.aA [.bool LS.1,.bool LS.2],O_ Qn (ap.nil _) fun H hS=>DJ rfl (DF rfl (DF rfl (DE rfl))),⟨rfl,rfl,fun _=>rfl⟩,?_⟩;obtain ⟨MD,ME⟩:=LS;try dsimp only at h
  try simp only [W]
  refine BT Gi ?_;refine BM fun GM FN=> ?_;refine Ca gC ?_;try simp only [W,Nat.reduceAdd,Nat.reduceBEq,List.contains_cons,Nat.reduceBEq,Bool.or_self]
  refine DR (bC:=[[.sl [.sc]],[.sc]]) (ys:=[.fz (FI.map Fu)]) h rfl (DC (Dz hS 0 rfl II (fun _=>rfl)) DB) fun FW JJ h=>⟨.aA [.own 1 (FW.1.map (AV.int .i64)),.bool FW.2],Nt JJ (ap.nil _) fun T7 Qo H hS=>DJ rfl (DH 0 hS rfl Qo (fun _ _=>by simp [aR,aO,dD]) fun H hS=>DF rfl (DE rfl)),(DX (DV (DT _ (fun _=>rfl) _) (DV rfl DU))),?_⟩
  refine DP ?_;refine DM hS (fun _ _=>rfl) (fun _=>rfl) fun GJ H LU hS=> ?_;refine DL (fun _=>rfl) ?_;refine DK ?_;try simp only [List.headD_cons]
  obtain ⟨GA,Gg⟩:=FW;try dsimp only at h
  try simp only [W]
  refine BT FN ?_;refine BM fun JS GU=> ?_;refine Ca gC ?_;try simp only [W,Nat.reduceAdd,Nat.reduceBEq,List.contains_cons,Nat.reduceBEq,Bool.or_self]
  refine DR (bC:=[[.sl [.sc]],[.sc]]) (ys:=[.fz (FI.map Fu)]) h rfl (DC (Dz hS 1 rfl II (fun _=>rfl)) DB) fun LV Qp h=>⟨.aA [.own 1 (LV.1.map (AV.int .i64)),.bool LV.2],Nw Qp (ap.nil _) fun T8 Qq H hS=>DJ rfl (DH 0 hS rfl Qq (fun _ _=>by simp [aR,aO,dD]) fun H hS=>DF rfl (DE rfl)),(DX (DV (DT _ (fun _=>rfl) _) (DV rfl DU))),?_⟩
  refine DP ?_;refine DM hS (fun _ _=>rfl) (fun _=>rfl) fun v30 H LK hS=> ?_;refine DL (fun _=>rfl) ?_;refine DK ?_;try simp only [List.headD_cons]
  obtain ⟨GQ,F7⟩:=LV;try dsimp only at h
  try simp only [W]
  refine BT GU ?_;refine BM fun JY Hf=> ?_;refine Ca gC ?_;try simp only [W,Nat.reduceAdd]
  refine DQ (bC:=[[.sc],[.sc],[.sc]]) (ys:=[.fz (FI.map Fu)]) h rfl (DC (Dz hS 2 rfl II (fun _=>rfl)) DB) fun HS LQ h=>⟨.aA [.int .i64 HS.1,.int .i64 HS.2.1,.bool HS.2.2],Nx LQ (ap.nil _) fun H hS=>DJ rfl (DF rfl (DF rfl (DF rfl (DE rfl)))),⟨rfl,rfl,fun _=>rfl⟩,?_⟩;obtain ⟨Gq,F4,MF⟩:=HS;try dsimp only at h
  try simp only [W]
  refine BT Hf ?_;refine BM fun JN G4=> ?_;refine Ca gC ?_;try simp only [W,Nat.reduceAdd]
  refine DQ (bC:=[[.sc],[.sc],[.sc]]) (ys:=[.fz (FI.map Fu)]) h rfl (DC (Dz hS 2 rfl II (fun _=>rfl)) DB) fun KI Qr h=>⟨.aA [.int .i64 KI.1,.int .i64 KI.2.1,.bool KI.2.2],Qh Qr (ap.nil _) fun H hS=>DJ rfl (DF rfl (DF rfl (DF rfl (DE rfl)))),⟨rfl,rfl,fun _=>rfl⟩,?_⟩;obtain ⟨F0,K_,Jm⟩:=KI;try dsimp only at h
  try simp only [W]
  refine BT G4 ?_;refine BM fun Pq KB=> ?_;refine BM fun Ng JR=> ?_;obtain ⟨Qs,h,Qt⟩:=Option.bind_eq_some_iff.1 h;refine CJ gC (fun s H=> ∃Jv:Bool,Qs=(Jv)∧s=(u:: .fz (a1.map (AV.int .u8))::u::u::u::GI:: .bool Gb:: .bool Ha::u::u::GJ:: .bool Gg::u::u:: .int .i64 Gq:: .int .i64 F4::u::u::u::u::u::u::u::u::u::u::u::u::u::u::u::u::u::u::u::u::u::u::u::u::u::u::u::u::u::u::u::u::u::u::u::u::u::u::u::u::u::u::u::u::u::u::u::u::u::u::u::u::u::u::u::u::u::u::u::u::u::u::u::u::u::u::u::u::u::u::u::u::u::u::u::u::u::u::u::u::u::u::u::u::u::u::u::u::u::u:: .bool Jv::u::u::u::u::u::u::u::u::u::u::u::u::u::u::u::u::u::u::u::u::u::u::u::u::u::u::u::u::u::u::u::u::u::u::u::u::u::u::u::u::u::u::u::u::u::u::u::u::u::u::u::u::u::u::u::u::u::u::u::u::u::u::u::u::u::u::u::u::u::u::u::u::u::u::u::u::u::u::u::u::[])∧ap H (⟨GI,2,FI.map Fu⟩::⟨GJ,1,GA.map (AV.int .i64)⟩::F)) (fun Ll GS=> ?_) (fun s H hq=> ?_)
  ·refine BM fun Ov HH=> ?_;refine Ca gC ?_;try simp only [W,Fp,Nat.reduceAdd]
   rw [Co _ _ _ _ (h:=rfl) rfl,tq];try simp only [W]
   refine Dh h (fun hc h=> ?_) (fun hc h=> ?_)
   ·try simp only [W,hc]
    refine BT HH ?_;refine EL (s' :=(u:: .fz (a1.map (AV.int .u8))::u::u::u::GI:: .bool Gb:: .bool Ha::u::u::GJ:: .bool Gg::u::u:: .int .i64 Gq:: .int .i64 F4::u::u::u::u::u::u::u::u::u::u::u::u::u::u::u::u::u::u::u::u::u::u::u::u::u::u::u::u::u::u::u::u::u::u::u::u::u::u::u::u::u::u::u::u::u::u::u::u::u::u::u::u::u::u::u::u::u::u::u::u::u::u::u::u::u::u::u::u::u::u::u::u::u::u::u::u::u::u::u::u::u::u::u::u::u::u::u::u::u::u:: .bool true::u::u::u::u::u::u::u::u::u::u::u::u::u::u::u::u::u::u::u::u::u::u::u::u::u::u::u::u::u::u::u::u::u::u::u::u::u::u::u::u::u::u::u::u::u::u::u::u::u::u::u::u::u::u::u::u::u::u::u::u::u::u::u::u::u::u::u::u::u::u::u::u::u::u::u::u::u::u::u::u::[])) rfl ?_
    exact CK GS ⟨_,(Option.some.inj h).symm,rfl,(hS.Db 3 [2,1] (by decide))⟩
   ·try simp only [W,Fp,hc]
    rw [Co _ _ _ _ (h:=rfl) rfl,tq];try simp only [W,reduceIte,Bool.false_eq_true]
    refine Dh h (fun hc h=> ?_) (fun hc h=> ?_)
    ·try simp only [W,hc]
     refine BT HH ?_;refine EL (s' :=(u:: .fz (a1.map (AV.int .u8))::u::u::u::GI:: .bool Gb:: .bool Ha::u::u::GJ:: .bool Gg::u::u:: .int .i64 Gq:: .int .i64 F4::u::u::u::u::u::u::u::u::u::u::u::u::u::u::u::u::u::u::u::u::u::u::u::u::u::u::u::u::u::u::u::u::u::u::u::u::u::u::u::u::u::u::u::u::u::u::u::u::u::u::u::u::u::u::u::u::u::u::u::u::u::u::u::u::u::u::u::u::u::u::u::u::u::u::u::u::u::u::u::u::u::u::u::u::u::u::u::u::u::u:: .bool true::u::u::u::u::u::u::u::u::u::u::u::u::u::u::u::u::u::u::u::u::u::u::u::u::u::u::u::u::u::u::u::u::u::u::u::u::u::u::u::u::u::u::u::u::u::u::u::u::u::u::u::u::u::u::u::u::u::u::u::u::u::u::u::u::u::u::u::u::u::u::u::u::u::u::u::u::u::u::u::u::[])) rfl ?_
     exact CK GS ⟨_,(Option.some.inj h).symm,rfl,(hS.Db 3 [2,1] (by decide))⟩
    ·try simp only [W,Fp,hc]
     rw [Co _ _ _ _ (h:=rfl) rfl,tq];try simp only [W,reduceIte,Bool.false_eq_true]
     refine Dh h (fun hc h=> ?_) (fun hc h=> ?_)
     ·try simp only [W,hc]
      refine BT HH ?_;refine EL (s' :=(u:: .fz (a1.map (AV.int .u8))::u::u::u::GI:: .bool Gb:: .bool Ha::u::u::GJ:: .bool Gg::u::u:: .int .i64 Gq:: .int .i64 F4::u::u::u::u::u::u::u::u::u::u::u::u::u::u::u::u::u::u::u::u::u::u::u::u::u::u::u::u::u::u::u::u::u::u::u::u::u::u::u::u::u::u::u::u::u::u::u::u::u::u::u::u::u::u::u::u::u::u::u::u::u::u::u::u::u::u::u::u::u::u::u::u::u::u::u::u::u::u::u::u::u::u::u::u::u::u::u::u::u::u:: .bool true::u::u::u::u::u::u::u::u::u::u::u::u::u::u::u::u::u::u::u::u::u::u::u::u::u::u::u::u::u::u::u::u::u::u::u::u::u::u::u::u::u::u::u::u::u::u::u::u::u::u::u::u::u::u::u::u::u::u::u::u::u::u::u::u::u::u::u::u::u::u::u::u::u::u::u::u::u::u::u::u::[])) rfl ?_
      exact CK GS ⟨_,(Option.some.inj h).symm,rfl,(hS.Db 3 [2,1] (by decide))⟩
     ·try simp only [W,hc]
      refine DQ (bC:=[[.sc]]) (ys:=[.fz (GA.map (AV.int .i64)),.fz (GQ.map (AV.int .i64))]) h rfl (DC (Dz hS 1 rfl LU (fun _=>rfl)) (DC (Dz hS 0 rfl LK (fun _=>rfl)) DB)) fun La Qu h=>⟨.bool La,Nz Qu (ap.nil _) fun H hS=>DJ rfl (DF rfl (DE rfl)),⟨rfl,rfl,fun _=>rfl⟩,?_⟩;try simp only [W,reduceIte,Bool.false_eq_true]
      refine Dh h (fun hc h=> ?_) (fun hc h=> ?_)
      ·try simp only [W,hc]
       refine BT HH ?_;refine EL (s' :=(u:: .fz (a1.map (AV.int .u8))::u::u::u::GI:: .bool Gb:: .bool Ha::u::u::GJ:: .bool Gg::u::u:: .int .i64 Gq:: .int .i64 F4::u::u::u::u::u::u::u::u::u::u::u::u::u::u::u::u::u::u::u::u::u::u::u::u::u::u::u::u::u::u::u::u::u::u::u::u::u::u::u::u::u::u::u::u::u::u::u::u::u::u::u::u::u::u::u::u::u::u::u::u::u::u::u::u::u::u::u::u::u::u::u::u::u::u::u::u::u::u::u::u::u::u::u::u::u::u::u::u::u::u:: .bool true::u::u::u::u::u::u::u::u::u::u::u::u::u::u::u::u::u::u::u::u::u::u::u::u::u::u::u::u::u::u::u::u::u::u::u::u::u::u::u::u::u::u::u::u::u::u::u::u::u::u::u::u::u::u::u::u::u::u::u::u::u::u::u::u::u::u::u::u::u::u::u::u::u::u::u::u::u::u::u::u::[])) rfl ?_
       exact CK GS ⟨_,(Option.some.inj h).symm,rfl,(hS.Db 3 [2,1] (by decide))⟩
      ·try simp only [W,Fp,hc]
       rw [Co _ _ _ _ (h:=rfl) rfl,tq];try simp only [W,reduceIte,Bool.false_eq_true]
       refine Dh h (fun hc h=> ?_) (fun hc h=> ?_)
       ·try simp only [W,hc]
        refine BT HH ?_;refine EL (s' :=(u:: .fz (a1.map (AV.int .u8))::u::u::u::GI:: .bool Gb:: .bool Ha::u::u::GJ:: .bool Gg::u::u:: .int .i64 Gq:: .int .i64 F4::u::u::u::u::u::u::u::u::u::u::u::u::u::u::u::u::u::u::u::u::u::u::u::u::u::u::u::u::u::u::u::u::u::u::u::u::u::u::u::u::u::u::u::u::u::u::u::u::u::u::u::u::u::u::u::u::u::u::u::u::u::u::u::u::u::u::u::u::u::u::u::u::u::u::u::u::u::u::u::u::u::u::u::u::u::u::u::u::u::u:: .bool true::u::u::u::u::u::u::u::u::u::u::u::u::u::u::u::u::u::u::u::u::u::u::u::u::u::u::u::u::u::u::u::u::u::u::u::u::u::u::u::u::u::u::u::u::u::u::u::u::u::u::u::u::u::u::u::u::u::u::u::u::u::u::u::u::u::u::u::u::u::u::u::u::u::u::u::u::u::u::u::u::[])) rfl ?_
        exact CK GS ⟨_,(Option.some.inj h).symm,rfl,(hS.Db 3 [2,1] (by decide))⟩
       ·try simp only [W,Fp,reduceIte,Bool.false_eq_true,hc]
        refine Dh h (fun hc h=> ?_) (fun hc h=> ?_)
        ·try simp only [W,hc]
         refine BT HH ?_;refine EL (s' :=(u:: .fz (a1.map (AV.int .u8))::u::u::u::GI:: .bool Gb:: .bool Ha::u::u::GJ:: .bool Gg::u::u:: .int .i64 Gq:: .int .i64 F4::u::u::u::u::u::u::u::u::u::u::u::u::u::u::u::u::u::u::u::u::u::u::u::u::u::u::u::u::u::u::u::u::u::u::u::u::u::u::u::u::u::u::u::u::u::u::u::u::u::u::u::u::u::u::u::u::u::u::u::u::u::u::u::u::u::u::u::u::u::u::u::u::u::u::u::u::u::u::u::u::u::u::u::u::u::u::u::u::u::u:: .bool true::u::u::u::u::u::u::u::u::u::u::u::u::u::u::u::u::u::u::u::u::u::u::u::u::u::u::u::u::u::u::u::u::u::u::u::u::u::u::u::u::u::u::u::u::u::u::u::u::u::u::u::u::u::u::u::u::u::u::u::u::u::u::u::u::u::u::u::u::u::u::u::u::u::u::u::u::u::u::u::u::[])) rfl ?_
         exact CK GS ⟨_,(Option.some.inj h).symm,rfl,(hS.Db 3 [2,1] (by decide))⟩
        ·try simp only [W,Fp,reduceIte,Bool.false_eq_true,hc]
         refine BT HH ?_;refine EL (s' :=(u:: .fz (a1.map (AV.int .u8))::u::u::u::GI:: .bool Gb:: .bool Ha::u::u::GJ:: .bool Gg::u::u:: .int .i64 Gq:: .int .i64 F4::u::u::u::u::u::u::u::u::u::u::u::u::u::u::u::u::u::u::u::u::u::u::u::u::u::u::u::u::u::u::u::u::u::u::u::u::u::u::u::u::u::u::u::u::u::u::u::u::u::u::u::u::u::u::u::u::u::u::u::u::u::u::u::u::u::u::u::u::u::u::u::u::u::u::u::u::u::u::u::u::u::u::u::u::u::u::u::u::u::u:: .bool (F4 !=K_)::u::u::u::u::u::u::u::u::u::u::u::u::u::u::u::u::u::u::u::u::u::u::u::u::u::u::u::u::u::u::u::u::u::u::u::u::u::u::u::u::u::u::u::u::u::u::u::u::u::u::u::u::u::u::u::u::u::u::u::u::u::u::u::u::u::u::u::u::u::u::u::u::u::u::u::u::u::u::u::u::[])) rfl ?_
         exact CK GS ⟨_,(Option.some.inj h).symm,rfl,(hS.Db 3 [2,1] (by decide))⟩
  ·obtain ⟨Jv,FH,rfl,hS⟩:=hq;obtain rfl:=FH.symm;replace h:=Qt;try dsimp only at h
   refine BT JR ?_;refine BR ?_;simp only [W];refine B_ h (fun hc h=> ?_) (fun hc h=> ?_)
   ·refine BM fun Nq IH=> ?_;refine Ca gC ?_;try simp only [W,Nat.reduceAdd]
    refine BT IH ?_;refine BP ?_;refine BU KB ?_;refine B4 Ft rfl ?_;try obtain rfl:=Option.some.inj h
    exact hP _ (hS.Db 2 [] (by decide))
   ·refine BO ?_;refine BT KB ?_;refine BM fun PF KD=> ?_;refine BM fun PG Nr=> ?_;obtain ⟨Qv,h,Qw⟩:=Option.bind_eq_some_iff.1 h;refine CJ gC (fun s H=> ∃Jw:Bool,Qv=(Jw)∧s=(u:: .fz (a1.map (AV.int .u8))::u::u::u::GI:: .bool Gb::u::u::u::GJ::u::u::u:: .int .i64 Gq:: .int .i64 F4::u::u::u::u::u::u::u::u::u::u::u::u::u::u::u::u::u::u::u::u::u::u::u::u::u::u::u::u::u::u::u::u::u::u::u::u::u::u::u::u::u::u::u::u::u::u::u::u::u::u::u::u::u::u::u::u::u::u::u::u::u::u::u::u::u::u::u::u::u::u::u::u::u::u::u::u::u::u::u::u::u::u::u::u::u::u::u::u::u::u::u::u::u::u:: .bool Jw::u::u::u::u::u::u::u::u::u::u::u::u::u::u::u::u::u::u::u::u::u::u::u::u::u::u::u::u::u::u::u::u::u::u::u::u::u::u::u::u::u::u::u::u::u::u::u::u::u::u::u::u::u::u::u::u::u::u::u::u::u::u::u::u::u::u::u::u::u::u::u::u::u::u::u::u::[])∧ap H (⟨GI,2,FI.map Fu⟩::⟨GJ,1,GA.map (AV.int .i64)⟩::F)) (fun PH KE=> ?_) (fun s H hq=> ?_)
    ·refine BM fun Ns I6=> ?_;refine Ca gC ?_;try simp only [W,Nat.reduceAdd]
     refine Dh h (fun hc h=> ?_) (fun hc h=> ?_)
     ·try simp only [W,reduceIte,hc]
      refine BT I6 ?_;refine EL (s' :=(u:: .fz (a1.map (AV.int .u8))::u::u::u::GI:: .bool Gb::u::u::u::GJ::u::u::u:: .int .i64 Gq:: .int .i64 F4::u::u::u::u::u::u::u::u::u::u::u::u::u::u::u::u::u::u::u::u::u::u::u::u::u::u::u::u::u::u::u::u::u::u::u::u::u::u::u::u::u::u::u::u::u::u::u::u::u::u::u::u::u::u::u::u::u::u::u::u::u::u::u::u::u::u::u::u::u::u::u::u::u::u::u::u::u::u::u::u::u::u::u::u::u::u::u::u::u::u::u::u::u::u:: .bool Gg::u::u::u::u::u::u::u::u::u::u::u::u::u::u::u::u::u::u::u::u::u::u::u::u::u::u::u::u::u::u::u::u::u::u::u::u::u::u::u::u::u::u::u::u::u::u::u::u::u::u::u::u::u::u::u::u::u::u::u::u::u::u::u::u::u::u::u::u::u::u::u::u::u::u::u::u::[])) rfl ?_
      exact CK KE ⟨_,(Option.some.inj h).symm,rfl,hS⟩
     ·try simp only [W,hc]
      refine BT I6 ?_;refine EL (s' :=(u:: .fz (a1.map (AV.int .u8))::u::u::u::GI:: .bool Gb::u::u::u::GJ::u::u::u:: .int .i64 Gq:: .int .i64 F4::u::u::u::u::u::u::u::u::u::u::u::u::u::u::u::u::u::u::u::u::u::u::u::u::u::u::u::u::u::u::u::u::u::u::u::u::u::u::u::u::u::u::u::u::u::u::u::u::u::u::u::u::u::u::u::u::u::u::u::u::u::u::u::u::u::u::u::u::u::u::u::u::u::u::u::u::u::u::u::u::u::u::u::u::u::u::u::u::u::u::u::u::u::u:: .bool false::u::u::u::u::u::u::u::u::u::u::u::u::u::u::u::u::u::u::u::u::u::u::u::u::u::u::u::u::u::u::u::u::u::u::u::u::u::u::u::u::u::u::u::u::u::u::u::u::u::u::u::u::u::u::u::u::u::u::u::u::u::u::u::u::u::u::u::u::u::u::u::u::u::u::u::u::[])) rfl ?_
      exact CK KE ⟨_,(Option.some.inj h).symm,rfl,hS⟩
    ·obtain ⟨Jw,FH,rfl,hS⟩:=hq;obtain rfl:=FH.symm;replace h:=Qw;try dsimp only at h
     refine BT Nr ?_;obtain ⟨Qx,h,NC⟩:=Option.bind_eq_some_iff.1 h;refine CJ gC (fun s H=>Qx=LR.next ()∧s=(u:: .fz (a1.map (AV.int .u8))::u::u::u::u::u::u::u::u::u::u::u::u::u::u::u::u::u::u::u::u::u::u::u::u::u::u::u::u::u::u::u::u::u::u::u::u::u::u::u::u::u::u::u::u::u::u::u::u::u::u::u::u::u::u::u::u::u::u::u::u::u::u::u::u::u::u::u::u::u::u::u::u::u::u::u::u::u::u::u::u::u::u::u::u::u::u::u::u::u::u::u::u::u::u::u::u::u::u::u::u::u::u::u::u::u::u::u::u::u::u::u::u::u::u::u::u::u::u::u::u::u::u::u::u::u::u::u::u::u::u::u::u::u::u::u::u::u::u::u::u::u::u::u::u::u::u::u::u::u::u::u::u::u::u::u::u::u::u::u::u::u::u::u::u::u::u::u::u::u::u::u::u::u::u::u::u::u::u::u::u::u::u::u::u::u::[])∧ap H (F)) (fun T9 LW=> ?_) (fun s H hq=> ?_)
     ·refine BM fun PM JZ=> ?_;refine BR ?_;simp only [W];refine B_ h (fun hc h=> ?_) (fun hc h=> ?_)
      ·refine BM fun PN LI=> ?_;refine Ca gC ?_;try simp only [W,Nat.reduceAdd]
       refine BT LI ?_;refine BM fun T_ Qy=> ?_;refine BM fun P6 LP=> ?_;refine Ca gC ?_;try simp only [W,Fp,Nat.reduceAdd]
       refine uJ 1 hS rfl LU rfl ?_;try simp only [W]
       refine BT LP ?_;obtain ⟨Qz,QA,QB⟩:=Option.bind_eq_some_iff.1 h;refine CJ gC (fun s H=> ∃GL:List Fq,Qz=(GL)∧ ∃KJ:AV,aJ KJ∧s=(u:: .fz (a1.map (AV.int .u8))::u::u::u::u:: .bool Gb::u::u::u::u::u::u::u:: .int .i64 Gq:: .int .i64 F4::u::u::u::u::KJ::u::u::u::u::u::u::u::u::u::u::u::u::u::u::u::u::u::u::u::u::u::u::u::u::u::u::u::u::u::u::u::u::u::u::u::u::u::u::u::u::u::u::u::u::u::u::u::u::u::u::u::u::u::u::u::u::u::u::u::u::u::u::u::u::u::u::u::u::u::u::u::u::u::u::u::u::u::u::u::u::u::u::u::u::u::u::u::u::u::u::u::u::u::u::u::u::u::u::u::u::u::u::u::u::u::u::u::u::u::u::u::u::u::u::u::u::u::u::u::u::u::u::u::u::u::u::u::u::u::u::u::u::u::u::u::u::u::u::u::u::u::u::u::u::u::u::u::u::u::u::u::u::u::u::u::u::u::u::u::u::u::u::u::u::u::u::[])∧ap H (⟨KJ,2,GL.map Fu⟩::F)) (fun Ua QC=> ?_) (fun s H hq=> ?_)
       ·refine BN fun Ub QD=> ?_;refine CF gC QA (fun x s H=>match x with|(HT,IX)=> ∃KK:AV,aJ KK∧s=(u:: .fz (a1.map (AV.int .u8))::u::u::u::GI:: .bool Gb::u::u::u::u::u::u::u:: .int .i64 Gq:: .int .i64 F4::u::u::u::u::KK::u::u::u::u::u::u::u::u::u::u::u::u::u::u::u::u::u::u::u::u::u::u::u::u::u::u::u::u::u::u::u::u::u::u::u::u::u::u::u::u::u::u::u::u::u::u::u::u::u::u::u::u::u::u::u::u::u::u::u::u::u::u::u::u::u::u::u::u::u::u::u::u::u::u::u::u::u::u::u::u::u::u::u::u::u::u::u::u::u::u::GJ:: .int .i64 (GA.length:Int):: .int .i64 IX::u::u::u::u::u::u::u::u::u::u::u::u::u::u::u::u::u::u::u::u::u::u::u::u::u::u::u::u::u::u::u::u::u::u::u::u::u::u::u::u::u::u::u::u::u::u::u::u::u::u::u::u::u::u::u::u::u::u::u::u::u::u::u::u::u::u::u::u::u::u::u::u::u::[])∧ap H (⟨GI,2,FI.map Fu⟩::⟨KK,2,HT.map Fu⟩::⟨GJ,1,GA.map (AV.int .i64)⟩::F)) ⟨_,lP,rfl,((hS.u2 2).Db 3 [1,0,2] (by decide))⟩ (fun x Uc s H h QE hi OI JF=> ?_)
        obtain ⟨HT,IX⟩:=x;try dsimp only at hi
        obtain ⟨KK,ND,rfl,hS⟩:=hi;simp only [Kq] at h;refine BM fun Ud QF=> ?_;refine Ca gC ?_;try simp only [W,Fp,Nat.reduceAdd]
        refine BT QF ?_;refine BM fun Ue NE=> ?_;refine BR ?_;simp only [W];refine B_ h (fun hc h=> ?_) (fun hc h=> ?_)
        ·refine BO ?_;refine BT NE ?_;refine BM fun Uf QH=> ?_;refine BN fun Ug QI=> ?_;refine BM fun Uh QJ=> ?_;refine Ca gC ?_;try simp only [W,Fp,Nat.reduceAdd]
         refine Cz 2 hS rfl rfl rfl rfl rfl h (fun MB Ui Uj Uk QK h QL=> ?_) LU.ne;obtain ⟨Ul,QM,QN⟩:=hS.elem 2 rfl QL QK;try simp only [W,Fp,QM,QN]
         refine BT QJ ?_;refine Ca gC ?_;try simp only [W,Fp,Nat.reduceAdd]
         refine Cz 0 hS rfl rfl rfl rfl rfl h (fun KZ Um Un Uo QO h QP=> ?_) II.ne;obtain ⟨Uq,QQ,QR⟩:=hS.elem 0 rfl QP QO;try simp only [W,Fp,Gh,reduceIte,Nat.reduceAdd,Nat.reduceLeDiff,QQ,QR]
         refine CD (el:=([KZ]:List Fq).map Fu) hS rfl rfl rfl rfl rfl rfl rfl fun ON H Lo hS=> ?_;try simp only [W,Fp]
         refine CW (l:=HT) (c:=Fu) 2 hS rfl ND rfl rfl rfl (hS.g6 0 rfl Lo) (fun _=>rfl) rfl h fun Ur H MC QS hm h hS=> ?_;try simp only [W]
         refine BX QI ?_;refine BT QH ?_;refine Ca gC ?_;try simp only [W,Fp,Nat.reduceAdd]
         exact CG JF h ⟨_,QS,rfl,(hS.Db 4 [1,2,3] (by decide))⟩
        ·refine BQ ?_;refine BV NE ?_;try obtain rfl:=Option.some.inj h
         obtain rfl:=QE _ rfl;have h:(some (HT):Option ((List Fq)))=some (HT):=rfl;refine CH JF ?_;refine BZ QD ?_;exact CK QC ⟨_,(Option.some.inj h).symm,_,ND,rfl,(hS.Db 3 [1] (by decide))⟩
       ·obtain ⟨GL,FH,KJ,NF,rfl,hS⟩:=hq;obtain rfl:=FH.symm;replace h:=QB;try dsimp only at h
        refine BT Qy ?_;refine BM fun Us QT=> ?_;refine Ca gC ?_;try simp only [W,Nat.reduceAdd]
        refine DQ (bC:=[[.sc],[.sc]]) (ys:=[.fz (GL.map Fu)]) h rfl (DC (Dz hS 0 rfl NF (fun _=>rfl)) DB) fun HO QU h=>⟨.aA [.bool HO.1,.bool HO.2],Nf QU (ap.nil _) fun H hS=>DJ rfl (DF rfl (DF rfl (DE rfl))),⟨rfl,rfl,fun _=>rfl⟩,?_⟩;obtain ⟨If,Lb⟩:=HO;try dsimp only at h
        try simp only [W]
        refine BT QT ?_;refine BM fun Ut QV=> ?_;refine Ca gC ?_;try simp only [W,Nat.reduceAdd]
        refine DQ (bC:=[[.sc],[.sc],[.sc]]) (ys:=[.fz (GL.map Fu)]) h rfl (DC (Dz hS 0 rfl NF (fun _=>rfl)) DB) fun KL QW h=>⟨.aA [.int .i64 KL.1,.int .i64 KL.2.1,.bool KL.2.2],Nx QW (ap.nil _) fun H hS=>DJ rfl (DF rfl (DF rfl (DF rfl (DE rfl)))),⟨rfl,rfl,fun _=>rfl⟩,?_⟩;obtain ⟨Lc,Jx,Ld⟩:=KL;try dsimp only at h
        try simp only [W]
        refine BT QV ?_;refine BM fun Uu QX=> ?_;obtain ⟨QY,h,QZ⟩:=Option.bind_eq_some_iff.1 h;refine CJ gC (fun s H=> ∃Jy:Bool,QY=(Jy)∧s=(u:: .fz (a1.map (AV.int .u8))::u::u::u::u::u::u::u::u::u::u::u::u::u::u::u::u::u::u::u::u::u::u::u::u::u::u::u::u::u::u::u::u::u::u::u::u::u::u::u::u::u::u::u::u::u::u::u::u::u::u::u::u::u::u::u::u::u::u::u::u::u::u::u::u::u::u::u::u::u::u::u::u::u::u::u::u::u::u::u::u::u::u::u::u::u::u::u::u::u::u::u::u::u::u::u::u::u::u::u::u::u::u::u::u::u::u::u::u::u::u::u::u::u::u::u::u::u::u::u::u::u::u::u::u::u::u::u::u::u::u::u::u::u::u::u::u::u::u::u::u::u::u::u::u::u::u::u::u::u::u::u::u::u::u::u::u::u::u::u::u::u::u::u::u:: .bool Jy::u::u::u::u::u::u::u::u::u::u::u::u::u::u::u::u::u::u::u::u::[])∧ap H (F)) (fun Uv HK=> ?_) (fun s H hq=> ?_)
        ·refine BM fun Uw HL=> ?_;refine Ca gC ?_;try simp only [W,Nat.reduceAdd]
         refine Dh h (fun hc h=> ?_) (fun hc h=> ?_)
         ·try simp only [W,hc]
          refine BT HL ?_;refine EL (s' :=(u:: .fz (a1.map (AV.int .u8))::u::u::u::u::u::u::u::u::u::u::u::u::u::u::u::u::u::u::u::u::u::u::u::u::u::u::u::u::u::u::u::u::u::u::u::u::u::u::u::u::u::u::u::u::u::u::u::u::u::u::u::u::u::u::u::u::u::u::u::u::u::u::u::u::u::u::u::u::u::u::u::u::u::u::u::u::u::u::u::u::u::u::u::u::u::u::u::u::u::u::u::u::u::u::u::u::u::u::u::u::u::u::u::u::u::u::u::u::u::u::u::u::u::u::u::u::u::u::u::u::u::u::u::u::u::u::u::u::u::u::u::u::u::u::u::u::u::u::u::u::u::u::u::u::u::u::u::u::u::u::u::u::u::u::u::u::u::u::u::u::u::u::u::u:: .bool true::u::u::u::u::u::u::u::u::u::u::u::u::u::u::u::u::u::u::u::u::[])) rfl ?_
          exact CK HK ⟨_,(Option.some.inj h).symm,rfl,(hS.Db 1 [] (by decide))⟩
         ·try simp only [W,hc]
          refine Dh h (fun hc h=> ?_) (fun hc h=> ?_)
          ·try simp only [W,reduceIte,Bool.false_eq_true,hc]
           refine Dh h (fun hc h=> ?_) (fun hc h=> ?_)
           ·try simp only [W,hc]
            refine BT HL ?_;refine EL (s' :=(u:: .fz (a1.map (AV.int .u8))::u::u::u::u::u::u::u::u::u::u::u::u::u::u::u::u::u::u::u::u::u::u::u::u::u::u::u::u::u::u::u::u::u::u::u::u::u::u::u::u::u::u::u::u::u::u::u::u::u::u::u::u::u::u::u::u::u::u::u::u::u::u::u::u::u::u::u::u::u::u::u::u::u::u::u::u::u::u::u::u::u::u::u::u::u::u::u::u::u::u::u::u::u::u::u::u::u::u::u::u::u::u::u::u::u::u::u::u::u::u::u::u::u::u::u::u::u::u::u::u::u::u::u::u::u::u::u::u::u::u::u::u::u::u::u::u::u::u::u::u::u::u::u::u::u::u::u::u::u::u::u::u::u::u::u::u::u::u::u::u::u::u::u::u:: .bool true::u::u::u::u::u::u::u::u::u::u::u::u::u::u::u::u::u::u::u::u::[])) rfl ?_
            exact CK HK ⟨_,(Option.some.inj h).symm,rfl,(hS.Db 1 [] (by decide))⟩
           ·try simp only [W,Fp,reduceIte,Bool.false_eq_true,hc]
            refine Dh h (fun hc h=> ?_) (fun hc h=> ?_)
            ·try simp only [W,hc]
             refine BT HL ?_;refine EL (s' :=(u:: .fz (a1.map (AV.int .u8))::u::u::u::u::u::u::u::u::u::u::u::u::u::u::u::u::u::u::u::u::u::u::u::u::u::u::u::u::u::u::u::u::u::u::u::u::u::u::u::u::u::u::u::u::u::u::u::u::u::u::u::u::u::u::u::u::u::u::u::u::u::u::u::u::u::u::u::u::u::u::u::u::u::u::u::u::u::u::u::u::u::u::u::u::u::u::u::u::u::u::u::u::u::u::u::u::u::u::u::u::u::u::u::u::u::u::u::u::u::u::u::u::u::u::u::u::u::u::u::u::u::u::u::u::u::u::u::u::u::u::u::u::u::u::u::u::u::u::u::u::u::u::u::u::u::u::u::u::u::u::u::u::u::u::u::u::u::u::u::u::u::u::u::u:: .bool true::u::u::u::u::u::u::u::u::u::u::u::u::u::u::u::u::u::u::u::u::[])) rfl ?_
             exact CK HK ⟨_,(Option.some.inj h).symm,rfl,(hS.Db 1 [] (by decide))⟩
            ·try simp only [W,reduceIte,Bool.false_eq_true,hc]
             refine Dh h (fun hc h=> ?_) (fun hc h=> ?_)
             ·try simp only [W,hc]
              refine BT HL ?_;refine EL (s' :=(u:: .fz (a1.map (AV.int .u8))::u::u::u::u::u::u::u::u::u::u::u::u::u::u::u::u::u::u::u::u::u::u::u::u::u::u::u::u::u::u::u::u::u::u::u::u::u::u::u::u::u::u::u::u::u::u::u::u::u::u::u::u::u::u::u::u::u::u::u::u::u::u::u::u::u::u::u::u::u::u::u::u::u::u::u::u::u::u::u::u::u::u::u::u::u::u::u::u::u::u::u::u::u::u::u::u::u::u::u::u::u::u::u::u::u::u::u::u::u::u::u::u::u::u::u::u::u::u::u::u::u::u::u::u::u::u::u::u::u::u::u::u::u::u::u::u::u::u::u::u::u::u::u::u::u::u::u::u::u::u::u::u::u::u::u::u::u::u::u::u::u::u::u::u:: .bool true::u::u::u::u::u::u::u::u::u::u::u::u::u::u::u::u::u::u::u::u::[])) rfl ?_
              exact CK HK ⟨_,(Option.some.inj h).symm,rfl,(hS.Db 1 [] (by decide))⟩
             ·try simp only [W,Fp,reduceIte,Bool.false_eq_true,hc]
              refine Dh h (fun hc h=> ?_) (fun hc h=> ?_)
              ·try simp only [W,hc]
               refine BT HL ?_;refine EL (s' :=(u:: .fz (a1.map (AV.int .u8))::u::u::u::u::u::u::u::u::u::u::u::u::u::u::u::u::u::u::u::u::u::u::u::u::u::u::u::u::u::u::u::u::u::u::u::u::u::u::u::u::u::u::u::u::u::u::u::u::u::u::u::u::u::u::u::u::u::u::u::u::u::u::u::u::u::u::u::u::u::u::u::u::u::u::u::u::u::u::u::u::u::u::u::u::u::u::u::u::u::u::u::u::u::u::u::u::u::u::u::u::u::u::u::u::u::u::u::u::u::u::u::u::u::u::u::u::u::u::u::u::u::u::u::u::u::u::u::u::u::u::u::u::u::u::u::u::u::u::u::u::u::u::u::u::u::u::u::u::u::u::u::u::u::u::u::u::u::u::u::u::u::u::u::u:: .bool true::u::u::u::u::u::u::u::u::u::u::u::u::u::u::u::u::u::u::u::u::[])) rfl ?_
               exact CK HK ⟨_,(Option.some.inj h).symm,rfl,(hS.Db 1 [] (by decide))⟩
              ·try simp only [W,Fp,reduceIte,Bool.false_eq_true,hc]
               refine BT HL ?_;refine EL (s' :=(u:: .fz (a1.map (AV.int .u8))::u::u::u::u::u::u::u::u::u::u::u::u::u::u::u::u::u::u::u::u::u::u::u::u::u::u::u::u::u::u::u::u::u::u::u::u::u::u::u::u::u::u::u::u::u::u::u::u::u::u::u::u::u::u::u::u::u::u::u::u::u::u::u::u::u::u::u::u::u::u::u::u::u::u::u::u::u::u::u::u::u::u::u::u::u::u::u::u::u::u::u::u::u::u::u::u::u::u::u::u::u::u::u::u::u::u::u::u::u::u::u::u::u::u::u::u::u::u::u::u::u::u::u::u::u::u::u::u::u::u::u::u::u::u::u::u::u::u::u::u::u::u::u::u::u::u::u::u::u::u::u::u::u::u::u::u::u::u::u::u::u::u::u::u:: .bool (Jx !=F4)::u::u::u::u::u::u::u::u::u::u::u::u::u::u::u::u::u::u::u::u::[])) rfl ?_
               exact CK HK ⟨_,(Option.some.inj h).symm,rfl,(hS.Db 1 [] (by decide))⟩
          ·try simp only [W,reduceIte,Bool.false_eq_true,hc]
           refine Dh h (fun hc h=> ?_) (fun hc h=> ?_)
           ·try simp only [W,hc]
            refine BT HL ?_;refine EL (s' :=(u:: .fz (a1.map (AV.int .u8))::u::u::u::u::u::u::u::u::u::u::u::u::u::u::u::u::u::u::u::u::u::u::u::u::u::u::u::u::u::u::u::u::u::u::u::u::u::u::u::u::u::u::u::u::u::u::u::u::u::u::u::u::u::u::u::u::u::u::u::u::u::u::u::u::u::u::u::u::u::u::u::u::u::u::u::u::u::u::u::u::u::u::u::u::u::u::u::u::u::u::u::u::u::u::u::u::u::u::u::u::u::u::u::u::u::u::u::u::u::u::u::u::u::u::u::u::u::u::u::u::u::u::u::u::u::u::u::u::u::u::u::u::u::u::u::u::u::u::u::u::u::u::u::u::u::u::u::u::u::u::u::u::u::u::u::u::u::u::u::u::u::u::u::u:: .bool true::u::u::u::u::u::u::u::u::u::u::u::u::u::u::u::u::u::u::u::u::[])) rfl ?_
            exact CK HK ⟨_,(Option.some.inj h).symm,rfl,(hS.Db 1 [] (by decide))⟩
           ·try simp only [W,Fp,reduceIte,Bool.false_eq_true,hc]
            refine Dh h (fun hc h=> ?_) (fun hc h=> ?_)
            ·try simp only [W,hc]
             refine BT HL ?_;refine EL (s' :=(u:: .fz (a1.map (AV.int .u8))::u::u::u::u::u::u::u::u::u::u::u::u::u::u::u::u::u::u::u::u::u::u::u::u::u::u::u::u::u::u::u::u::u::u::u::u::u::u::u::u::u::u::u::u::u::u::u::u::u::u::u::u::u::u::u::u::u::u::u::u::u::u::u::u::u::u::u::u::u::u::u::u::u::u::u::u::u::u::u::u::u::u::u::u::u::u::u::u::u::u::u::u::u::u::u::u::u::u::u::u::u::u::u::u::u::u::u::u::u::u::u::u::u::u::u::u::u::u::u::u::u::u::u::u::u::u::u::u::u::u::u::u::u::u::u::u::u::u::u::u::u::u::u::u::u::u::u::u::u::u::u::u::u::u::u::u::u::u::u::u::u::u::u::u:: .bool true::u::u::u::u::u::u::u::u::u::u::u::u::u::u::u::u::u::u::u::u::[])) rfl ?_
             exact CK HK ⟨_,(Option.some.inj h).symm,rfl,(hS.Db 1 [] (by decide))⟩
            ·try simp only [W,Fp,reduceIte,Bool.false_eq_true,hc]
             refine BT HL ?_;refine EL (s' :=(u:: .fz (a1.map (AV.int .u8))::u::u::u::u::u::u::u::u::u::u::u::u::u::u::u::u::u::u::u::u::u::u::u::u::u::u::u::u::u::u::u::u::u::u::u::u::u::u::u::u::u::u::u::u::u::u::u::u::u::u::u::u::u::u::u::u::u::u::u::u::u::u::u::u::u::u::u::u::u::u::u::u::u::u::u::u::u::u::u::u::u::u::u::u::u::u::u::u::u::u::u::u::u::u::u::u::u::u::u::u::u::u::u::u::u::u::u::u::u::u::u::u::u::u::u::u::u::u::u::u::u::u::u::u::u::u::u::u::u::u::u::u::u::u::u::u::u::u::u::u::u::u::u::u::u::u::u::u::u::u::u::u::u::u::u::u::u::u::u::u::u::u::u::u:: .bool (Jx !=F4)::u::u::u::u::u::u::u::u::u::u::u::u::u::u::u::u::u::u::u::u::[])) rfl ?_
             exact CK HK ⟨_,(Option.some.inj h).symm,rfl,(hS.Db 1 [] (by decide))⟩
        ·obtain ⟨Jy,FH,rfl,hS⟩:=hq;obtain rfl:=FH.symm;replace h:=QZ;try dsimp only at h
         refine BT QX ?_;refine BR ?_;simp only [W];refine B_ h (fun hc h=> ?_) (fun hc h=> ?_)
         ·refine BM fun Ux Q0=> ?_;refine Ca gC ?_;try simp only [W,Nat.reduceAdd]
          refine BT Q0 ?_;refine BP ?_;refine BU JZ ?_;try obtain rfl:=Option.some.inj h
          obtain rfl:=Option.some.inj NC;have h:(some false:Option (Bool))=some false:=rfl;refine CM LW ?_;refine BU KD ?_;refine B4 Ft rfl ?_;try obtain rfl:=Option.some.inj h
          exact hP _ hS
         ·refine BO ?_;refine BT JZ ?_;refine EL (s' :=(u:: .fz (a1.map (AV.int .u8))::u::u::u::u::u::u::u::u::u::u::u::u::u::u::u::u::u::u::u::u::u::u::u::u::u::u::u::u::u::u::u::u::u::u::u::u::u::u::u::u::u::u::u::u::u::u::u::u::u::u::u::u::u::u::u::u::u::u::u::u::u::u::u::u::u::u::u::u::u::u::u::u::u::u::u::u::u::u::u::u::u::u::u::u::u::u::u::u::u::u::u::u::u::u::u::u::u::u::u::u::u::u::u::u::u::u::u::u::u::u::u::u::u::u::u::u::u::u::u::u::u::u::u::u::u::u::u::u::u::u::u::u::u::u::u::u::u::u::u::u::u::u::u::u::u::u::u::u::u::u::u::u::u::u::u::u::u::u::u::u::u::u::u::u::u::u::u::u::u::u::u::u::u::u::u::u::u::u::u::u::u::u::u::u::u::[])) rfl ?_
          exact CK LW ⟨(Option.some.inj h).symm,rfl,hS⟩
      ·refine BO ?_;refine BT JZ ?_;refine EL (s' :=(u:: .fz (a1.map (AV.int .u8))::u::u::u::u::u::u::u::u::u::u::u::u::u::u::u::u::u::u::u::u::u::u::u::u::u::u::u::u::u::u::u::u::u::u::u::u::u::u::u::u::u::u::u::u::u::u::u::u::u::u::u::u::u::u::u::u::u::u::u::u::u::u::u::u::u::u::u::u::u::u::u::u::u::u::u::u::u::u::u::u::u::u::u::u::u::u::u::u::u::u::u::u::u::u::u::u::u::u::u::u::u::u::u::u::u::u::u::u::u::u::u::u::u::u::u::u::u::u::u::u::u::u::u::u::u::u::u::u::u::u::u::u::u::u::u::u::u::u::u::u::u::u::u::u::u::u::u::u::u::u::u::u::u::u::u::u::u::u::u::u::u::u::u::u::u::u::u::u::u::u::u::u::u::u::u::u::u::u::u::u::u::u::u::u::u::[])) rfl ?_
       exact CK LW ⟨(Option.some.inj h).symm,rfl,(hS.Db 2 [] (by decide))⟩
     ·obtain ⟨rfl,rfl,hS⟩:=hq;replace h:=NC;try dsimp only at h
      refine BT KD ?_;refine BM fun Uy Q1=> ?_;refine Ca gC ?_;try simp only [W,Nat.reduceAdd]
      refine CE h fun Jz Q2 h=> ?_;refine Ql Q2 hS fun Uz NG H hS=> ?_;try simp only [W]
      refine BT Q1 ?_;refine BM fun UA Q3=> ?_;refine Ca gC ?_;try simp only [W,Nat.reduceAdd,Nat.reduceBEq,List.contains_cons,Nat.reduceBEq,Bool.or_self]
      refine DR (bC:=[[.sl [.sc]],[.sc]]) (ys:=[.fz (Jz.map Fu)]) h rfl (DC (Dz hS 0 rfl NG (fun _=>rfl)) DB) fun LX Q4 h=>⟨.aA [.own 1 (LX.1.map (AV.int .i64)),.bool LX.2],Nt Q4 (ap.nil _) fun UB Q5 H hS=>DJ rfl (DH 0 hS rfl Q5 (fun _ _=>by simp [aR,aO,dD]) fun H hS=>DF rfl (DE rfl)),(DX (DV (DT _ (fun _=>rfl) _) (DV rfl DU))),?_⟩
      refine DP ?_;refine DM hS (fun _ _=>rfl) (fun _=>rfl) fun UC H Q6 hS=> ?_;refine DL (fun _=>rfl) ?_;refine DK ?_;try simp only [List.headD_cons]
      obtain ⟨JA,Kr⟩:=LX;try dsimp only at h
      try simp only [W]
      refine BT Q3 ?_;refine BM fun UE Q7=> ?_;refine Ca gC ?_;try simp only [W,Nat.reduceAdd,Nat.reduceBEq,List.contains_cons,Nat.reduceBEq,Bool.or_self]
      refine DR (bC:=[[.sl [.sc]],[.sc]]) (ys:=[.fz (Jz.map Fu)]) h rfl (DC (Dz hS 1 rfl NG (fun _=>rfl)) DB) fun LY Q8 h=>⟨.aA [.own 1 (LY.1.map (AV.int .i64)),.bool LY.2],Nw Q8 (ap.nil _) fun UF Q9 H hS=>DJ rfl (DH 0 hS rfl Q9 (fun _ _=>by simp [aR,aO,dD]) fun H hS=>DF rfl (DE rfl)),(DX (DV (DT _ (fun _=>rfl) _) (DV rfl DU))),?_⟩
      refine DP ?_;refine DM hS (fun _ _=>rfl) (fun _=>rfl) fun UG H Q_ hS=> ?_;refine DL (fun _=>rfl) ?_;refine DK ?_;try simp only [List.headD_cons]
      obtain ⟨JB,Ks⟩:=LY;try dsimp only at h
      try simp only [W]
      refine BT Q7 ?_;refine BM fun UH NH=> ?_;refine Ca gC ?_;try simp only [W,Fp,Nat.reduceAdd]
      rw [Cn _ _ _ _ (h:=rfl) rfl,tq];try simp only [W]
      refine Dh h (fun hc h=> ?_) (fun hc h=> ?_)
      ·try simp only [W,hc]
       refine DQ (bC:=[[.sc]]) (ys:=[.fz (JA.map (AV.int .i64)),.fz (JB.map (AV.int .i64))]) h rfl (DC (Dz hS 1 rfl Q6 (fun _=>rfl)) (DC (Dz hS 0 rfl Q_ (fun _=>rfl)) DB)) fun JC Ra h=>⟨.bool JC,Nz Ra (ap.nil _) fun H hS=>DJ rfl (DF rfl (DE rfl)),⟨rfl,rfl,fun _=>rfl⟩,?_⟩;try simp only [W,reduceIte]
       refine BT NH ?_;refine BP ?_;refine B4 Ft rfl ?_;try obtain rfl:=Option.some.inj h
       exact hP _ (hS.Db 3 [] (by decide))
      ·try simp only [W,hc]
       refine BT NH ?_;refine BP ?_;refine B4 Ft rfl ?_;try obtain rfl:=Option.some.inj h
       exact hP _ (hS.Db 3 [] (by decide))
end Go.Hi
