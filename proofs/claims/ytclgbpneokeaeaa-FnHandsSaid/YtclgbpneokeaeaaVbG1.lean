import Derived.Test.YtclgbpneokeaeaaVbF
import Derived.Test.YtclgbpneokeaeaaProg
import Derived.Test.YtclgbpneokeaeaaVaE
import Derived.KernelRfl
open Go Go.VS
set_option maxRecDepth 8000
set_option maxHeartbeats 4000000
namespace Go.DN
def Nj (x:BP):AV:= .agg [.fz (x.Code.map (AV.int .u8)),.int .i64 x.BT,.int .u64 x.B7]
def E:aK:=fun t=>match t with
 |3=>some {sz:=1,agg:=false,zero:=[AV.int IntKind.i64 0],bytes:=8,aq:=UD.it IntKind.i64,jK:=true}
 |4=>some {sz:=1,agg:=false,zero:=[AV.bool false],bytes:=1,aq:=UD.bl,jK:=true}
 |5=>some {sz:=1,agg:=false,zero:=[AV.int IntKind.u8 0],bytes:=1,aq:=UD.it IntKind.u8,jK:=true}
 |22=>some {sz:=1,agg:=false,zero:=[AV.nil],bytes:=24,aq:=UD.sl 5,jK:=true}
 |23=>some {sz:=1,agg:=false,zero:=[AV.nil],bytes:=24,aq:=UD.sl 3,jK:=true}
 |78=>some {sz:=1,agg:=false,zero:=[AV.dc],bytes:=8,aq:=UD.pt,jK:=true}
 |79=>some {sz:=1,agg:=false,zero:=[AV.int IntKind.u64 0],bytes:=8,aq:=UD.it IntKind.u64,jK:=true}
 |81=>some {sz:=3,agg:=true,zero:=[AV.nil,AV.int IntKind.i64 0,AV.int IntKind.u64 0],bytes:=40,aq:=UD.st [(0,22),(1,3),(2,79)],jK:=true}
 |85=>some {sz:=1,agg:=false,zero:=[AV.undef],bytes:=8,aq:=UD.ot,jK:=true}
 |86=>some {sz:=1,agg:=false,zero:=[AV.undef],bytes:=8,aq:=UD.ot,jK:=true}
 |_=>none
def fM:FuncId→jN:=fun f=>match f with
 |3=>{b7:=[[.sc]],mD:=[(6,[],[2]),(7,[],[2]),(8,[],[2]),(9,[],[2])],gj:=[(14,[],some [1,5,6,8,9,12,13,14,18,19,20,24,25,28,29,180]),(19,[],some [1,6,13,19,24,246]),(21,[],some [1,267])],vn:=[(181,[1])]}
 |7=>{b7:=[[.sl [.sc]],[.sc],[.sl [.sc]]],loops:=[(0,{bE:=[5,6,7,8,18,19]})],blocks:=[(0,[5,6,7,8])],gj:=[(8,[],some [5,6,7,8,35])],vn:=[(35,[6,7,8])]}
 |8=>{b7:=[[.sc],[.sc]],gj:=[(1,[],some [0,2,4,23])]}
 |9=>{b7:=[[.sc],[.sc]],gj:=[(1,[],some [0,1,2,25])]}
 |10=>{b7:=[[.sl [.sc]],[.sc],[.sc]],mD:=[(3,[],[4])]}
 |11=>{b7:=[[.sl [.sc]],[.sc],[.sc]],loops:=[(0,{bE:=[0,1,7,15,16]})],blocks:=[(0,[0,1,7])],mD:=[(9,[],[3])]}
 |12=>{b7:=[[.sl [.sc]],[.sc],[.sc]],mD:=[(5,[],[3])]}
 |13=>{b7:=[[.sl [.sc]],[.sc],[.sc]],loops:=[(0,{bE:=[0,1,7,17,18,19]}),(2,{bE:=[0,1,7,8,9,10,17,18,19]})],blocks:=[(2,[0,1,7,8,10,17,18,19]),(0,[0,1,7])],mD:=[(14,[],[3])],gj:=[(8,[],some [0,1,7,8,9,10,17,18,19,38])]}
 |14=>{b7:=[[.sc],[.sc]]}
 |15=>{b7:=[[.sc],[.sc]]}
 |16=>{b7:=[[.sc],[.sc]]}
 |17=>{b7:=[[.sc],[.sc]],loops:=[(0,{bE:=[6,20,21,22]})],blocks:=[(0,[6])]}
 |18=>{b7:=[[.sc]],loops:=[(0,{bE:=[0,1,12,13]})],blocks:=[(0,[])]}
 |19=>{b7:=[[.sc]]}
 |59=>{b7:=[[.sl [.sc]],[.sc]],loops:=[(0,{bE:=[0,4,5]})],blocks:=[(0,[0,4])],gj:=[(8,[],some [0,4,29])],fz:=[(9,[(3,[([32],[.sl [.sc]])])]),(10,[(3,[([37],[.sl [.sc]])])])],vn:=[(9,[0,4,5]),(29,[0,4])]}
 |60=>{b7:=[[.sc]],vn:=[(11,[1,5])]}
 |61=>{b7:=[[.sc]]}
 |62=>{b7:=[[.sc]]}
 |63=>{b7:=[[.sc]]}
 |64=>{b7:=[[.sc]]}
 |65=>{b7:=[[.sc]]}
 |66=>{b7:=[[.sc]],loops:=[(0,{bE:=[0,3,4]})],blocks:=[(0,[3])],vn:=[(7,[0])]}
 |67=>{b7:=[[.sl [.sc]]],loops:=[(0,{bE:=[2,7,12,13,14]})],blocks:=[(0,[7])]}
 |68=>{b7:=[[.sc]]}
 |69=>{b7:=[[.sc]],loops:=[(0,{bE:=[1,2,9,10,11]})],blocks:=[(0,[])]}
 |70=>{b7:=[[.sc]],loops:=[(0,{bE:=[0,7,8,13,14,15]})],blocks:=[(0,[8])],mD:=[(6,[10],[])]}
 |71=>{b7:=[[.sl [.sc]],[.sc],[.sc]],loops:=[(0,{bE:=[0,9,10,19,20,21]})],blocks:=[(0,[9,10])],mD:=[(7,[10],[])]}
 |72=>{b7:=[[.sl [.sc]]],loops:=[(0,{bE:=[3,7,8]})],blocks:=[(0,[3])]}
 |73=>{b7:=[[.sl [.sc]]],loops:=[(0,{bE:=[0,7,8,18,19,20]}),(2,{bE:=[0,7,8,10,11,18,19,20,25,26]})],blocks:=[(3,[0,7,8,10,11,18,19,20,25,26]),(2,[0,7,8,10,11,18,19,20]),(0,[8])],mD:=[(13,[10],[])],vn:=[(37,[0,7,8,10,11,18,19,20,25,26])]}
 |74=>{b7:=[]}
 |75=>{b7:=[[.sc]]}
 |76=>{b7:=[[.sc]],loops:=[(0,{bE:=[0,1,5,14,15]})],blocks:=[(0,[5])],mD:=[(7,[9],[]),(11,[9],[])],gj:=[(9,[],some [0,1,5,6,7,14,15,37])],vn:=[(37,[0,1,5,6,14,15])]}
 |77=>{b7:=[[.sc]],loops:=[(0,{bE:=[0,1,2,7,12,13,14]}),(2,{bE:=[0,1,2,31,32]})],blocks:=[(0,[0,1,2,7]),(2,[2])],mD:=[(15,[9],[])]}
 |78=>{b7:=[[.sc]],loops:=[(0,{bE:=[3,6,7,8]})],blocks:=[(0,[3])]}
 |79=>{b7:=[[.sc]],loops:=[(0,{bE:=[3,6,7,8]})],blocks:=[(0,[3])]}
 |80=>{b7:=[[.sc]]}
 |90=>{b7:=[[.sc]]}
 |91=>{b7:=[[.sc]]}
 |124=>{b7:=[[.sc]],vn:=[(13,[0,3])]}
 |125=>{b7:=[[.sc]],loops:=[(0,{bE:=[0,1,7,8]})],blocks:=[(0,[])]}
 |126=>{b7:=[[.sc]],loops:=[(0,{bE:=[0,1,7,8]})],blocks:=[(0,[])]}
 |127=>{b7:=[[.sc]],loops:=[(0,{bE:=[0,3,4]})],blocks:=[(0,[3])],vn:=[(7,[0])]}
 |128=>{b7:=[],loops:=[(0,{bE:=[0,1,2,6,7,8]}),(2,{bE:=[0,1,2,6]}),(4,{bE:=[0,1,2,6,7,8]})],blocks:=[(0,[0,1,2,6,7]),(4,[0,1,2,6,7]),(2,[])],vn:=[(54,[0,1,2,6])]}
 |149=>{b7:=[],loops:=[(0,{bE:=[0,1,2,3,8]}),(2,{bE:=[0,1,2,3,8,9]})],blocks:=[(2,[0,1,2,3,8]),(0,[])],mD:=[(4,[14],[]),(6,[15,17],[])],gj:=[(4,[],some [0,1,2,3,8,9,34])]}
 |_=>{}
noncomputable def code:FuncId→Option Func:=fun f=>match f with
 |3=>some Go.Proofs.Try.f3
 |7=>some Go.Proofs.Try.f7
 |8=>some Go.Proofs.Try.f8
 |9=>some Go.Proofs.Try.f9
 |10=>some Go.Proofs.Try.f10
 |11=>some Go.Proofs.Try.f11
 |12=>some Go.Proofs.Try.f12
 |13=>some Go.Proofs.Try.f13
 |14=>some Go.Proofs.Try.f14
 |15=>some Go.Proofs.Try.f15
 |16=>some Go.Proofs.Try.f16
 |17=>some Go.Proofs.Try.f17
 |18=>some Go.Proofs.Try.f18
 |19=>some Go.Proofs.Try.f19
 |59=>some Go.Proofs.Try.f59
 |60=>some Go.Proofs.Try.f60
 |61=>some Go.Proofs.Try.f61
 |62=>some Go.Proofs.Try.f62
 |63=>some Go.Proofs.Try.f63
 |64=>some Go.Proofs.Try.f64
 |65=>some Go.Proofs.Try.f65
 |66=>some Go.Proofs.Try.f66
 |67=>some Go.Proofs.Try.f67
 |68=>some Go.Proofs.Try.f68
 |69=>some Go.Proofs.Try.f69
 |70=>some Go.Proofs.Try.f70
 |71=>some Go.Proofs.Try.f71
 |72=>some Go.Proofs.Try.f72
 |73=>some Go.Proofs.Try.f73
 |74=>some Go.Proofs.Try.f74
 |75=>some Go.Proofs.Try.f75
 |76=>some Go.Proofs.Try.f76
 |77=>some Go.Proofs.Try.f77
 |78=>some Go.Proofs.Try.f78
 |79=>some Go.Proofs.Try.f79
 |80=>some Go.Proofs.Try.f80
 |90=>some Go.Proofs.Try.f90
 |91=>some Go.Proofs.Try.f91
 |124=>some Go.Proofs.Try.f124
 |125=>some Go.Proofs.Try.f125
 |126=>some Go.Proofs.Try.f126
 |127=>some Go.Proofs.Try.f127
 |128=>some Go.Proofs.Try.f128
 |149=>some Go.Proofs.Try.f149
 |_=>none
noncomputable def C:aI:=⟨E,fM,code,fun _ _ _ _=>False⟩
theorem gC:Go.VS.Good C:=⟨fun _ _ _ _ _ _ h=>h,fun _ _ _ _ h=>h.elim⟩
theorem KZ:C.E=E:=rfl
theorem E3:E 3=some {sz:=1,agg:=false,zero:=[AV.int IntKind.i64 0],bytes:=8,aq:=UD.it IntKind.i64,jK:=true}:=rfl
theorem E4:E 4=some {sz:=1,agg:=false,zero:=[AV.bool false],bytes:=1,aq:=UD.bl,jK:=true}:=rfl
theorem E5:E 5=some {sz:=1,agg:=false,zero:=[AV.int IntKind.u8 0],bytes:=1,aq:=UD.it IntKind.u8,jK:=true}:=rfl
theorem K_:E 22=some {sz:=1,agg:=false,zero:=[AV.nil],bytes:=24,aq:=UD.sl 5,jK:=true}:=rfl
theorem La:E 23=some {sz:=1,agg:=false,zero:=[AV.nil],bytes:=24,aq:=UD.sl 3,jK:=true}:=rfl
theorem Lb:E 78=some {sz:=1,agg:=false,zero:=[AV.dc],bytes:=8,aq:=UD.pt,jK:=true}:=rfl
theorem Lc:E 79=some {sz:=1,agg:=false,zero:=[AV.int IntKind.u64 0],bytes:=8,aq:=UD.it IntKind.u64,jK:=true}:=rfl
theorem Ld:E 81=some {sz:=3,agg:=true,zero:=[AV.nil,AV.int IntKind.i64 0,AV.int IntKind.u64 0],bytes:=40,aq:=UD.st [(0,22),(1,3),(2,79)],jK:=true}:=rfl
theorem Le:E 85=some {sz:=1,agg:=false,zero:=[AV.undef],bytes:=8,aq:=UD.ot,jK:=true}:=rfl
theorem Lf:E 86=some {sz:=1,agg:=false,zero:=[AV.undef],bytes:=8,aq:=UD.ot,jK:=true}:=rfl
theorem EE:type_of% (And.intro @KZ<|And.intro @E3<|And.intro @E4<|And.intro @E5<|And.intro @K_<|And.intro @La<|And.intro @Lb<|And.intro @Lc<|And.intro @Ld<|And.intro @Le @Lf):=And.intro @KZ<|And.intro @E3<|And.intro @E4<|And.intro @E5<|And.intro @K_<|And.intro @La<|And.intro @Lb<|And.intro @Lc<|And.intro @Ld<|And.intro @Le @Lf
theorem Lg (x:BP):Nj x= .agg [.fz (x.Code.map (AV.int .u8)),.int .i64 x.BT,.int .u64 x.B7]:=rfl
theorem EN:type_of% (And.intro @Lg<|And.intro @A7 @s8):=And.intro @Lg<|And.intro @A7 @s8
theorem Lh {a0:BP} {i0:Nat} {w0:Nat} {r:(Int×BP)} (h:F1 a0=some r) {F:List It} {H:J} (hS:aA H (⟨.ptr i0 w0 0 0,3,[.agg [.fz (a0.Code.map (AV.int .u8)),.int .i64 a0.BT,.int .u64 a0.B7]]⟩::F)) {P:AV→J→Prop} (Bz: ∀H',aA H' (⟨.ptr i0 w0 0 0,3,[.agg [.fz (r.2.Code.map (AV.int .u8)),.int .i64 r.2.BT,.int .u64 r.2.B7]]⟩::F)→P (.int .i64 r.1) H'):au C 124 [.ptr i0 w0 0 0] H P:=by
 refine zT gC (res:=[.tmp 2]) (n:=62) rfl rfl rfl rfl fun K0 BA=> ?_;simp only [W,Nat.reduceSub,Nat.reduceAdd,List.replicate];unfold F1 at h;refine zu fun K1 BC=> ?_;refine zQ gC ?_;try simp only [W,Nat.reduceAdd]
 refine zE BC ?_;refine zu fun K2 yd=> ?_;refine zQ gC ?_;try simp only [W,Nat.reduceAdd]
 refine zE yd ?_;refine zu fun K3 BL=> ?_;refine zu fun K4 Cp=> ?_;refine zS gC (by kernel_rfl) ?_
 try simp only [W,EE,Nat.reduceAdd,Nat.reduceBEq,hS.var 0 rfl]
 refine zE Cp ?_;obtain ⟨Jf,h,g7⟩:=Option.bind_eq_some_iff.1 h;refine Ae gC (fun s H=> ∃BG:Int,Jf=(BG)∧s=(.ptr i0 w0 0 0::u::u:: .int .i64 BG::u::u::u::u::u::u::u::u::u::u::u::u::u::u::u::u::u::u::u::u::u::u::u::u::u::u::u::u::u::u::u::u::u::u::u::u::u::u::u::u::u::u::u::u::u::u::u::u::u::u::u::u::u::u::u::u::u::u::[])∧aA H (⟨.ptr i0 w0 0 0,3,[.agg [.fz (a0.Code.map (AV.int .u8)),.int .i64 a0.BT,.int .u64 a0.B7]]⟩::F)) (fun K8 B4=> ?_) (fun s H hq=> ?_)
 ·refine zu fun K9 Cd=> ?_;refine zC ?_;simp only [W];refine zP h (fun hc h=> ?_) (fun hc h=> ?_)
  ·refine zS gC (by kernel_rfl) ?_
   try simp only [W,EE,Nat.reduceAdd,Nat.reduceBEq,hS.var 0 rfl]
   refine zY rfl rfl rfl (fun _=>rfl) h fun Cy ER h=> ?_;try simp only [W,EE]
   refine zE Cd ?_;refine Bc (s' :=(.ptr i0 w0 0 0::u::u:: .int .i64 (IntKind.i64.wrap Cy)::u::u::u::u::u::u::u::u::u::u::u::u::u::u::u::u::u::u::u::u::u::u::u::u::u::u::u::u::u::u::u::u::u::u::u::u::u::u::u::u::u::u::u::u::u::u::u::u::u::u::u::u::u::u::u::u::u::u::[])) rfl ?_
   exact Af B4 ⟨_,(Option.some.inj h).symm,rfl,hS⟩
  ·refine zx ?_;refine zE Cd ?_;refine Bc (s' :=(.ptr i0 w0 0 0::u::u:: .int .i64 0::u::u::u::u::u::u::u::u::u::u::u::u::u::u::u::u::u::u::u::u::u::u::u::u::u::u::u::u::u::u::u::u::u::u::u::u::u::u::u::u::u::u::u::u::u::u::u::u::u::u::u::u::u::u::u::u::u::u::[])) rfl ?_
   exact Af B4 ⟨_,(Option.some.inj h).symm,rfl,hS⟩
 ·obtain ⟨BG,BH,rfl,hS⟩:=hq;obtain rfl:=BH.symm;replace h:=g7;try dsimp only at h
  refine zE BL ?_;refine zu fun Eu CN=> ?_;refine zQ gC ?_;try simp only [W,EE,Nat.reduceAdd,Nat.reduceBEq,hS.var 0 rfl]
  refine zW (a:= .int .i64 (IntKind.i64.wrap (a0.BT+1))) (y' := .agg [.fz (a0.Code.map (AV.int .u8)),.int .i64 (IntKind.i64.wrap (a0.BT+1)),.int .u64 a0.B7]) 0 hS rfl rfl rfl rfl rfl rfl rfl rfl fun H hS=> ?_
  try simp only [W]
  refine zE CN ?_;refine zu fun ES CG=> ?_;refine zQ gC ?_;try simp only [W,EE,Nat.reduceAdd,Nat.reduceBEq,hS.var 0 rfl]
  refine zW (a:= .int .u64 (IntKind.u64.wrap ((IntKind.u64.wrap ((IntKind.u64.wrap (a0.B7*6364136223846793005))+(IntKind.u64.wrap BG)))+1442695040888963407))) (y' := .agg [.fz (a0.Code.map (AV.int .u8)),.int .i64 (IntKind.i64.wrap (a0.BT+1)),.int .u64 (IntKind.u64.wrap ((IntKind.u64.wrap ((IntKind.u64.wrap (a0.B7*6364136223846793005))+(IntKind.u64.wrap BG)))+1442695040888963407))]) 0 hS rfl rfl rfl rfl rfl rfl rfl rfl fun H hS=> ?_
  try simp only [W]
  refine zE CG ?_;refine zu fun Ev CH=> ?_;refine zu fun D9 Cv=> ?_;refine zS gC (by kernel_rfl) ?_
  try simp only [W,EE,Nat.reduceAdd,Nat.reduceBEq,hS.var 0 rfl]
  refine zE Cv ?_;refine zC ?_;simp only [W];refine zP h (fun hc h=> ?_) (fun hc h=> ?_)
  ·refine zu fun Fq CO=> ?_;refine zQ gC ?_;try simp only [W,Nat.reduceAdd]
   refine zE CO ?_;refine zy ?_;refine zF CH ?_;refine zL BA rfl ?_;try obtain rfl:=Option.some.inj h
   exact Bz _ hS
  ·refine zx ?_;refine zE CH ?_;refine zu fun DW Ck=> ?_;refine zQ gC ?_;try simp only [W,EE,Nat.reduceAdd,Nat.reduceBEq,hS.var 0 rfl]
   rw [Ai _ _ _ rfl,Option.map_some,rL];try simp only [W,EE]
   refine zE Ck ?_;refine zy ?_;refine zL BA rfl ?_;try obtain rfl:=Option.some.inj h
   exact Bz _ hS
theorem Fs {a0:BP} {a1:Int} {i0:Nat} {w0:Nat} {r:(Int×BP)} (h:Dy a0 a1=some r) {F:List It} {H:J} (hS:aA H (⟨.ptr i0 w0 0 0,3,[.agg [.fz (a0.Code.map (AV.int .u8)),.int .i64 a0.BT,.int .u64 a0.B7]]⟩::F)) {P:AV→J→Prop} (Bz: ∀H',aA H' (⟨.ptr i0 w0 0 0,3,[.agg [.fz (r.2.Code.map (AV.int .u8)),.int .i64 r.2.BT,.int .u64 r.2.B7]]⟩::F)→P (.int .i64 r.1) H'):au C 60 [.ptr i0 w0 0 0,.int .i64 a1] H P:=by
 refine zT gC (res:=[.tmp 4]) (n:=20) rfl rfl rfl rfl fun K0 BA=> ?_;simp only [W,Nat.reduceSub,Nat.reduceAdd,List.replicate];unfold Dy at h;refine zu fun K1 BC=> ?_;refine zQ gC ?_;try simp only [W,Nat.reduceAdd]
 refine zE BC ?_;refine zu fun K2 yd=> ?_;refine zu fun K3 BL=> ?_;refine zQ gC ?_;try simp only [W,EE,Nat.reduceAdd]
 refine zE BL ?_;refine zC ?_;simp only [W];refine zP h (fun hc h=> ?_) (fun hc h=> ?_)
 ·refine zu fun K4 Cp=> ?_;refine zQ gC ?_;try simp only [W,Nat.reduceAdd]
  refine zE Cp ?_;refine zy ?_;refine zF yd ?_;refine zL BA rfl ?_;try obtain rfl:=Option.some.inj h
  exact Bz _ hS
 ·refine zx ?_;refine zE yd ?_;refine zu fun K5 Cb=> ?_;refine zQ gC ?_;try simp only [W,Nat.reduceAdd]
  refine z_ h fun C1 ET h=> ?_;obtain ⟨BK,BD⟩:=C1;try dsimp only at h
  refine Lh ET hS fun H hS=> ?_;try simp only [W]
  refine zE Cb ?_;refine zu fun K9 Cd=> ?_;refine zu fun D_ Cw=> ?_;refine zQ gC ?_;try simp only [W,EE,Nat.reduceAdd]
  refine zE Cw ?_;obtain ⟨Ea,h,Jg⟩:=Option.bind_eq_some_iff.1 h;refine Ae gC (fun s H=> ∃BN:Int,∃BB:List Int,∃BE:Int,∃BQ:Int,Ea=(BN,BB,BE,BQ)∧s=[u,.int .i64 a1,u,u,u,.int .i64 BN,u,u,u,u,u,u,u,u,u,u,u,u,u,u]∧aA H (⟨.ptr i0 w0 0 0,3,[.agg [.fz (BB.map (AV.int .u8)),.int .i64 BE,.int .u64 BQ]]⟩::F)) (fun C9 BW=> ?_) (fun s H hq=> ?_)
  ·refine zu fun C4 BX=> ?_;refine zC ?_;simp only [W];refine zP h (fun hc h=> ?_) (fun hc h=> ?_)
   ·refine zQ gC ?_;try simp only [W,EE,Nat.reduceAdd]
    refine z_ h fun DQ Hp h=> ?_;obtain ⟨Dq,CE⟩:=DQ;try dsimp only at h
    refine Lh Hp hS fun H hS=> ?_;try simp only [W,EE]
    refine zE BX ?_;refine zD ?_;exact Af BW ⟨_,_,_,_,(Option.some.inj h).symm,rfl,hS⟩
   ·refine zx ?_;refine zE BX ?_;refine zD ?_;exact Af BW ⟨_,_,_,_,(Option.some.inj h).symm,rfl,hS⟩
  ·obtain ⟨BN,BB,BE,BQ,rfl,rfl,hS⟩:=hq;replace h:=Jg;try dsimp only at h
   refine zE Cd ?_;refine zu fun Ft C_=> ?_;refine zQ gC ?_;try simp only [W,EE,Nat.reduceAdd]
   refine w_num _ h fun KQ RP h=> ?_;try simp only [W]
   refine zE C_ ?_;refine zy ?_;refine zL BA rfl ?_;try obtain rfl:=Option.some.inj h
   exact Bz _ hS
theorem Jh {a0:BP} {a1:Int} {i0:Nat} {w0:Nat} {r:(Bool×BP)} (h:EC a0 a1=some r) {F:List It} {H:J} (hS:aA H (⟨.ptr i0 w0 0 0,3,[.agg [.fz (a0.Code.map (AV.int .u8)),.int .i64 a0.BT,.int .u64 a0.B7]]⟩::F)) {P:AV→J→Prop} (Bz: ∀H',aA H' (⟨.ptr i0 w0 0 0,3,[.agg [.fz (r.2.Code.map (AV.int .u8)),.int .i64 r.2.BT,.int .u64 r.2.B7]]⟩::F)→P (.bool r.1) H'):au C 62 [.ptr i0 w0 0 0,.int .i64 a1] H P:=by
 refine zT gC (res:=[.tmp 4]) (n:=9) rfl rfl rfl rfl fun K0 BA=> ?_;simp only [W,Nat.reduceSub,Nat.reduceAdd,List.replicate];unfold EC at h;refine zu fun K1 BC=> ?_;refine zQ gC ?_;try simp only [W,Nat.reduceAdd]
 refine zE BC ?_;refine zu fun K2 yd=> ?_;refine zQ gC ?_;try simp only [W,Nat.reduceAdd]
 refine z_ h fun b3 j9 h=> ?_;obtain ⟨BU,Dd⟩:=b3;try dsimp only at h
 refine Fs j9 hS fun H hS=> ?_;try simp only [W,EE]
 refine zE yd ?_;refine zy ?_;refine zL BA rfl ?_;try obtain rfl:=Option.some.inj h
 exact Bz _ hS
theorem Li {a0:BP} {a1:List Int} {i0:Nat} {w0:Nat} {r:(Int×BP)} (h:Fc a0 a1=some r) {F:List It} {H:J} (hS:aA H (⟨.ptr i0 w0 0 0,3,[.agg [.fz (a0.Code.map (AV.int .u8)),.int .i64 a0.BT,.int .u64 a0.B7]]⟩::F)) {P:AV→J→Prop} (Bz: ∀H',aA H' (⟨.ptr i0 w0 0 0,3,[.agg [.fz (r.2.Code.map (AV.int .u8)),.int .i64 r.2.BT,.int .u64 r.2.B7]]⟩::F)→P (.int .i64 r.1) H'):au C 91 [.ptr i0 w0 0 0,.fz (a1.map (AV.int .i64))] H P:=by
 refine zT gC (res:=[.tmp 4]) (n:=12) rfl rfl rfl rfl fun K0 BA=> ?_;simp only [W,Nat.reduceSub,Nat.reduceAdd,List.replicate];unfold Fc at h;refine zu fun K1 BC=> ?_;refine zQ gC ?_;try simp only [W,Nat.reduceAdd]
 refine zE BC ?_;refine zu fun K2 yd=> ?_;refine zQ gC ?_;try simp only [W,EE,Nat.reduceAdd]
 refine z_ h fun b3 j9 h=> ?_;obtain ⟨BU,Dd⟩:=b3;try dsimp only at h
 refine Fs j9 hS fun H hS=> ?_;try simp only [W,EE]
 refine zY rfl rfl rfl (fun _=>rfl) h fun C1 ET h=> ?_;try simp only [W,EE]
 refine zE yd ?_;refine zy ?_;refine zL BA rfl ?_;try obtain rfl:=Option.some.inj h
 exact Bz _ hS
theorem Nk {a0:BP} {i0:Nat} {w0:Nat} {r:(List Int×Int×BP)} (h:GD a0=some r) {F:List It} {H:J} (hS:aA H (⟨.ptr i0 w0 0 0,3,[.agg [.fz (a0.Code.map (AV.int .u8)),.int .i64 a0.BT,.int .u64 a0.B7]]⟩::F)) {P:AV→J→Prop} (Bz: ∀Ji:AV,bB Ji→ ∀H',aA H' (⟨Ji,1,r.1.map (AV.int .i64)⟩::⟨.ptr i0 w0 0 0,3,[.agg [.fz (r.2.2.Code.map (AV.int .u8)),.int .i64 r.2.2.BT,.int .u64 r.2.2.B7]]⟩::F)→P (.aC [Ji,.int .i64 r.2.1]) H'):au C 59 [.ptr i0 w0 0 0] H P:=by
 refine zT gC (res:=[.tmp 2,.tmp 3]) (n:=39) rfl rfl rfl rfl fun K0 BA=> ?_;simp only [W,Nat.reduceSub,Nat.reduceAdd,List.replicate];unfold GD at h;refine zu fun K1 BC=> ?_;refine zQ gC ?_;try simp only [W,Nat.reduceAdd]
 refine zE BC ?_;refine zu fun K2 yd=> ?_;refine zQ gC ?_;try simp only [W,Nat.reduceAdd]
 refine zE yd ?_;refine zu fun K3 BL=> ?_;refine zQ gC ?_;try simp only [W,Nat.reduceAdd]
 refine z_ h fun BU CP h=> ?_;obtain ⟨Dd,C1⟩:=BU;try dsimp only at h
 refine Fs CP hS fun H hS=> ?_;try simp only [W]
 refine zE BL ?_;refine zu fun K7 B5=> ?_;refine zu fun K8 B4=> ?_;refine zQ gC ?_;try simp only [W,Nat.reduceAdd]
 refine z_ h fun Cs Fu h=> ?_;obtain ⟨Cy,CY⟩:=Cs;try dsimp only at h
 refine Jh Fu hS fun H hS=> ?_;try simp only [W]
 refine zE B4 ?_;obtain ⟨Hq,h,Nl⟩:=Option.bind_eq_some_iff.1 h;refine Ae gC (fun s H=> ∃BB:Int,∃BE:List Int,∃BQ:Int,∃Cc:Int,Hq=(BB,BE,BQ,Cc)∧s=[.ptr i0 w0 0 0,u,u,u,.nil,.int .i64 BB,u,u,u,u,u,u,u,u,u,u,u,u,u,u,u,u,u,u,u,u,u,u,u,u,u,u,u,u,u,u,u,u,u]∧aA H (⟨.ptr i0 w0 0 0,3,[.agg [.fz (BE.map (AV.int .u8)),.int .i64 BQ,.int .u64 Cc]]⟩::F)) (fun C4 BX=> ?_) (fun s H hq=> ?_)
 ·refine zu fun Dm B3=> ?_;refine zC ?_;simp only [W];refine zP h (fun hc h=> ?_) (fun hc h=> ?_)
  ·refine zQ gC ?_;try simp only [W,Nat.reduceAdd]
   refine z_ h fun Dq Hr h=> ?_;obtain ⟨CE,D3⟩:=Dq;try dsimp only at h
   refine Fs Hr hS fun H hS=> ?_;try simp only [W,EE]
   refine zE B3 ?_;refine zD ?_;exact Af BX ⟨_,_,_,_,(Option.some.inj h).symm,rfl,hS⟩
  ·refine zx ?_;refine zE B3 ?_;refine zD ?_;exact Af BX ⟨_,_,_,_,(Option.some.inj h).symm,rfl,hS⟩
 ·obtain ⟨BB,BE,BQ,Cc,rfl,rfl,hS⟩:=hq;replace h:=Nl;try dsimp only at h
  refine zE B5 ?_;refine zu fun Eb Cq=> ?_;obtain ⟨Hs,Ht,Hu⟩:=Option.bind_eq_some_iff.1 h;refine Ae gC (fun s H=> ∃Ch:List Int,∃Cr:List Int,∃Ci:Int,∃Cj:Int,Hs=(Ch,Cr,Ci,Cj)∧ ∃DE:AV,bB DE∧s=[.ptr i0 w0 0 0,u,u,u,DE,u,u,u,u,u,u,u,u,u,u,u,u,u,u,u,u,u,u,u,u,u,u,u,u,u,u,u,u,u,u,u,u,u,u]∧aA H (⟨DE,1,Ch.map (AV.int .i64)⟩::⟨.ptr i0 w0 0 0,3,[.agg [.fz (Cr.map (AV.int .u8)),.int .i64 Ci,.int .u64 Cj]]⟩::F)) (fun Gc Dt=> ?_) (fun s H hq=> ?_)
  ·refine zw fun Ip Ew=> ?_;refine Aa gC Ht (fun x s H=>match x with|(De,CX,Fe,Ff,D2)=> ∃Iq:AV,bB Iq∧s=[.ptr i0 w0 0 0,u,u,u,Iq,.int .i64 CX,u,u,u,u,u,u,u,u,u,u,u,u,u,u,u,u,u,u,u,u,u,u,u,u,u,u,u,u,u,u,u,u,u]∧aA H (⟨Iq,1,De.map (AV.int .i64)⟩::⟨.ptr i0 w0 0 0,3,[.agg [.fz (Fe.map (AV.int .u8)),.int .i64 Ff,.int .u64 D2]]⟩::F)) ⟨_,oO,rfl,(hS.Ap 1)⟩ (fun x Lj s H h Hv hi Ir DF=> ?_)
   obtain ⟨De,CX,Fe,Ff,D2⟩:=x;try dsimp only at hi
   obtain ⟨Iq,Lk,rfl,hS⟩:=hi;simp only [I5] at h;refine zu fun Is DX=> ?_;refine zu fun Jj Ey=> ?_;refine zQ gC ?_;try simp only [W,EE,Nat.reduceAdd]
   refine zE Ey ?_;refine zC ?_;simp only [W];refine zP h (fun hc h=> ?_) (fun hc h=> ?_)
   ·refine zx ?_;refine zE DX ?_;refine zu fun Iu Ec=> ?_;refine zw fun Jk EU=> ?_;refine zQ gC ?_;try simp only [W,Nat.reduceAdd]
    refine z_ h fun EP Jl h=> ?_;obtain ⟨Fg,C8⟩:=EP;try dsimp only at h
    refine Fs Jl (hS.At 2 [1,0] (by decide)) fun H hS=> ?_
    try simp only [W,EE]
    refine z9 (el:=([(IntKind.i64.wrap (1+Fg))]:List Int).map (AV.int .i64)) hS rfl rfl rfl rfl rfl rfl rfl fun Nm H Jm hS=> ?_;try simp only [W,EE]
    refine Ao (l:=De) (c:=(AV.int .i64)) 2 hS rfl Lk rfl rfl rfl (hS.gS 0 rfl Jm) (fun _=>rfl) rfl h fun RQ H ED Nn hm h hS=> ?_;try simp only [W]
    refine zI EU ?_;refine zE Ec ?_;refine zQ gC ?_;try simp only [W,EE,Nat.reduceAdd]
    exact Ab DF h ⟨_,Nn,rfl,(hS.At 3 [2,1] (by decide))⟩
   ·refine zB ?_;refine zG DX ?_;try obtain rfl:=Option.some.inj h
    obtain rfl:=Hv _ rfl;have h:(some (De,Fe,Ff,D2):Option ((List Int)×(List Int)×Int×Int))=some (De,Fe,Ff,D2):=rfl;refine Ac DF ?_;refine zJ Ew ?_;exact Af Dt ⟨_,_,_,_,(Option.some.inj h).symm,_,Lk,rfl,hS⟩
  ·obtain ⟨Ch,Cr,Ci,Cj,rfl,DE,Jn,rfl,hS⟩:=hq;replace h:=Hu;try dsimp only at h
   refine zE Cq ?_;refine zu fun Ll Gd=> ?_;refine zu fun Np Iv=> ?_;obtain ⟨Jo,h,Jp⟩:=Option.bind_eq_some_iff.1 h;refine Ae gC (fun s H=> ∃Ek:Bool,∃F2:List Int,∃F3:Int,∃Dz:Int,Jo=(Ek,F2,F3,Dz)∧s=[.ptr i0 w0 0 0,u,u,u,DE,u,u,u,u,u,u,u,u,u,u,u,u,u,u,u,u,u,u,u,u,u,u,u,u,.bool Ek,u,u,u,u,u,u,u,u,u]∧aA H (⟨DE,1,Ch.map (AV.int .i64)⟩::⟨.ptr i0 w0 0 0,3,[.agg [.fz (F2.map (AV.int .u8)),.int .i64 F3,.int .u64 Dz]]⟩::F)) (fun Ln Fv=> ?_) (fun s H hq=> ?_)
   ·refine zu fun Nq Hw=> ?_;refine zQ gC ?_;try simp only [W,EE,Nat.reduceAdd]
    refine z7 0 hS rfl Jn rfl ?_;try simp only [W,EE]
    refine Av h (fun hc h=> ?_) (fun hc h=> ?_)
    ·try simp only [W,hc]
     refine z_ h fun DU Iw h=> ?_;obtain ⟨DO,GF⟩:=DU;try dsimp only at h
     refine Jh Iw (hS.At 2 [1,0] (by decide)) fun H hS=> ?_
     try simp only [W,reduceIte]
     refine zE Hw ?_;refine zD ?_;exact Af Fv ⟨_,_,_,_,(Option.some.inj h).symm,rfl,(hS.At 2 [1,0] (by decide))⟩
    ·try simp only [W,hc]
     refine zE Hw ?_;refine zD ?_;exact Af Fv ⟨_,_,_,_,(Option.some.inj h).symm,rfl,hS⟩
   ·obtain ⟨Ek,F2,F3,Dz,rfl,rfl,hS⟩:=hq;replace h:=Jp;try dsimp only at h
    refine zE Iv ?_;obtain ⟨Nr,h,Ns⟩:=Option.bind_eq_some_iff.1 h;refine Ae gC (fun s H=> ∃GG:List Int,∃DP:List Int,∃GI:Int,∃GJ:Int,Nr=(GG,DP,GI,GJ)∧s=[.ptr i0 w0 0 0,u,u,u,DE,u,u,u,u,u,u,u,u,u,u,u,u,u,u,u,u,u,u,u,u,u,u,u,u,u,u,u,u,u,u,u,u,u,u]∧aA H (⟨DE,1,GG.map (AV.int .i64)⟩::⟨.ptr i0 w0 0 0,3,[.agg [.fz (DP.map (AV.int .u8)),.int .i64 GI,.int .u64 GJ]]⟩::F)) (fun RR Lo=> ?_) (fun s H hq=> ?_)
    ·refine zu fun RS Lp=> ?_;refine zC ?_;simp only [W];refine zP h (fun hc h=> ?_) (fun hc h=> ?_)
     ·refine zR (fz:=[(3,[([32],[.sl [.sc]])])]) gC ?_;try simp only [W,Nat.reduceAdd,Nat.reduceBEq]
      refine z9 (el:=([0,50,51]:List Int).map (AV.int .i64)) hS rfl rfl rfl rfl rfl rfl rfl fun Nt H Ix hS=> ?_;try simp only [W,Nat.reduceAdd]
      refine As 0 hS rfl Ix rfl (fun _ _=>by simp [aY,aR,de]) (fun _=>rfl) fun H qC hS=> ?_
      try simp only [W]
      refine z_ h fun Hd Jq h=> ?_;obtain ⟨HS,HT⟩:=Hd;try dsimp only at h
      refine Li Jq (hS.At 2 [1,0] (by decide)) fun H hS=> ?_
      try simp only [W,EE,Nat.reduceAdd,Nat.reduceBEq]
      refine zZ 1 hS rfl rfl rfl rfl rfl h (fun RT RU RV RW Lq h Lr=> ?_) Jn.ne;obtain ⟨RX,RY,RZ⟩:=hS.elem 1 rfl Lr Lq;try simp only [W,Nat.reduceAdd,Nat.reduceBEq]
      refine z6 (a:= .int .i64 HS) (y' :=HS) 1 hS rfl Lr Lq rfl rfl rfl rfl rfl rfl rfl fun H hS=> ?_
      try simp only [W,Nat.reduceAdd]
      refine zE Lp ?_;refine zD ?_;exact Af Lo ⟨_,_,_,_,(Option.some.inj h).symm,rfl,(hS.At 2 [1,0] (by decide))⟩
     ·refine zx ?_;refine zE Lp ?_;refine zD ?_;exact Af Lo ⟨_,_,_,_,(Option.some.inj h).symm,rfl,hS⟩
    ·obtain ⟨GG,DP,GI,GJ,rfl,rfl,hS⟩:=hq;replace h:=Ns;try dsimp only at h
     refine zE Gd ?_;refine zu fun Nu Ge=> ?_;refine zR (fz:=[(3,[([37],[.sl [.sc]])])]) gC ?_;try simp only [W,Nat.reduceAdd,Nat.reduceBEq]
     refine z9 (el:=([0,1,2,2,3,3,4,5]:List Int).map (AV.int .i64)) hS rfl rfl rfl rfl rfl rfl rfl fun R0 H Nv hS=> ?_;try simp only [W,Nat.reduceAdd]
     refine As 0 hS rfl Nv rfl (fun _ _=>by simp [aY,aR,de]) (fun _=>rfl) fun H qC hS=> ?_
     try simp only [W]
     refine z_ h fun Io Nw h=> ?_;obtain ⟨GK,KR⟩:=Io;try dsimp only at h
     refine Li Nw (hS.At 2 [1,0] (by decide)) fun H hS=> ?_
     try simp only [W,Nat.reduceAdd,Nat.reduceBEq]
     refine zE Ge ?_;refine zy ?_;refine zM BA rfl rfl ?_;try obtain rfl:=Option.some.inj h
     exact Bz _ Jn _ (hS.At 2 [1,0] (by decide))
theorem Iy {a0:Int} {a1:Int} {r:(Int)} (h:EF a0 a1=some r) {F:List It} {H:J} (hS:aA H (F)) {P:AV→J→Prop} (Bz: ∀H',aA H' (F)→P (.int .i64 r) H'):au C 61 [.int .i64 a0,.int .i64 a1] H P:=by
 refine zT gC (res:=[.tmp 4]) (n:=10) rfl rfl rfl rfl fun K0 BA=> ?_;simp only [W,Nat.reduceSub,Nat.reduceAdd,List.replicate];unfold EF at h;refine zu fun K1 BC=> ?_;refine zQ gC ?_;try simp only [W,Nat.reduceAdd]
 refine zE BC ?_;refine zu fun K2 yd=> ?_;refine zu fun K3 BL=> ?_;refine zQ gC ?_;try simp only [W,EE,Nat.reduceAdd]
 refine zE BL ?_;refine zC ?_;simp only [W];refine zP h (fun hc h=> ?_) (fun hc h=> ?_)
 ·refine zu fun K4 Cp=> ?_;refine zQ gC ?_;try simp only [W,Nat.reduceAdd]
  refine zE Cp ?_;refine zy ?_;refine zF yd ?_;refine zL BA rfl ?_;try obtain rfl:=Option.some.inj h
  exact Bz _ hS
 ·refine zx ?_;refine zE yd ?_;refine zu fun K5 Cb=> ?_;refine zQ gC ?_;try simp only [W,Nat.reduceAdd]
  refine zE Cb ?_;refine zy ?_;refine zL BA rfl ?_;try obtain rfl:=Option.some.inj h
  exact Bz _ hS
theorem Nx {a0:List Int} {r:(List Int×Int×List Int)} (h:GL a0=some r) {F:List It} {H:J} (hS:aA H (F)) {P:AV→J→Prop} (Bz: ∀Jr:AV,bB Jr→ ∀Fw:AV,bB Fw→ ∀H',aA H' (⟨Jr,1,r.1.map (AV.int .i64)⟩::⟨Fw,1,r.2.2.map (AV.int .i64)⟩::F)→P (.aC [Jr,.int .i64 r.2.1,Fw]) H'):au C 7 [.fz (a0.map (AV.int .u8))] H P:=by
 refine zT gC (res:=[.tmp 2,.tmp 3,.tmp 4]) (n:=44) rfl rfl rfl rfl fun K0 BA=> ?_;simp only [W,Nat.reduceSub,Nat.reduceAdd,List.replicate];unfold GL at h;refine zu fun K1 BC=> ?_;refine zQ gC ?_;try simp only [W,Nat.reduceAdd]
 refine zE BC ?_;refine zu fun K2 yd=> ?_;refine zQ gC ?_;try simp only [W,EE,Nat.reduceAdd]
 refine Aw rfl rfl rfl rfl rfl ?_;try simp only [W]
 refine zV hS rfl rfl rfl rfl fun Gf Gg H hS=> ?_;try simp only [W]
 refine zE yd ?_;refine zu fun K5 Cb=> ?_;refine zQ gC ?_;try simp only [W,Nat.reduceAdd]
 refine z_ h fun C1 ET h=> ?_;obtain ⟨BK,BD,Cs⟩:=C1;try dsimp only at h
 refine Nk ET hS fun v10 B6 H hS=> ?_;try simp only [W]
 refine zE Cb ?_;refine zu fun ES CG=> ?_;refine zQ gC ?_;try simp only [W,Nat.reduceAdd]
 refine zE CG ?_;refine zu fun Ev CH=> ?_;refine zu fun D9 Cv=> ?_;refine zQ gC ?_;try simp only [W,EE,Nat.reduceAdd]
 refine z7 0 hS rfl B6 rfl ?_;try simp only [W]
 refine zE Cv ?_;obtain ⟨Ls,Ny,Nz⟩:=Option.bind_eq_some_iff.1 h;refine Ae gC (fun s H=> ∃El:List Int,∃De:List Int,∃F4:Int,∃Em:Int,Ls=(El,De,F4,Em)∧ ∃EV:AV,bB EV∧s=[u,u,u,u,u,.ptr Gf Gg 0 0,v10,.int .i64 BD,EV,u,u,u,u,u,u,u,u,u,u,u,u,u,u,u,u,u,u,u,u,u,u,u,u,u,u,u,u,u,u,u,u,u,u,u]∧aA H (⟨v10,1,BK.map (AV.int .i64)⟩::⟨EV,1,El.map (AV.int .i64)⟩::⟨.ptr Gf Gg 0 0,3,[.agg [.fz (De.map (AV.int .u8)),.int .i64 F4,.int .u64 Em]]⟩::F)) (fun Js EW=> ?_) (fun s H hq=> ?_)
 ·refine zw fun Ez CU=> ?_;refine Aa gC Ny (fun x s H=>match x with|(Cc,CL,Cz,Dr,Fh)=> ∃Gh:AV,bB Gh∧s=[u,u,u,u,u,.ptr Gf Gg 0 0,v10,.int .i64 BD,Gh,u,u,u,u,u,u,u,u,u,.int .i64 (BK.length:Int),.int .i64 CL,u,u,u,u,u,u,u,u,u,u,u,u,u,u,u,u,u,u,u,u,u,u,u,u]∧aA H (⟨v10,1,BK.map (AV.int .i64)⟩::⟨Gh,1,Cc.map (AV.int .i64)⟩::⟨.ptr Gf Gg 0 0,3,[.agg [.fz (Cz.map (AV.int .u8)),.int .i64 Dr,.int .u64 Fh]]⟩::F)) ⟨_,oO,rfl,((hS.Ap 1).At 3 [1,0,2] (by decide))⟩ (fun x Lt s H h NA hi Gi Dn=> ?_)
  obtain ⟨Cc,CL,Cz,Dr,Fh⟩:=x;try dsimp only at hi
  obtain ⟨Gh,Gj,rfl,hS⟩:=hi;simp only [I6] at h;refine zu fun Jt EX=> ?_;refine zQ gC ?_;try simp only [W,EE,Nat.reduceAdd]
  refine zE EX ?_;refine zu fun Lu Fx=> ?_;refine zC ?_;simp only [W];refine zP h (fun hc h=> ?_) (fun hc h=> ?_)
  ·refine zx ?_;refine zE Fx ?_;refine zu fun Lv Gk=> ?_;refine zw fun Gc Dt=> ?_;refine zQ gC ?_;try simp only [W,Nat.reduceAdd]
   refine z_ h fun EG Gl h=> ?_;refine Iy Gl hS fun H hS=> ?_;try simp only [W]
   refine z_ h fun DV Ju h=> ?_;obtain ⟨BR,CF⟩:=DV;try dsimp only at h
   refine Fs Ju (hS.At 3 [2,0,1] (by decide)) fun H hS=> ?_
   try simp only [W]
   refine z9 (el:=([BR]:List Int).map (AV.int .i64)) hS rfl rfl rfl rfl rfl rfl rfl fun NB H Jv hS=> ?_;try simp only [W,EE]
   refine Ao (l:=Cc) (c:=(AV.int .i64)) 3 hS rfl Gj rfl rfl rfl (hS.gS 0 rfl Jv) (fun _=>rfl) rfl h fun R1 H EH NC hm h hS=> ?_;try simp only [W]
   refine zI Dt ?_;refine zE Gk ?_;refine zQ gC ?_;try simp only [W,EE,Nat.reduceAdd]
   exact Ab Dn h ⟨_,NC,rfl,(hS.At 4 [2,3,1] (by decide))⟩
  ·refine zB ?_;refine zG Fx ?_;try obtain rfl:=Option.some.inj h
   obtain rfl:=NA _ rfl;have h:(some (Cc,Cz,Dr,Fh):Option ((List Int)×(List Int)×Int×Int))=some (Cc,Cz,Dr,Fh):=rfl;refine Ac Dn ?_;refine zJ CU ?_;exact Af EW ⟨_,_,_,_,(Option.some.inj h).symm,_,Gj,rfl,hS⟩
 ·obtain ⟨El,De,F4,Em,rfl,EV,Jw,rfl,hS⟩:=hq;replace h:=Nz;try dsimp only at h
  refine zE CH ?_;refine zu fun ND Jx=> ?_;refine zu fun Jy Gm=> ?_;obtain ⟨NE,h,NF⟩:=Option.bind_eq_some_iff.1 h;refine Ae gC (fun s H=> ∃GM:Bool,∃ED:List Int,∃GN:Int,∃EI:Int,NE=(GM,ED,GN,EI)∧s=[u,u,u,u,u,.ptr Gf Gg 0 0,v10,.int .i64 BD,EV,u,u,u,u,u,u,u,u,u,u,u,u,u,u,u,u,u,u,u,u,u,u,u,u,u,u,.bool GM,u,u,u,u,u,u,u,u]∧aA H (⟨v10,1,BK.map (AV.int .i64)⟩::⟨EV,1,El.map (AV.int .i64)⟩::⟨.ptr Gf Gg 0 0,3,[.agg [.fz (ED.map (AV.int .u8)),.int .i64 GN,.int .u64 EI]]⟩::F)) (fun Ll Gd=> ?_) (fun s H hq=> ?_)
  ·refine zu fun Np Iv=> ?_;refine zQ gC ?_;try simp only [W,EE,Nat.reduceAdd]
   refine z7 1 hS rfl Jw rfl ?_;try simp only [W,EE]
   refine Av h (fun hc h=> ?_) (fun hc h=> ?_)
   ·try simp only [W,hc]
    refine z_ h fun Il NG h=> ?_;obtain ⟨En,HU⟩:=Il;try dsimp only at h
    refine Jh NG (hS.At 3 [2,0,1] (by decide)) fun H hS=> ?_
    try simp only [W,reduceIte]
    refine zE Iv ?_;refine zD ?_;exact Af Gd ⟨_,_,_,_,(Option.some.inj h).symm,rfl,(hS.At 3 [1,2,0] (by decide))⟩
   ·try simp only [W,hc]
    refine zE Iv ?_;refine zD ?_;exact Af Gd ⟨_,_,_,_,(Option.some.inj h).symm,rfl,hS⟩
  ·obtain ⟨GM,ED,GN,EI,rfl,rfl,hS⟩:=hq;replace h:=NF;try dsimp only at h
   refine zE Gm ?_;obtain ⟨Jo,h,Jp⟩:=Option.bind_eq_some_iff.1 h;refine Ae gC (fun s H=> ∃Dz:List Int,Jo=(Dz)∧s=[u,u,u,u,u,u,v10,.int .i64 BD,EV,u,u,u,u,u,u,u,u,u,u,u,u,u,u,u,u,u,u,u,u,u,u,u,u,u,u,u,u,u,u,u,u,u,u,u]∧aA H (⟨v10,1,BK.map (AV.int .i64)⟩::⟨EV,1,Dz.map (AV.int .i64)⟩::F)) (fun Ln Fv=> ?_) (fun s H hq=> ?_)
   ·refine zu fun Nq Hw=> ?_;refine zC ?_;simp only [W];refine zP h (fun hc h=> ?_) (fun hc h=> ?_)
    ·refine zQ gC ?_;try simp only [W,Nat.reduceAdd]
     refine z_ h fun DU Iw h=> ?_;obtain ⟨DO,GF⟩:=DU;try dsimp only at h
     refine Fs Iw (hS.At 3 [2,0,1] (by decide)) fun H hS=> ?_
     try simp only [W,EE]
     refine zZ 2 hS rfl rfl rfl rfl rfl h (fun NH NI NJ NK Hy h Hz=> ?_) Jw.ne;obtain ⟨NL,NM,NN⟩:=hS.elem 2 rfl Hz Hy;try simp only [W]
     refine z6 (a:= .int .i64 (IntKind.i64.wrap (DO-1))) (y' :=(IntKind.i64.wrap (DO-1))) 2 hS rfl Hz Hy rfl rfl rfl rfl rfl rfl rfl fun H hS=> ?_
     try simp only [W]
     refine zE Hw ?_;refine zD ?_;exact Af Fv ⟨_,(Option.some.inj h).symm,rfl,(hS.At 3 [1,2] (by decide))⟩
    ·refine zx ?_;refine zE Hw ?_;refine zD ?_;exact Af Fv ⟨_,(Option.some.inj h).symm,rfl,(hS.At 3 [0,1] (by decide))⟩
   ·obtain ⟨Dz,BH,rfl,hS⟩:=hq;obtain rfl:=BH.symm;replace h:=Jp;try dsimp only at h
    refine zE Jx ?_;refine zu fun R2 NO=> ?_;refine zQ gC ?_;try simp only [W,Nat.reduceAdd]
    refine zE NO ?_;refine zy ?_;refine zN BA rfl rfl rfl ?_;try obtain rfl:=Option.some.inj h
    exact Bz _ B6 _ Jw _ hS
theorem NP {a0:List Int} {g1:Int→Option Bool} {f1:FuncId} {c1:List AV} {r:(Int)} (h:GP a0 g1=some r) {F:List It} {H:J} (cr: ∀{x0:Int} {r:Bool},g1 x0=some r→ ∀(L:List It) (n:Nat),L.drop n=F→ ∀(H:J),aA H L→ ∀(P:AV→J→Prop),(∀H',aA H' L→P (.bool r) H')→au C f1 ([.int .i64 x0] ++ c1) H P) (hS:aA H (F)) {P:AV→J→Prop} (Bz: ∀H',aA H' (F)→P (.int .i64 r) H'):au C 125 [.fz (a0.map (AV.int .i64)),.fn f1 c1] H P:=by
 refine zT gC (res:=[.tmp 4]) (n:=19) rfl rfl rfl rfl fun K0 BA=> ?_;simp only [W,Nat.reduceSub,Nat.reduceAdd,List.replicate];unfold GP at h;refine zu fun K1 BC=> ?_;refine zQ gC ?_;try simp only [W,Nat.reduceAdd]
 refine zE BC ?_;refine zu fun K2 yd=> ?_;refine zu fun K3 BL=> ?_;refine zQ gC ?_;try simp only [W,EE,Nat.reduceAdd]
 refine zE BL ?_;obtain ⟨DG,Fy,Ed⟩:=Option.bind_eq_some_iff.1 h;refine Ae gC (fun s H=>DG=LR.next ()∧s=[u,u,u,u,u,u,u,u,u,u,u,u,u,u,u,u,u,u,u]∧aA H (F)) (fun K7 B5=> ?_) (fun s H hq=> ?_)
 ·refine zw fun K8 B4=> ?_;refine Aa gC Fy (fun x s H=>s=[.fz (a0.map (AV.int .i64)),.fn f1 c1,u,u,u,u,u,.int .i64 (a0.length:Int),.int .i64 x,u,u,u,u,u,u,u,u,u,u]∧aA H (F)) ⟨rfl,hS⟩ (fun BO Fz s H h Ee hi K9 Cd=> ?_)
  skip
  try dsimp only at hi
  obtain ⟨rfl,hS⟩:=hi;simp only [I7] at h;refine zu fun Ev CH=> ?_;refine zQ gC ?_;try simp only [W,EE,Nat.reduceAdd]
  refine zE CH ?_;refine zu fun D9 Cv=> ?_;refine zC ?_;simp only [W];refine zP h (fun hc h=> ?_) (fun hc h=> ?_)
  ·refine zx ?_;refine zE Cv ?_;refine zu fun Fq CO=> ?_;refine zw fun DW Ck=> ?_;refine zu fun C9 BW=> ?_;refine zQ gC ?_;try simp only [W,Nat.reduceAdd]
   refine zE BW ?_;refine zu fun C4 BX=> ?_;refine zQ gC ?_;try simp only [W,EE,Nat.reduceAdd]
   refine zY rfl rfl rfl (fun _=>rfl) h fun DQ Hp h=> ?_;try simp only [W,EE]
   refine z_ h fun Dq Hr h=> ?_;refine cr Hr _ 0 rfl _ hS _ fun H hS=> ?_;try simp only [W]
   refine zE BX ?_;refine zC ?_;simp only [W];refine zP h (fun hc h=> ?_) (fun hc h=> ?_)
   ·refine zu fun HA DY=> ?_;refine zQ gC ?_;try simp only [W,Nat.reduceAdd]
    refine zE DY ?_;refine zy ?_;refine zK Ck ?_;refine zF CO ?_;try obtain rfl:=Option.some.inj h
    obtain rfl:=Ee _ rfl;have h:(some (LR.done BO):Option (LR Unit (Int)))=some (LR.done BO):=rfl;refine Ad Cd ?_;refine zK B4 ?_;try obtain rfl:=Option.some.inj h
    obtain rfl:=Option.some.inj Ed;have h:(some BO:Option (Int))=some BO:=rfl;refine Ag B5 ?_;refine zF yd ?_;refine zL BA rfl ?_;try obtain rfl:=Option.some.inj h
    exact Bz _ hS
   ·refine zx ?_;refine zI Ck ?_;refine zE CO ?_;refine zQ gC ?_;try simp only [W,EE,Nat.reduceAdd]
    exact Ab Cd h ⟨rfl,hS⟩
  ·refine zB ?_;refine zG Cv ?_;try obtain rfl:=Option.some.inj h
   obtain rfl:=Ee _ rfl;have h:(some (LR.next ()):Option (LR Unit (Int)))=some (LR.next ()):=rfl
   refine Ac Cd ?_;refine zJ B4 ?_;exact Af B5 ⟨(Option.some.inj h).symm,rfl,hS⟩
 ·obtain ⟨rfl,rfl,hS⟩:=hq;replace h:=Ed;try dsimp only at h
  refine zE yd ?_;refine zu fun Iz Ef=> ?_;refine zQ gC ?_;try simp only [W,Nat.reduceAdd]
  refine zE Ef ?_;refine zy ?_;refine zL BA rfl ?_;try obtain rfl:=Option.some.inj h
  exact Bz _ hS
theorem Lw {a0:List Int} {g1:Int→Option Bool} {f1:FuncId} {c1:List AV} {r:(Bool)} (h:F5 a0 g1=some r) {F:List It} {H:J} (cr: ∀{x0:Int} {r:Bool},g1 x0=some r→ ∀(L:List It) (n:Nat),L.drop n=F→ ∀(H:J),aA H L→ ∀(P:AV→J→Prop),(∀H',aA H' L→P (.bool r) H')→au C f1 ([.int .i64 x0] ++ c1) H P) (hS:aA H (F)) {P:AV→J→Prop} (Bz: ∀H',aA H' (F)→P (.bool r) H'):au C 63 [.fz (a0.map (AV.int .i64)),.fn f1 c1] H P:=by
 refine zT gC (res:=[.tmp 4]) (n:=9) rfl rfl rfl rfl fun K0 BA=> ?_;simp only [W,Nat.reduceSub,Nat.reduceAdd,List.replicate];unfold F5 at h;refine zu fun K1 BC=> ?_;refine zQ gC ?_;try simp only [W,Nat.reduceAdd]
 refine zE BC ?_;refine zu fun K2 yd=> ?_;refine zQ gC ?_;try simp only [W,Nat.reduceAdd]
 refine z_ h fun b3 j9 h=> ?_;refine NP j9 cr hS fun H hS=> ?_;try simp only [W,EE]
 refine zE yd ?_;refine zy ?_;refine zL BA rfl ?_;try obtain rfl:=Option.some.inj h
 exact Bz _ hS
theorem Jz {a0:Int} {a1:Int} {a2:Int} {r:(Bool)} (h:Fi a0 a1 a2=some r) {F:List It} {H:J} (hS:aA H (F)) {P:AV→J→Prop} (Bz: ∀H',aA H' (F)→P (.bool r) H'):au C 65 [.int .i64 a0,.int .i64 a1,.int .i64 a2] H P:=by
 refine zT gC (res:=[.tmp 6]) (n:=15) rfl rfl rfl rfl fun K0 BA=> ?_;simp only [W,Nat.reduceSub,Nat.reduceAdd,List.replicate];unfold Fi at h;refine zu fun K1 BC=> ?_;refine zQ gC ?_;try simp only [W,Nat.reduceAdd]
 refine zE BC ?_;refine zu fun K2 yd=> ?_;refine zQ gC ?_;try simp only [W,EE,Nat.reduceAdd]
 refine Av h (fun hc h=> ?_) (fun hc h=> ?_)
 ·try simp only [W,EE,reduceIte,hc]
  refine zE yd ?_;refine zy ?_;refine zL BA rfl ?_;try obtain rfl:=Option.some.inj h
  exact Bz _ hS
 ·try simp only [W,hc]
  refine zE yd ?_;refine zy ?_;refine zL BA rfl ?_;try obtain rfl:=Option.some.inj h
  exact Bz _ hS
theorem NQ {a0:Int} {r:(Bool)} (h:HV a0=some r) {F:List It} {H:J} (hS:aA H (F)) {P:AV→J→Prop} (Bz: ∀H',aA H' (F)→P (.bool r) H'):au C 80 [.int .i64 a0] H P:=by
 refine zT gC (res:=[.tmp 2]) (n:=6) rfl rfl rfl rfl fun K0 BA=> ?_;simp only [W,Nat.reduceSub,Nat.reduceAdd,List.replicate];unfold HV at h;refine zu fun K1 BC=> ?_;refine zQ gC ?_;try simp only [W,Nat.reduceAdd]
 refine zE BC ?_;refine zu fun K2 yd=> ?_;refine zQ gC ?_;try simp only [W,Nat.reduceAdd]
 refine z_ h fun b3 j9 h=> ?_;refine Jz j9 hS fun H hS=> ?_;try simp only [W]
 refine zE yd ?_;refine zy ?_;refine zL BA rfl ?_;try obtain rfl:=Option.some.inj h
 exact Bz _ hS
theorem Gn {a0:List Int} {a1:Int} {r:(Bool)} (h:D4 a0 a1=some r) {F:List It} {H:J} (hS:aA H (F)) {P:AV→J→Prop} (Bz: ∀H',aA H' (F)→P (.bool r) H'):au C 19 [.fz (a0.map (AV.int .i64)),.int .i64 a1] H P:=by
 refine zT gC (res:=[.tmp 4]) (n:=17) rfl rfl rfl rfl fun K0 BA=> ?_;simp only [W,Nat.reduceSub,Nat.reduceAdd,List.replicate];unfold D4 at h;refine zu fun K1 BC=> ?_;refine zQ gC ?_;try simp only [W,Nat.reduceAdd]
 refine zE BC ?_;refine zu fun K2 yd=> ?_;refine zQ gC ?_;try simp only [W,EE,Nat.reduceAdd]
 refine Av h (fun hc h=> ?_) (fun hc h=> ?_)
 ·try simp only [W,hc]
  refine z_ h fun b3 j9 h=> ?_;refine Lw j9 (fun h _ n hL _ hS _ Bz=>NQ h hS Bz) hS fun H hS=> ?_;try simp only [W,reduceIte]
  refine Av h (fun hc h=> ?_) (fun hc h=> ?_)
  ·try simp only [W,hc]
   refine z_ h fun BU CP h=> ?_;refine Jz CP hS fun H hS=> ?_;try simp only [W,reduceIte]
   refine zE yd ?_;refine zy ?_;refine zL BA rfl ?_;try obtain rfl:=Option.some.inj h
   exact Bz _ hS
  ·try simp only [W,hc]
   refine zE yd ?_;refine zy ?_;refine zL BA rfl ?_;try obtain rfl:=Option.some.inj h
   exact Bz _ hS
 ·try simp only [W,hc]
  refine zE yd ?_;refine zy ?_;refine zL BA rfl ?_;try obtain rfl:=Option.some.inj h
  exact Bz _ hS
theorem NR {a0:Int} {a1:Int} {i1:Nat} {w1:Nat} {r:(Bool)} (h:HW a0 a1=some r) {F:List It} {H:J} (NS:⟨.ptr i1 w1 0 0,1,[.int .i64 a1]⟩∈F) (hS:aA H (F)) {P:AV→J→Prop} (Bz: ∀H',aA H' (F)→P (.bool r) H'):au C 64 [.int .i64 a0,.ptr i1 w1 0 0] H P:=by
 refine zT gC (res:=[.tmp 3]) (n:=9) rfl rfl rfl rfl fun K0 BA=> ?_;simp only [W,Nat.reduceSub,Nat.reduceAdd,List.replicate];unfold HW at h;refine zu fun K1 BC=> ?_;refine zQ gC ?_;try simp only [W,Nat.reduceAdd]
 refine zE BC ?_;refine zu fun K2 yd=> ?_;refine zQ gC ?_;try simp only [W,EE,Nat.reduceAdd,hS.Ar NS]
 refine z_ h fun b3 j9 h=> ?_;refine Jz j9 hS fun H hS=> ?_;try simp only [W]
 refine zE yd ?_;refine zy ?_;refine zL BA rfl ?_;try obtain rfl:=Option.some.inj h
 exact Bz _ hS
theorem NT {a0:List Int} {a1:Int} {a2:List Int} {r:(List Int)} (h:GQ a0 a1 a2=some r) {F:List It} {H:J} (hS:aA H (F)) {P:AV→J→Prop} (Bz: ∀JA:AV,bB JA→ ∀H',aA H' (⟨JA,1,r.map (AV.int .i64)⟩::F)→P (JA) H'):au C 67 [.fz (a0.map (AV.int .i64)),.int .i64 a1,.fz (a2.map (AV.int .i64))] H P:=by
 refine zT gC (res:=[.tmp 6]) (n:=31) rfl rfl rfl rfl fun K0 BA=> ?_;simp only [W,Nat.reduceSub,Nat.reduceAdd,List.replicate];unfold GQ at h;refine zu fun K1 BC=> ?_;refine zQ gC ?_;try simp only [W,Nat.reduceAdd]
 refine zE BC ?_;refine zu fun K2 yd=> ?_;refine zQ gC ?_;try simp only [W,Nat.reduceAdd]
 refine An (c:=(AV.int .i64)) hS rfl rfl rfl rfl rfl rfl h fun CB H BG Da hm h hS=> ?_;try simp only [W]
 refine zE yd ?_;refine zu fun K6 Ce=> ?_;refine zu fun K7 B5=> ?_;refine zQ gC ?_;try simp only [W,EE,Nat.reduceAdd]
 refine zE B5 ?_;obtain ⟨Fz,JB,JC⟩:=Option.bind_eq_some_iff.1 h;refine Ae gC (fun s H=> ∃Ct:List Int,Fz=(Ct)∧s=[u,u,u,u,u,u,u,CB,u,u,u,u,u,u,u,u,u,u,u,u,u,u,u,u,u,u,u,u,u,u,u]∧aA H (⟨CB,1,Ct.map (AV.int .i64)⟩::F)) (fun Ev CH=> ?_) (fun s H hq=> ?_)
 ·refine zw fun D9 Cv=> ?_;refine Aa gC JB (fun x s H=>match x with|(B_,BF)=>s=[u,u,.fz (a2.map (AV.int .i64)),u,u,u,u,CB,u,u,u,u,.fz (a0.map (AV.int .i64)),.int .i64 (a0.length:Int),.int .i64 BF,u,u,u,u,u,u,u,u,u,u,u,u,u,u,u,u]∧aA H (⟨CB,1,B_.map (AV.int .i64)⟩::F)) ⟨rfl,hS⟩ (fun x NU s H h JD hi Fq CO=> ?_)
  obtain ⟨B_,BF⟩:=x;try dsimp only at hi
  obtain ⟨rfl,hS⟩:=hi;simp only [HX] at h;refine zu fun Dm B3=> ?_;refine zQ gC ?_;try simp only [W,EE,Nat.reduceAdd]
  refine zE B3 ?_;refine zu fun EA CC=> ?_;refine zC ?_;simp only [W];refine zP h (fun hc h=> ?_) (fun hc h=> ?_)
  ·refine zx ?_;refine zE CC ?_;refine zu fun HA DY=> ?_;refine zw fun Ft C_=> ?_;refine zu fun Eb Cq=> ?_;refine zQ gC ?_;try simp only [W,EE,Nat.reduceAdd]
   refine zY rfl rfl rfl (fun _=>rfl) h fun DR R3 h=> ?_;try simp only [W,EE]
   refine zE Cq ?_;refine zQ gC ?_;try simp only [W,EE,Nat.reduceAdd]
   refine zY rfl rfl rfl (fun _=>rfl) h fun BY R4 h=> ?_;try simp only [W,EE]
   refine zZ 0 hS rfl rfl rfl rfl rfl h (fun BZ R5 R6 R7 IA h NV=> ?_) Da.ne;obtain ⟨R8,NW,NX⟩:=hS.elem 0 rfl NV IA;try simp only [W,EE,NW,NX]
   refine zZ 0 hS rfl rfl rfl rfl rfl h (fun Cu Ly Lz LA EB h Gp=> ?_) Da.ne;obtain ⟨LB,IB,IC⟩:=hS.elem 0 rfl Gp EB;try simp only [W]
   refine z6 (a:= .int .i64 (IntKind.i64.wrap (BZ+DR))) (y' :=(IntKind.i64.wrap (BZ+DR))) 0 hS rfl Gp EB rfl rfl rfl rfl rfl rfl rfl fun H hS=> ?_
   try simp only [W]
   refine zI C_ ?_;refine zE DY ?_;refine zQ gC ?_;try simp only [W,EE,Nat.reduceAdd]
   exact Ab CO h ⟨rfl,hS⟩
  ·refine zB ?_;refine zG CC ?_;try obtain rfl:=Option.some.inj h
   obtain rfl:=JD _ rfl;have h:(some (B_):Option ((List Int)))=some (B_):=rfl;refine Ac CO ?_;refine zJ Cv ?_;exact Af CH ⟨_,(Option.some.inj h).symm,rfl,hS⟩
 ·obtain ⟨Ct,BH,rfl,hS⟩:=hq;obtain rfl:=BH.symm;replace h:=JC;try dsimp only at h
  refine zE Ce ?_;refine zu fun JE EY=> ?_;refine zQ gC ?_;try simp only [W,Nat.reduceAdd]
  refine zE EY ?_;refine zy ?_;refine zL BA rfl ?_;try obtain rfl:=Option.some.inj h
  exact Bz _ Da _ hS
theorem ID {a0:List Int} {r:(Int)} (h:EJ a0=some r) {F:List It} {H:J} (hS:aA H (F)) {P:AV→J→Prop} (Bz: ∀H',aA H' (F)→P (.int .i64 r) H'):au C 66 [.fz (a0.map (AV.int .i64))] H P:=by
 refine zT gC (res:=[.tmp 2]) (n:=25) rfl rfl rfl rfl fun K0 BA=> ?_;simp only [W,Nat.reduceSub,Nat.reduceAdd,List.replicate];unfold EJ at h;refine zu fun K1 BC=> ?_;refine zQ gC ?_;try simp only [W,Nat.reduceAdd]
 refine zE BC ?_;refine zu fun K2 yd=> ?_;refine zu fun K3 BL=> ?_;refine zQ gC ?_;try simp only [W,EE,Nat.reduceAdd]
 refine zE BL ?_;obtain ⟨Gq,h,g5⟩:=Option.bind_eq_some_iff.1 h;refine Ae gC (fun s H=>Gq=()∧s=[.fz (a0.map (AV.int .i64)),u,u,u,u,u,u,u,u,u,u,u,u,u,u,u,u,u,u,u,u,u,u,u,u]∧aA H (F)) (fun K6 Ce=> ?_) (fun s H hq=> ?_)
 ·refine zu fun K7 B5=> ?_;refine zC ?_;simp only [W];refine zP h (fun hc h=> ?_) (fun hc h=> ?_)
  ·refine zQ gC ?_;try simp only [W,Nat.reduceAdd]
   exact absurd h (by simp)
  ·refine zx ?_;refine zE B5 ?_;refine zD ?_;exact Af Ce ⟨(Option.some.inj h).symm,rfl,hS⟩
 ·obtain ⟨rfl,rfl,hS⟩:=hq;replace h:=g5;try dsimp only at h
  refine zE yd ?_;refine zu fun K8 B4=> ?_;refine zQ gC ?_;try simp only [W,EE,Nat.reduceAdd]
  refine zY rfl rfl rfl (fun _=>rfl) h fun Cs Fu h=> ?_;try simp only [W,EE]
  refine zE B4 ?_;refine zu fun D_ Cw=> ?_;refine zu fun Eu CN=> ?_;refine zQ gC ?_;try simp only [W,Nat.reduceAdd]
  refine zE CN ?_;obtain ⟨Ea,FA,FB⟩:=Option.bind_eq_some_iff.1 h;refine Ae gC (fun s H=> ∃BQ:Int,Ea=(BQ)∧s=[u,u,u,.int .i64 BQ,u,u,u,u,u,u,u,u,u,u,u,u,u,u,u,u,u,u,u,u,u]∧aA H (F)) (fun C9 BW=> ?_) (fun s H hq=> ?_)
  ·refine zw fun C4 BX=> ?_;refine Aa gC FA (fun x s H=>match x with|(BB,BE)=>s=[.fz (a0.map (AV.int .i64)),u,u,.int .i64 BB,.int .i64 BE,u,u,u,u,u,u,u,u,u,u,u,u,u,u,u,u,u,u,u,u]∧aA H (F)) ⟨rfl,hS⟩ (fun x HB s H h FC hi Dm B3=> ?_)
   obtain ⟨BB,BE⟩:=x;try dsimp only at hi
   obtain ⟨rfl,hS⟩:=hi;simp only [GR] at h;refine zu fun Eb Cq=> ?_;refine zu fun DH Cf=> ?_;refine zQ gC ?_;try simp only [W,EE,Nat.reduceAdd]
   refine zE Cf ?_;refine zC ?_;simp only [W];refine zP h (fun hc h=> ?_) (fun hc h=> ?_)
   ·refine zx ?_;refine zE Cq ?_;refine zu fun DZ Cg=> ?_;refine zw fun EZ C5=> ?_;refine zQ gC ?_;try simp only [W,EE,Nat.reduceAdd]
    refine zY rfl rfl rfl (fun _=>rfl) h fun D5 LC h=> ?_;try simp only [W,EE]
    refine zI C5 ?_;refine zE Cg ?_;refine zQ gC ?_;try simp only [W,EE,Nat.reduceAdd]
    exact Ab B3 h ⟨rfl,hS⟩
   ·refine zB ?_;refine zG Cq ?_;try obtain rfl:=Option.some.inj h
    obtain rfl:=FC _ rfl;have h:(some (BB):Option (Int))=some (BB):=rfl;refine Ac B3 ?_;refine zJ BX ?_;exact Af BW ⟨_,(Option.some.inj h).symm,rfl,hS⟩
  ·obtain ⟨BQ,BH,rfl,hS⟩:=hq;obtain rfl:=BH.symm;replace h:=FB;try dsimp only at h
   refine zE Cw ?_;refine zu fun Ez CU=> ?_;refine zQ gC ?_;try simp only [W,Nat.reduceAdd]
   refine zE CU ?_;refine zy ?_;refine zL BA rfl ?_;try obtain rfl:=Option.some.inj h
   exact Bz _ hS
theorem JF {a0:List Int} {a1:Int} {a2:List Int} {r:(Int×Bool)} (h:Fj a0 a1 a2=some r) {F:List It} {H:J} (hS:aA H (F)) {P:AV→J→Prop} (Bz: ∀H',aA H' (F)→P (.aC [.int .i64 r.1,.bool r.2]) H'):au C 8 [.fz (a0.map (AV.int .i64)),.int .i64 a1,.fz (a2.map (AV.int .i64))] H P:=by
 refine zT gC (res:=[.tmp 6,.tmp 7]) (n:=29) rfl rfl rfl rfl fun K0 BA=> ?_;simp only [W,Nat.reduceSub,Nat.reduceAdd,List.replicate];unfold Fj at h;refine zu fun K1 BC=> ?_;refine zQ gC ?_;try simp only [W,Nat.reduceAdd]
 refine zV hS rfl rfl rfl rfl fun JH JI H hS=> ?_;try simp only [W]
 refine zE BC ?_;refine zu fun K4 Cp=> ?_;refine zu fun K5 Cb=> ?_;obtain ⟨NY,h,g8⟩:=Option.bind_eq_some_iff.1 h;refine Ae gC (fun s H=> ∃B2:Bool,NY=(B2)∧s=[.fz (a0.map (AV.int .i64)),u,.fz (a2.map (AV.int .i64)),u,.ptr JH JI 0 0,u,u,u,u,u,u,u,u,u,u,u,u,u,u,u,u,u,u,.bool B2,u,u,u,u,u]∧aA H (⟨.ptr JH JI 0 0,1,[.int .i64 a1]⟩::F)) (fun K9 Cd=> ?_) (fun s H hq=> ?_)
 ·refine zu fun D_ Cw=> ?_;refine zQ gC ?_;try simp only [W,EE,Nat.reduceAdd,hS.var 0 rfl]
  refine z_ h fun CY JJ h=> ?_;refine Gn JJ hS fun H hS=> ?_;try simp only [W]
  refine Av h (fun hc h=> ?_) (fun hc h=> ?_)
  ·try simp only [W,hc]
   refine zE Cw ?_;refine zD ?_;exact Af Cd ⟨_,(Option.some.inj h).symm,rfl,hS⟩
  ·try simp only [W,EE,reduceIte,Bool.false_eq_true,hc]
   refine Av h (fun hc h=> ?_) (fun hc h=> ?_)
   ·try simp only [W,hc]
    refine zE Cw ?_;refine zD ?_;exact Af Cd ⟨_,(Option.some.inj h).symm,rfl,hS⟩
   ·try simp only [W,hc]
    refine z_ h fun DS JK h=> ?_;refine Lw JK (fun h _ n hL _ hS _ Bz=>NR h (Au hL (List.mem_of_getElem? (i:=0) rfl)) hS Bz) hS fun H hS=> ?_;try simp only [W,reduceIte,Bool.false_eq_true]
    refine zE Cw ?_;refine zD ?_;exact Af Cd ⟨_,(Option.some.inj h).symm,rfl,hS⟩
 ·obtain ⟨B2,BH,rfl,hS⟩:=hq;obtain rfl:=BH.symm;replace h:=g8;try dsimp only at h
  refine zE Cb ?_;refine zC ?_;simp only [W];refine zP h (fun hc h=> ?_) (fun hc h=> ?_)
  ·refine zu fun Ev CH=> ?_;refine zQ gC ?_;try simp only [W,Nat.reduceAdd]
   refine zE CH ?_;refine zy ?_;refine zF Cp ?_;refine zM BA rfl rfl ?_;try obtain rfl:=Option.some.inj h
   exact Bz _ (hS.At 1 [] (by decide))
  ·refine zx ?_;refine zE Cp ?_;refine zu fun D9 Cv=> ?_;refine zQ gC ?_;try simp only [W,EE,Nat.reduceAdd,hS.var 0 rfl]
   refine z_ h fun DA HC h=> ?_;refine NT HC hS fun Gh Gj H hS=> ?_;try simp only [W]
   refine AQ (b7:=[[.sc]]) (ys:=[.fz (DA.map (AV.int .i64))]) h rfl (AE (AB hS 0 rfl Gj (fun _=>rfl)) AD) fun Ep LD h=>⟨.int .i64 Ep,ID LD (aA.nil _) fun H hS=>AJ rfl (AG rfl (AF rfl)),⟨rfl,rfl,fun _=>rfl⟩,?_⟩;try simp only [W]
   refine zE Cv ?_;refine zy ?_;refine zM BA rfl rfl ?_;try obtain rfl:=Option.some.inj h
   exact Bz _ (hS.At 2 [] (by decide))
theorem LF {a0:Int} {a1:Int} {a2:Int} {r:(Bool)} (h:F6 a0 a1 a2=some r) {F:List It} {H:J} (hS:aA H (F)) {P:AV→J→Prop} (Bz: ∀H',aA H' (F)→P (.bool r) H'):au C 90 [.int .i64 a0,.int .i64 a1,.int .i64 a2] H P:=by
 refine zT gC (res:=[.tmp 6]) (n:=15) rfl rfl rfl rfl fun K0 BA=> ?_;simp only [W,Nat.reduceSub,Nat.reduceAdd,List.replicate];unfold F6 at h;refine zu fun K1 BC=> ?_;refine zQ gC ?_;try simp only [W,Nat.reduceAdd]
 refine zE BC ?_;refine zu fun K2 yd=> ?_;refine zQ gC ?_;try simp only [W,EE,Nat.reduceAdd]
 refine Av h (fun hc h=> ?_) (fun hc h=> ?_)
 ·try simp only [W,EE,reduceIte,hc]
  refine zE yd ?_;refine zy ?_;refine zL BA rfl ?_;try obtain rfl:=Option.some.inj h
  exact Bz _ hS
 ·try simp only [W,hc]
  refine zE yd ?_;refine zy ?_;refine zL BA rfl ?_;try obtain rfl:=Option.some.inj h
  exact Bz _ hS
theorem LG {a0:List Int} {a1:Int} {a2:Int} {r:(Bool)} (h:F7 a0 a1 a2=some r) {F:List It} {H:J} (hS:aA H (F)) {P:AV→J→Prop} (Bz: ∀H',aA H' (F)→P (.bool r) H'):au C 69 [.fz (a0.map (AV.int .i64)),.int .i64 a1,.int .i64 a2] H P:=by
 refine zT gC (res:=[.tmp 6]) (n:=21) rfl rfl rfl rfl fun K0 BA=> ?_;simp only [W,Nat.reduceSub,Nat.reduceAdd,List.replicate];unfold F7 at h;refine zu fun K1 BC=> ?_;refine zQ gC ?_;try simp only [W,Nat.reduceAdd]
 refine zE BC ?_;refine zu fun K2 yd=> ?_;refine zu fun K3 BL=> ?_;refine zQ gC ?_;try simp only [W,EE,Nat.reduceAdd]
 refine zE BL ?_;obtain ⟨DG,Fy,Ed⟩:=Option.bind_eq_some_iff.1 h;refine Ae gC (fun s H=>DG=LR.next ()∧s=[u,u,u,u,u,u,u,u,u,u,u,u,u,u,u,u,u,u,u,u,u]∧aA H (F)) (fun K7 B5=> ?_) (fun s H hq=> ?_)
 ·refine zw fun K8 B4=> ?_;refine Aa gC Fy (fun x s H=>s=[u,.int .i64 a1,.int .i64 a2,u,u,u,u,u,u,.fz (a0.map (AV.int .i64)),.int .i64 (a0.length:Int),.int .i64 x,u,u,u,u,u,u,u,u,u]∧aA H (F)) ⟨rfl,hS⟩ (fun BO Fz s H h Ee hi K9 Cd=> ?_)
  skip
  try dsimp only at hi
  obtain ⟨rfl,hS⟩:=hi;simp only [GS] at h;refine zu fun Ev CH=> ?_;refine zQ gC ?_;try simp only [W,EE,Nat.reduceAdd]
  refine zE CH ?_;refine zu fun D9 Cv=> ?_;refine zC ?_;simp only [W];refine zP h (fun hc h=> ?_) (fun hc h=> ?_)
  ·refine zx ?_;refine zE Cv ?_;refine zu fun Fq CO=> ?_;refine zw fun DW Ck=> ?_;refine zu fun C9 BW=> ?_;refine zQ gC ?_;try simp only [W,EE,Nat.reduceAdd]
   refine zY rfl rfl rfl (fun _=>rfl) h fun Ep LD h=> ?_;try simp only [W,EE]
   refine zE BW ?_;refine zu fun Dm B3=> ?_;refine zQ gC ?_;try simp only [W,Nat.reduceAdd]
   refine z_ h fun Dq Hr h=> ?_;refine LF Hr hS fun H hS=> ?_;try simp only [W]
   refine zE B3 ?_;refine zC ?_;simp only [W];refine zP h (fun hc h=> ?_) (fun hc h=> ?_)
   ·refine zu fun HA DY=> ?_;refine zQ gC ?_;try simp only [W,Nat.reduceAdd]
    refine zE DY ?_;refine zy ?_;refine zK Ck ?_;refine zF CO ?_;try obtain rfl:=Option.some.inj h
    obtain rfl:=Ee _ rfl;have h:(some (LR.done false):Option (LR Unit (Bool)))=some (LR.done false):=rfl;refine Ad Cd ?_;refine zK B4 ?_;try obtain rfl:=Option.some.inj h
    obtain rfl:=Option.some.inj Ed;have h:(some false:Option (Bool))=some false:=rfl;refine Ag B5 ?_;refine zF yd ?_;refine zL BA rfl ?_;try obtain rfl:=Option.some.inj h
    exact Bz _ hS
   ·refine zx ?_;refine zI Ck ?_;refine zE CO ?_;refine zQ gC ?_;try simp only [W,EE,Nat.reduceAdd]
    exact Ab Cd h ⟨rfl,hS⟩
  ·refine zB ?_;refine zG Cv ?_;try obtain rfl:=Option.some.inj h
   obtain rfl:=Ee _ rfl;have h:(some (LR.next ()):Option (LR Unit (Bool)))=some (LR.next ()):=rfl
   refine Ac Cd ?_;refine zJ B4 ?_;exact Af B5 ⟨(Option.some.inj h).symm,rfl,hS⟩
 ·obtain ⟨rfl,rfl,hS⟩:=hq;replace h:=Ed;try dsimp only at h
  refine zE yd ?_;refine zu fun Iz Ef=> ?_;refine zQ gC ?_;try simp only [W,Nat.reduceAdd]
  refine zE Ef ?_;refine zy ?_;refine zL BA rfl ?_;try obtain rfl:=Option.some.inj h
  exact Bz _ hS
theorem HD {a0:List Int} {a1:Int} {r:(Bool)} (h:Er a0 a1=some r) {F:List It} {H:J} (hS:aA H (F)) {P:AV→J→Prop} (Bz: ∀H',aA H' (F)→P (.bool r) H'):au C 68 [.fz (a0.map (AV.int .i64)),.int .i64 a1] H P:=by
 refine zT gC (res:=[.tmp 4]) (n:=16) rfl rfl rfl rfl fun K0 BA=> ?_;simp only [W,Nat.reduceSub,Nat.reduceAdd,List.replicate];unfold Er at h;refine zu fun K1 BC=> ?_;refine zQ gC ?_;try simp only [W,Nat.reduceAdd]
 refine zE BC ?_;refine zu fun K2 yd=> ?_;refine zQ gC ?_;try simp only [W,EE,Nat.reduceAdd]
 refine Av h (fun hc h=> ?_) (fun hc h=> ?_)
 ·try simp only [W,hc]
  refine z_ h fun b3 j9 h=> ?_;refine LG j9 hS fun H hS=> ?_;try simp only [W,reduceIte]
  refine Av h (fun hc h=> ?_) (fun hc h=> ?_)
  ·try simp only [W,hc]
   refine z_ h fun BU CP h=> ?_;refine LF CP hS fun H hS=> ?_;try simp only [W,reduceIte]
   refine zE yd ?_;refine zy ?_;refine zL BA rfl ?_;try obtain rfl:=Option.some.inj h
   exact Bz _ hS
  ·try simp only [W,hc]
   refine zE yd ?_;refine zy ?_;refine zL BA rfl ?_;try obtain rfl:=Option.some.inj h
   exact Bz _ hS
 ·try simp only [W,hc]
  refine zE yd ?_;refine zy ?_;refine zL BA rfl ?_;try obtain rfl:=Option.some.inj h
  exact Bz _ hS
theorem JL {a0:List Int} {a1:Int} {a2:List Int} {r:(Int)} (h:EK a0 a1 a2=some r) {F:List It} {H:J} (hS:aA H (F)) {P:AV→J→Prop} (Bz: ∀H',aA H' (F)→P (.int .i64 r) H'):au C 70 [.fz (a0.map (AV.int .i64)),.int .i64 a1,.fz (a2.map (AV.int .i64))] H P:=by
 refine zT gC (res:=[.tmp 6]) (n:=38) rfl rfl rfl rfl fun K0 BA=> ?_;simp only [W,Nat.reduceSub,Nat.reduceAdd,List.replicate];unfold EK at h;refine zu fun K1 BC=> ?_;refine zQ gC ?_;try simp only [W,Nat.reduceAdd]
 refine zE BC ?_;refine zu fun K2 yd=> ?_;refine zQ gC ?_;try simp only [W,Nat.reduceAdd]
 refine An (c:=(AV.int .i64)) hS rfl rfl rfl rfl rfl rfl h fun CB H BG Da hm h hS=> ?_;try simp only [W]
 refine zE yd ?_;refine zu fun K6 Ce=> ?_;refine zQ gC ?_;try simp only [W,Nat.reduceAdd]
 refine zE Ce ?_;refine zu fun K7 B5=> ?_;refine zu fun K8 B4=> ?_;refine zQ gC ?_;try simp only [W,EE,Nat.reduceAdd]
 refine zE B4 ?_;obtain ⟨NZ,N0,N1⟩:=Option.bind_eq_some_iff.1 h;refine Ae gC (fun s H=> ∃BB:Int,NZ=(BB)∧s=[u,u,u,u,u,u,u,u,.int .i64 BB,u,u,u,u,u,u,u,u,u,u,u,u,u,u,u,u,u,u,u,u,u,u,u,u,u,u,u,u,u]∧aA H (F)) (fun Fq CO=> ?_) (fun s H hq=> ?_)
 ·refine zw fun DW Ck=> ?_;refine Aa gC N0 (fun x s H=>match x with|(BF,Ct,BN)=>s=[.fz (a0.map (AV.int .i64)),u,u,u,u,u,u,CB,.int .i64 Ct,u,u,u,u,.fz (a2.map (AV.int .i64)),.int .i64 (a2.length:Int),.int .i64 BN,u,u,u,u,u,u,u,u,u,u,u,u,u,u,u,u,u,u,u,u,u,u]∧aA H (⟨CB,1,BF.map (AV.int .i64)⟩::F)) ⟨rfl,hS⟩ (fun x R9 s H h N2 hi C9 BW=> ?_)
  obtain ⟨BF,Ct,BN⟩:=x;try dsimp only at hi
  obtain ⟨rfl,hS⟩:=hi;simp only [HY] at h;refine zu fun HA DY=> ?_;refine zQ gC ?_;try simp only [W,EE,Nat.reduceAdd]
  refine zE DY ?_;refine zu fun Ft C_=> ?_;refine zC ?_;simp only [W];refine zP h (fun hc h=> ?_) (fun hc h=> ?_)
  ·refine zx ?_;refine zE C_ ?_;refine zu fun Eb Cq=> ?_;refine zw fun DH Cf=> ?_;refine zu fun DZ Cg=> ?_;refine zQ gC ?_;try simp only [W,EE,Nat.reduceAdd]
   refine zY rfl rfl rfl (fun _=>rfl) h fun BZ IA h=> ?_;try simp only [W,EE]
   refine zE Cg ?_;refine zu fun FD Df=> ?_;refine Ax gC [(10,[])] (by kernel_rfl) rfl (by kernel_rfl) ?_
   try simp only [W,EE,reduceIte,Nat.reduceAdd,ig,kS,Nat.reduceEqDiff]
   refine zZ 0 hS rfl rfl rfl rfl rfl h (fun Cu Ly Lz LA EB h Gp=> ?_) Da.ne;obtain ⟨LB,IB,IC⟩:=hS.elem 0 rfl Gp EB;try simp only [W,EE,IB,IC]
   refine zY rfl rfl rfl (fun _=>rfl) h fun D6 N3 h=> ?_;try simp only [W,EE]
   refine zZ 0 hS rfl rfl rfl rfl rfl h (fun DT N4 N5 N6 Dg h D0=> ?_) Da.ne;obtain ⟨N7,N8,N9⟩:=hS.elem 0 rfl D0 Dg;try simp only [W]
   refine z6 (a:= .int .i64 (IntKind.i64.wrap (Cu+D6))) (y' :=(IntKind.i64.wrap (Cu+D6))) 0 hS rfl D0 Dg rfl rfl rfl rfl rfl rfl rfl fun H hS=> ?_
   try simp only [W]
   refine zE Df ?_;refine zQ gC ?_;try simp only [W,EE,Nat.reduceAdd]
   refine zZ 0 hS rfl rfl rfl rfl rfl h (fun GU R_ Sa Sb FE h FF=> ?_) Da.ne;obtain ⟨Sc,N_,Oa⟩:=hS.elem 0 rfl FF FE;try simp only [W,EE,N_,Oa]
   refine z_ h fun KS Ob h=> ?_;refine Iy Ob hS fun H hS=> ?_;try simp only [W]
   refine zI Cf ?_;refine zE Cq ?_;refine zQ gC ?_;try simp only [W,EE,Nat.reduceAdd]
   exact Ab BW h ⟨rfl,hS⟩
  ·refine zB ?_;refine zG C_ ?_;try obtain rfl:=Option.some.inj h
   obtain rfl:=N2 _ rfl;have h:(some (Ct):Option (Int))=some (Ct):=rfl;refine Ac BW ?_;refine zJ Ck ?_;exact Af CO ⟨_,(Option.some.inj h).symm,rfl,(hS.At 1 [] (by decide))⟩
 ·obtain ⟨BB,BH,rfl,hS⟩:=hq;obtain rfl:=BH.symm;replace h:=N1;try dsimp only at h
  refine zE B5 ?_;refine zu fun Gc Dt=> ?_;refine zQ gC ?_;try simp only [W,Nat.reduceAdd]
  refine zE Dt ?_;refine zy ?_;refine zL BA rfl ?_;try obtain rfl:=Option.some.inj h
  exact Bz _ hS
theorem Oc {a0:List Int} {a1:Int} {a2:List Int} {r:(Int×Bool)} (h:GV a0 a1 a2=some r) {F:List It} {H:J} (hS:aA H (F)) {P:AV→J→Prop} (Bz: ∀H',aA H' (F)→P (.aC [.int .i64 r.1,.bool r.2]) H'):au C 9 [.fz (a0.map (AV.int .i64)),.int .i64 a1,.fz (a2.map (AV.int .i64))] H P:=by
 refine zT gC (res:=[.tmp 6,.tmp 7]) (n:=30) rfl rfl rfl rfl fun K0 BA=> ?_;simp only [W,Nat.reduceSub,Nat.reduceAdd,List.replicate];unfold GV at h;refine zu fun K1 BC=> ?_;refine zQ gC ?_;try simp only [W,Nat.reduceAdd]
 refine zE BC ?_;refine zu fun K2 yd=> ?_;refine zu fun K3 BL=> ?_;obtain ⟨DG,h,Od⟩:=Option.bind_eq_some_iff.1 h;refine Ae gC (fun s H=> ∃BO:Bool,DG=(BO)∧s=[.fz (a0.map (AV.int .i64)),.int .i64 a1,.fz (a2.map (AV.int .i64)),u,u,u,u,u,u,u,u,u,u,u,u,u,u,u,u,u,u,u,u,u,u,.bool BO,u,u,u,u]∧aA H (F)) (fun K7 B5=> ?_) (fun s H hq=> ?_)
 ·refine zu fun K8 B4=> ?_;refine zQ gC ?_;try simp only [W,Nat.reduceAdd]
  refine z_ h fun Cs Fu h=> ?_;refine HD Fu hS fun H hS=> ?_;try simp only [W]
  refine Av h (fun hc h=> ?_) (fun hc h=> ?_)
  ·try simp only [W,hc]
   refine zE B4 ?_;refine zD ?_;exact Af B5 ⟨_,(Option.some.inj h).symm,rfl,hS⟩
  ·try simp only [W,EE,reduceIte,Bool.false_eq_true,hc]
   refine Av h (fun hc h=> ?_) (fun hc h=> ?_)
   ·try simp only [W,hc]
    refine zE B4 ?_;refine zD ?_;exact Af B5 ⟨_,(Option.some.inj h).symm,rfl,hS⟩
   ·try simp only [W,EE,hc]
    refine z_ h fun Cy ER h=> ?_;refine LG ER hS fun H hS=> ?_;try simp only [W,reduceIte,Bool.false_eq_true]
    refine zE B4 ?_;refine zD ?_;exact Af B5 ⟨_,(Option.some.inj h).symm,rfl,hS⟩
 ·obtain ⟨BO,BH,rfl,hS⟩:=hq;obtain rfl:=BH.symm;replace h:=Od;try dsimp only at h
  refine zE BL ?_;refine zC ?_;simp only [W];refine zP h (fun hc h=> ?_) (fun hc h=> ?_)
  ·refine zu fun Eu CN=> ?_;refine zQ gC ?_;try simp only [W,Nat.reduceAdd]
   refine zE CN ?_;refine zy ?_;refine zF yd ?_;refine zM BA rfl rfl ?_;try obtain rfl:=Option.some.inj h
   exact Bz _ hS
  ·refine zx ?_;refine zE yd ?_;refine zu fun ES CG=> ?_;refine zQ gC ?_;try simp only [W,Nat.reduceAdd]
   refine z_ h fun DB HE h=> ?_;refine JL HE hS fun H hS=> ?_;try simp only [W]
   refine zE CG ?_;refine zy ?_;refine zM BA rfl rfl ?_;try obtain rfl:=Option.some.inj h
   exact Bz _ hS
theorem LH {a0:List Int} {r:(List Int)} (h:F8 a0=some r) {F:List It} {H:J} (hS:aA H (F)) {P:AV→J→Prop} (Bz: ∀DE:AV,bB DE→ ∀H',aA H' (⟨DE,1,r.map (AV.int .i64)⟩::F)→P (DE) H'):au C 72 [.fz (a0.map (AV.int .i64))] H P:=by
 refine zT gC (res:=[.tmp 2]) (n:=17) rfl rfl rfl rfl fun K0 BA=> ?_;simp only [W,Nat.reduceSub,Nat.reduceAdd,List.replicate];unfold F8 at h;refine zu fun K1 BC=> ?_;refine zQ gC ?_;try simp only [W,Nat.reduceAdd]
 refine zE BC ?_;refine zu fun K2 yd=> ?_;refine zQ gC ?_;try simp only [W,Nat.reduceAdd]
 refine z8 rfl rfl ?_;try simp only [W]
 refine zE yd ?_;refine zu fun K3 BL=> ?_;refine zu fun K4 Cp=> ?_;refine zQ gC ?_;try simp only [W,EE,Nat.reduceAdd]
 refine zE Cp ?_;obtain ⟨Fz,JB,JC⟩:=Option.bind_eq_some_iff.1 h;refine Ae gC (fun s H=> ∃BF:List Int,Fz=(BF)∧ ∃v10:AV,bB v10∧s=[u,u,u,v10,u,u,u,u,u,u,u,u,u,u,u,u,u]∧aA H (⟨v10,1,BF.map (AV.int .i64)⟩::F)) (fun Ev CH=> ?_) (fun s H hq=> ?_)
 ·refine zw fun D9 Cv=> ?_;refine Aa gC JB (fun x s H=>match x with|(BG,B_)=> ∃v6:AV,bB v6∧s=[u,u,u,v6,u,u,u,.int .i64 (a0.length:Int),.int .i64 B_,u,u,u,u,u,u,u,u]∧aA H (⟨v6,1,BG.map (AV.int .i64)⟩::F)) ⟨_,oP,rfl,(hS.Aq 1)⟩ (fun x NU s H h JD hi Fq CO=> ?_)
  obtain ⟨BG,B_⟩:=x;try dsimp only at hi
  obtain ⟨v6,E0,rfl,hS⟩:=hi;simp only [HZ] at h;refine zu fun Dm B3=> ?_;refine zQ gC ?_;try simp only [W,EE,Nat.reduceAdd]
  refine zE B3 ?_;refine zu fun EA CC=> ?_;refine zC ?_;simp only [W];refine zP h (fun hc h=> ?_) (fun hc h=> ?_)
  ·refine zx ?_;refine zE CC ?_;refine zu fun HA DY=> ?_;refine zw fun Ft C_=> ?_;refine zu fun Eb Cq=> ?_;refine zQ gC ?_;try simp only [W,Nat.reduceAdd]
   refine zE Cq ?_;refine zQ gC ?_;try simp only [W,Nat.reduceAdd]
   refine z9 (el:=([B_]:List Int).map (AV.int .i64)) hS rfl rfl rfl rfl rfl rfl rfl fun Sd H Oe hS=> ?_;try simp only [W,EE]
   refine Ao (l:=BG) (c:=(AV.int .i64)) 1 hS rfl E0 rfl rfl rfl (hS.gS 0 rfl Oe) (fun _=>rfl) rfl h fun Og H Em JM hm h hS=> ?_;try simp only [W]
   refine zI C_ ?_;refine zE DY ?_;refine zQ gC ?_;try simp only [W,EE,Nat.reduceAdd]
   exact Ab CO h ⟨_,JM,rfl,(hS.At 2 [1] (by decide))⟩
  ·refine zB ?_;refine zG CC ?_;try obtain rfl:=Option.some.inj h
   obtain rfl:=JD _ rfl;have h:(some (BG):Option ((List Int)))=some (BG):=rfl;refine Ac CO ?_;refine zJ Cv ?_;exact Af CH ⟨_,(Option.some.inj h).symm,_,E0,rfl,hS⟩
 ·obtain ⟨BF,BH,v10,B6,rfl,hS⟩:=hq;obtain rfl:=BH.symm;replace h:=JC;try dsimp only at h
  refine zE BL ?_;refine zu fun Gi Dn=> ?_;refine zQ gC ?_;try simp only [W,Nat.reduceAdd]
  refine zE Dn ?_;refine zy ?_;refine zL BA rfl ?_;try obtain rfl:=Option.some.inj h
  exact Bz _ B6 _ hS
theorem Oh {a0:List Int} {r:(Int)} (h:GX a0=some r) {F:List It} {H:J} (hS:aA H (F)) {P:AV→J→Prop} (Bz: ∀H',aA H' (F)→P (.int .i64 r) H'):au C 127 [.fz (a0.map (AV.int .i64))] H P:=by
 refine zT gC (res:=[.tmp 2]) (n:=25) rfl rfl rfl rfl fun K0 BA=> ?_;simp only [W,Nat.reduceSub,Nat.reduceAdd,List.replicate];unfold GX at h;refine zu fun K1 BC=> ?_;refine zQ gC ?_;try simp only [W,Nat.reduceAdd]
 refine zE BC ?_;refine zu fun K2 yd=> ?_;refine zu fun K3 BL=> ?_;refine zQ gC ?_;try simp only [W,EE,Nat.reduceAdd]
 refine zE BL ?_;obtain ⟨Gq,h,g5⟩:=Option.bind_eq_some_iff.1 h;refine Ae gC (fun s H=>Gq=()∧s=[.fz (a0.map (AV.int .i64)),u,u,u,u,u,u,u,u,u,u,u,u,u,u,u,u,u,u,u,u,u,u,u,u]∧aA H (F)) (fun K6 Ce=> ?_) (fun s H hq=> ?_)
 ·refine zu fun K7 B5=> ?_;refine zC ?_;simp only [W];refine zP h (fun hc h=> ?_) (fun hc h=> ?_)
  ·refine zQ gC ?_;try simp only [W,Nat.reduceAdd]
   exact absurd h (by simp)
  ·refine zx ?_;refine zE B5 ?_;refine zD ?_;exact Af Ce ⟨(Option.some.inj h).symm,rfl,hS⟩
 ·obtain ⟨rfl,rfl,hS⟩:=hq;replace h:=g5;try dsimp only at h
  refine zE yd ?_;refine zu fun K8 B4=> ?_;refine zQ gC ?_;try simp only [W,EE,Nat.reduceAdd]
  refine zY rfl rfl rfl (fun _=>rfl) h fun Cs Fu h=> ?_;try simp only [W,EE]
  refine zE B4 ?_;refine zu fun D_ Cw=> ?_;refine zu fun Eu CN=> ?_;refine zQ gC ?_;try simp only [W,Nat.reduceAdd]
  refine zE CN ?_;obtain ⟨Ea,FA,FB⟩:=Option.bind_eq_some_iff.1 h;refine Ae gC (fun s H=> ∃BQ:Int,Ea=(BQ)∧s=[u,u,u,.int .i64 BQ,u,u,u,u,u,u,u,u,u,u,u,u,u,u,u,u,u,u,u,u,u]∧aA H (F)) (fun C9 BW=> ?_) (fun s H hq=> ?_)
  ·refine zw fun C4 BX=> ?_;refine Aa gC FA (fun x s H=>match x with|(BB,BE)=>s=[.fz (a0.map (AV.int .i64)),u,u,.int .i64 BB,.int .i64 BE,u,u,u,u,u,u,u,u,u,u,u,u,u,u,u,u,u,u,u,u]∧aA H (F)) ⟨rfl,hS⟩ (fun x HB s H h FC hi Dm B3=> ?_)
   obtain ⟨BB,BE⟩:=x;try dsimp only at hi
   obtain ⟨rfl,hS⟩:=hi;simp only [GW] at h;refine zu fun Eb Cq=> ?_;refine zu fun DH Cf=> ?_;refine zQ gC ?_;try simp only [W,EE,Nat.reduceAdd]
   refine zE Cf ?_;refine zC ?_;simp only [W];refine zP h (fun hc h=> ?_) (fun hc h=> ?_)
   ·refine zx ?_;refine zE Cq ?_;refine zu fun DZ Cg=> ?_;refine zw fun EZ C5=> ?_;refine zQ gC ?_;try simp only [W,EE,Nat.reduceAdd]
    refine zY rfl rfl rfl (fun _=>rfl) h fun D5 LC h=> ?_;try simp only [W,EE]
    refine zI C5 ?_;refine zE Cg ?_;refine zQ gC ?_;try simp only [W,EE,Nat.reduceAdd]
    exact Ab B3 h ⟨rfl,hS⟩
   ·refine zB ?_;refine zG Cq ?_;try obtain rfl:=Option.some.inj h
    obtain rfl:=FC _ rfl;have h:(some (BB):Option (Int))=some (BB):=rfl;refine Ac B3 ?_;refine zJ BX ?_;exact Af BW ⟨_,(Option.some.inj h).symm,rfl,hS⟩
  ·obtain ⟨BQ,BH,rfl,hS⟩:=hq;obtain rfl:=BH.symm;replace h:=FB;try dsimp only at h
   refine zE Cw ?_;refine zu fun Ez CU=> ?_;refine zQ gC ?_;try simp only [W,Nat.reduceAdd]
   refine zE CU ?_;refine zy ?_;refine zL BA rfl ?_;try obtain rfl:=Option.some.inj h
   exact Bz _ hS
theorem Oi {a0:List Int} {a1:Int} {r:(Int)} (h:GY a0 a1=some r) {F:List It} {H:J} (hS:aA H (F)) {P:AV→J→Prop} (Bz: ∀H',aA H' (F)→P (.int .i64 r) H'):au C 126 [.fz (a0.map (AV.int .i64)),.int .i64 a1] H P:=by
 refine zT gC (res:=[.tmp 4]) (n:=19) rfl rfl rfl rfl fun K0 BA=> ?_;simp only [W,Nat.reduceSub,Nat.reduceAdd,List.replicate];unfold GY at h;refine zu fun K1 BC=> ?_;refine zQ gC ?_;try simp only [W,Nat.reduceAdd]
 refine zE BC ?_;refine zu fun K2 yd=> ?_;refine zu fun K3 BL=> ?_;refine zQ gC ?_;try simp only [W,EE,Nat.reduceAdd]
 refine zE BL ?_;obtain ⟨DG,Fy,Ed⟩:=Option.bind_eq_some_iff.1 h;refine Ae gC (fun s H=>DG=LR.next ()∧s=[u,u,u,u,u,u,u,u,u,u,u,u,u,u,u,u,u,u,u]∧aA H (F)) (fun K7 B5=> ?_) (fun s H hq=> ?_)
 ·refine zw fun K8 B4=> ?_;refine Aa gC Fy (fun x s H=>s=[.fz (a0.map (AV.int .i64)),.int .i64 a1,u,u,u,u,u,.int .i64 (a0.length:Int),.int .i64 x,u,u,u,u,u,u,u,u,u,u]∧aA H (F)) ⟨rfl,hS⟩ (fun BO Fz s H h Ee hi K9 Cd=> ?_)
  skip
  try dsimp only at hi
  obtain ⟨rfl,hS⟩:=hi;simp only [H3] at h;refine zu fun Ev CH=> ?_;refine zQ gC ?_;try simp only [W,EE,Nat.reduceAdd]
  refine zE CH ?_;refine zu fun D9 Cv=> ?_;refine zC ?_;simp only [W];refine zP h (fun hc h=> ?_) (fun hc h=> ?_)
  ·refine zx ?_;refine zE Cv ?_;refine zu fun Fq CO=> ?_;refine zw fun DW Ck=> ?_;refine zu fun C9 BW=> ?_;refine zQ gC ?_;try simp only [W,Nat.reduceAdd]
   refine zE BW ?_;refine zu fun C4 BX=> ?_;refine zQ gC ?_;try simp only [W,EE,Nat.reduceAdd]
   refine zY rfl rfl rfl (fun _=>rfl) h fun DQ Hp h=> ?_;try simp only [W,EE]
   refine zE BX ?_;refine zC ?_;simp only [W];refine zP h (fun hc h=> ?_) (fun hc h=> ?_)
   ·refine zu fun EA CC=> ?_;refine zQ gC ?_;try simp only [W,Nat.reduceAdd]
    refine zE CC ?_;refine zy ?_;refine zK Ck ?_;refine zF CO ?_;try obtain rfl:=Option.some.inj h
    obtain rfl:=Ee _ rfl;have h:(some (LR.done BO):Option (LR Unit (Int)))=some (LR.done BO):=rfl;refine Ad Cd ?_;refine zK B4 ?_;try obtain rfl:=Option.some.inj h
    obtain rfl:=Option.some.inj Ed;have h:(some BO:Option (Int))=some BO:=rfl;refine Ag B5 ?_;refine zF yd ?_;refine zL BA rfl ?_;try obtain rfl:=Option.some.inj h
    exact Bz _ hS
   ·refine zx ?_;refine zI Ck ?_;refine zE CO ?_;refine zQ gC ?_;try simp only [W,EE,Nat.reduceAdd]
    exact Ab Cd h ⟨rfl,hS⟩
  ·refine zB ?_;refine zG Cv ?_;try obtain rfl:=Option.some.inj h
   obtain rfl:=Ee _ rfl;have h:(some (LR.next ()):Option (LR Unit (Int)))=some (LR.next ()):=rfl
   refine Ac Cd ?_;refine zJ B4 ?_;exact Af B5 ⟨(Option.some.inj h).symm,rfl,hS⟩
 ·obtain ⟨rfl,rfl,hS⟩:=hq;replace h:=Ed;try dsimp only at h
  refine zE yd ?_;refine zu fun FD Df=> ?_;refine zQ gC ?_;try simp only [W,Nat.reduceAdd]
  refine zE Df ?_;refine zy ?_;refine zL BA rfl ?_;try obtain rfl:=Option.some.inj h
  exact Bz _ hS
theorem LI {a0:List Int} {a1:Int} {a2:List Int} {r:(List Int×Int×Bool)} (h:Fk a0 a1 a2=some r) {F:List It} {H:J} (hS:aA H (F)) {P:AV→J→Prop} (Bz: ∀CV:AV,bB CV→ ∀H',aA H' (⟨CV,1,r.1.map (AV.int .i64)⟩::F)→P (.aC [CV,.int .i64 r.2.1,.bool r.2.2]) H'):au C 71 [.fz (a0.map (AV.int .i64)),.int .i64 a1,.fz (a2.map (AV.int .i64))] H P:=by
 refine zT gC (res:=[.tmp 6,.tmp 7,.tmp 8]) (n:=47) rfl rfl rfl rfl fun K0 BA=> ?_;simp only [W,Nat.reduceSub,Nat.reduceAdd,List.replicate];unfold Fk at h;refine zu fun K1 BC=> ?_;refine zQ gC ?_;try simp only [W,Nat.reduceAdd]
 refine zE BC ?_;refine zu fun K2 yd=> ?_;refine zS gC (by kernel_rfl) ?_
 try simp only [W,EE,Nat.reduceAdd]
 refine An (c:=(AV.int .i64)) hS rfl rfl rfl rfl rfl rfl h fun CB H BG Da hm h hS=> ?_;try simp only [W]
 refine An (c:=(AV.int .i64)) hS rfl rfl rfl rfl rfl rfl h fun v6 H B_ E0 hm h hS=> ?_;try simp only [W]
 refine zE yd ?_;refine zu fun K9 Cd=> ?_;refine zu fun D_ Cw=> ?_;refine zQ gC ?_;try simp only [W,EE,Nat.reduceAdd]
 refine zE Cw ?_;obtain ⟨Hq,JN,JO⟩:=Option.bind_eq_some_iff.1 h;refine Ae gC (fun s H=> ∃BQ:List Int,∃Cc:List Int,Hq=(BQ,Cc)∧s=[u,u,u,u,u,u,u,u,u,CB,v6,u,u,u,u,u,u,u,u,u,u,u,u,u,u,u,u,u,u,u,u,u,u,u,u,u,u,u,u,u,u,u,u,u,u,u,u]∧aA H (⟨CB,1,BQ.map (AV.int .i64)⟩::⟨v6,1,Cc.map (AV.int .i64)⟩::F)) (fun C4 BX=> ?_) (fun s H hq=> ?_)
 ·refine zw fun Dm B3=> ?_;refine Aa gC JN (fun x s H=>match x with|(BN,BB,BE)=>s=[.fz (a0.map (AV.int .i64)),u,u,u,u,u,u,u,u,CB,v6,u,u,u,u,u,u,u,u,.fz (a2.map (AV.int .i64)),.int .i64 (a2.length:Int),.int .i64 BE,u,u,u,u,u,u,u,u,u,u,u,u,u,u,u,u,u,u,u,u,u,u,u,u,u]∧aA H (⟨CB,1,BN.map (AV.int .i64)⟩::⟨v6,1,BB.map (AV.int .i64)⟩::F)) ⟨rfl,(hS.At 2 [1,0] (by decide))⟩ (fun x Oj s H h JP hi EA CC=> ?_)
  obtain ⟨BN,BB,BE⟩:=x;try dsimp only at hi
  obtain ⟨rfl,hS⟩:=hi;simp only [H4] at h;refine zu fun DH Cf=> ?_;refine zQ gC ?_;try simp only [W,EE,Nat.reduceAdd]
  refine zE Cf ?_;refine zu fun DZ Cg=> ?_;refine zC ?_;simp only [W];refine zP h (fun hc h=> ?_) (fun hc h=> ?_)
  ·refine zx ?_;refine zE Cg ?_;refine zu fun EZ C5=> ?_;refine zw fun FD Df=> ?_;refine zu fun Iz Ef=> ?_;refine zQ gC ?_;try simp only [W,EE,Nat.reduceAdd]
   refine zY rfl rfl rfl (fun _=>rfl) h fun Ds Ok h=> ?_;try simp only [W,EE]
   refine zE Ef ?_;refine zu fun Ez CU=> ?_;refine zQ gC ?_;try simp only [W,Nat.reduceAdd]
   refine AQ (b7:=[[.sc]]) (ys:=[.fz (BB.map (AV.int .i64))]) h rfl (AE (AB hS 1 rfl E0 (fun _=>rfl)) AD) fun DT Dg h=>⟨.int .i64 DT,Oh Dg (aA.nil _) fun H hS=>AJ rfl (AG rfl (AF rfl)),⟨rfl,rfl,fun _=>rfl⟩,?_⟩;try simp only [W]
   refine AQ (b7:=[[.sc]]) (ys:=[.fz (BB.map (AV.int .i64)),.int .i64 DT]) h rfl (AE (AB hS 1 rfl E0 (fun _=>rfl)) (AE rfl AD)) fun DC Ol h=>⟨.int .i64 DC,Oi Ol (aA.nil _) fun H hS=>AJ rfl (AG rfl (AF rfl)),⟨rfl,rfl,fun _=>rfl⟩,?_⟩;try simp only [W]
   refine zE CU ?_;refine zu fun Om JQ=> ?_;refine zQ gC ?_;try simp only [W,EE,Nat.reduceAdd]
   refine zZ 0 hS rfl rfl rfl rfl rfl h (fun Hm Se Sf Sg LJ h LK=> ?_) Da.ne;obtain ⟨Si,Sj,Sk⟩:=hS.elem 0 rfl LK LJ;try simp only [W]
   refine z6 (a:= .int .i64 DC) (y' :=DC) 0 hS rfl LK LJ rfl rfl rfl rfl rfl rfl rfl fun H hS=> ?_
   try simp only [W]
   refine zE JQ ?_;refine Ax gC [(10,[])] (by kernel_rfl) rfl (by kernel_rfl) ?_
   try simp only [W,EE,reduceIte,Nat.reduceAdd,ig,kS,Nat.reduceEqDiff]
   refine zZ 1 hS rfl rfl rfl rfl rfl h (fun CZ On Oo Oq FG h JR=> ?_) E0.ne;obtain ⟨Ot,JS,JT⟩:=hS.elem 1 rfl JR FG;try simp only [W,EE,JS,JT]
   refine zY rfl rfl rfl (fun _=>rfl) h fun Dl LL h=> ?_;try simp only [W,EE]
   refine zZ 1 hS rfl rfl rfl rfl rfl h (fun EG Sl Sm Sn Gl h LM=> ?_) E0.ne;obtain ⟨So,Sp,Sq⟩:=hS.elem 1 rfl LM Gl;try simp only [W]
   refine z6 (a:= .int .i64 (IntKind.i64.wrap (CZ+Dl))) (y' :=(IntKind.i64.wrap (CZ+Dl))) 1 hS rfl LM Gl rfl rfl rfl rfl rfl rfl rfl fun H hS=> ?_
   try simp only [W]
   refine zI Df ?_;refine zE C5 ?_;refine zQ gC ?_;try simp only [W,EE,Nat.reduceAdd]
   exact Ab CC h ⟨rfl,hS⟩
  ·refine zB ?_;refine zG Cg ?_;try obtain rfl:=Option.some.inj h
   obtain rfl:=JP _ rfl;have h:(some (BN,BB):Option ((List Int)×(List Int)))=some (BN,BB):=rfl;refine Ac CC ?_;refine zJ B3 ?_;exact Af BX ⟨_,_,(Option.some.inj h).symm,rfl,hS⟩
 ·obtain ⟨BQ,Cc,rfl,rfl,hS⟩:=hq;replace h:=JO;try dsimp only at h
  refine zE Cd ?_;refine zu fun LN Gr=> ?_;refine zQ gC ?_;try simp only [W,Nat.reduceAdd]
  refine AQ (b7:=[[.sc]]) (ys:=[.fz (Cc.map (AV.int .i64))]) h rfl (AE (AB hS 1 rfl E0 (fun _=>rfl)) AD) fun I8 Ou h=>⟨.int .i64 I8,ID Ou (aA.nil _) fun H hS=>AJ rfl (AG rfl (AF rfl)),⟨rfl,rfl,fun _=>rfl⟩,?_⟩;try simp only [W]
  refine zE Gr ?_;refine zy ?_;refine zN BA rfl rfl rfl ?_;try obtain rfl:=Option.some.inj h
  exact Bz _ Da _ (hS.At 2 [0] (by decide))
theorem Ov {a0:List Int} {a1:Int} {r:(List Int×Int×Bool)} (h:GZ a0 a1=some r) {F:List It} {H:J} (hS:aA H (F)) {P:AV→J→Prop} (Bz: ∀JU:AV,bB JU→ ∀H',aA H' (⟨JU,1,r.1.map (AV.int .i64)⟩::F)→P (.aC [JU,.int .i64 r.2.1,.bool r.2.2]) H'):au C 10 [.fz (a0.map (AV.int .i64)),.int .i64 a1] H P:=by
 refine zT gC (res:=[.tmp 4,.tmp 5,.tmp 6]) (n:=19) rfl rfl rfl rfl fun K0 BA=> ?_;simp only [W,Nat.reduceSub,Nat.reduceAdd,List.replicate];unfold GZ at h;refine zu fun K1 BC=> ?_;refine zQ gC ?_;try simp only [W,Nat.reduceAdd]
 refine zE BC ?_;refine zu fun K2 yd=> ?_;refine zu fun K3 BL=> ?_;refine zQ gC ?_;try simp only [W,Nat.reduceAdd]
 refine z_ h fun BU CP h=> ?_;refine Gn CP hS fun H hS=> ?_;try simp only [W]
 refine zE BL ?_;refine zC ?_;simp only [W];refine zP h (fun hc h=> ?_) (fun hc h=> ?_)
 ·refine zu fun K5 Cb=> ?_;refine zQ gC ?_;try simp only [W,Nat.reduceAdd]
  refine zE Cb ?_;refine zy ?_;refine zF yd ?_;refine zN BA rfl rfl rfl ?_;try obtain rfl:=Option.some.inj h
  exact Bz _ oO _ (hS.Ap 1)
 ·refine zx ?_;refine zE yd ?_;refine zu fun K6 Ce=> ?_;refine zQ gC ?_;try simp only [W,Nat.reduceAdd,Nat.reduceBEq,List.contains_cons,Nat.reduceBEq,Bool.or_self]
  refine z_ h fun BK JV h=> ?_;refine LH JV hS fun Sr Ox H hS=> ?_;try simp only [W]
  refine AR (b7:=[[.sl [.sc]],[.sc],[.sc]]) (ys:=[.fz (a0.map (AV.int .i64)),.int .i64 a1,.fz (BK.map (AV.int .i64))]) h rfl (AE rfl (AE rfl (AE (AB hS 0 rfl Ox (fun _=>rfl)) AD))) fun Cy ER h=>⟨.aC [.own 1 (Cy.1.map (AV.int .i64)),.int .i64 Cy.2.1,.bool Cy.2.2],LI ER (aA.nil _) fun Eg HF H hS=>AJ rfl (AI 0 hS rfl HF (fun _ _=>by simp [aY,aR,de]) fun H hS=>AG rfl (AG rfl (AF rfl))),(AW (AU (AS _ (fun _=>rfl) _) (AU rfl (AU rfl AT)))),?_⟩
  refine AP ?_;refine AN hS (fun _ _=>rfl) (fun _=>rfl) fun Gh H Gj hS=> ?_;refine AM (fun _=>rfl) ?_;refine AM (fun _=>rfl) ?_;refine AK ?_;try simp only [List.headD_cons]
  obtain ⟨CY,DS,DB⟩:=Cy;try dsimp only at h
  try simp only [W]
  refine zE Ce ?_;refine zy ?_;refine zN BA rfl rfl rfl ?_;try obtain rfl:=Option.some.inj h
  exact Bz _ Gj _ (hS.At 2 [0] (by decide))
theorem LO {a0:List Int} {a1:Int} {a2:List Int} {r:(List Int)} (h:Fl a0 a1 a2=some r) {F:List It} {H:J} (hS:aA H (F)) {P:AV→J→Prop} (Bz: ∀Fw:AV,bB Fw→ ∀H',aA H' (⟨Fw,1,r.map (AV.int .i64)⟩::F)→P (Fw) H'):au C 73 [.fz (a0.map (AV.int .i64)),.int .i64 a1,.fz (a2.map (AV.int .i64))] H P:=by
 refine zT gC (res:=[.tmp 6]) (n:=56) rfl rfl rfl rfl fun K0 BA=> ?_;simp only [W,Nat.reduceSub,Nat.reduceAdd,List.replicate];unfold Fl at h;refine zu fun K1 BC=> ?_;refine zQ gC ?_;try simp only [W,Nat.reduceAdd]
 refine zE BC ?_;refine zu fun K2 yd=> ?_;refine zQ gC ?_;try simp only [W,Nat.reduceAdd]
 refine An (c:=(AV.int .i64)) hS rfl rfl rfl rfl rfl rfl h fun CB H BG Da hm h hS=> ?_;try simp only [W]
 refine zE yd ?_;refine zu fun K6 Ce=> ?_;refine zQ gC ?_;try simp only [W,EE,Nat.reduceAdd]
 refine An (c:=(AV.int .i64)) hS rfl rfl rfl rfl rfl rfl h fun Dh H BF E1 hm h hS=> ?_;try simp only [W]
 refine zE Ce ?_;refine zu fun D_ Cw=> ?_;refine zu fun Eu CN=> ?_;refine zQ gC ?_;try simp only [W,EE,Nat.reduceAdd]
 refine zE CN ?_;obtain ⟨Hq,JN,JO⟩:=Option.bind_eq_some_iff.1 h;refine Ae gC (fun s H=> ∃Cc:List Int,Hq=(Cc)∧s=[u,u,u,u,u,u,u,u,Dh,u,u,u,u,u,u,u,u,u,u,u,u,u,u,u,u,u,u,u,u,u,u,u,u,u,u,u,u,u,u,u,u,u,u,u,u,u,u,u,u,u,u,u,u,u,u,u]∧aA H (⟨Dh,1,Cc.map (AV.int .i64)⟩::F)) (fun C4 BX=> ?_) (fun s H hq=> ?_)
 ·refine zw fun Dm B3=> ?_;refine Aa gC JN (fun x s H=>match x with|(BB,BE,BQ)=>s=[.fz (a0.map (AV.int .i64)),u,u,u,u,u,u,CB,Dh,u,u,u,u,u,u,u,u,u,.fz (a2.map (AV.int .i64)),.int .i64 (a2.length:Int),.int .i64 BQ,u,u,u,u,u,u,u,u,u,u,u,u,u,u,u,u,u,u,u,u,u,u,u,u,u,u,u,u,u,u,u,u,u,u,u]∧aA H (⟨CB,1,BB.map (AV.int .i64)⟩::⟨Dh,1,BE.map (AV.int .i64)⟩::F)) ⟨rfl,(hS.At 2 [1,0] (by decide))⟩ (fun x Oj s H h JP hi EA CC=> ?_)
  obtain ⟨BB,BE,BQ⟩:=x;try dsimp only at hi
  obtain ⟨rfl,hS⟩:=hi;simp only [H6] at h;refine zu fun DH Cf=> ?_;refine zQ gC ?_;try simp only [W,EE,Nat.reduceAdd]
  refine zE Cf ?_;refine zu fun DZ Cg=> ?_;refine zC ?_;simp only [W];refine zP h (fun hc h=> ?_) (fun hc h=> ?_)
  ·refine zx ?_;refine zE Cg ?_;refine zu fun EZ C5=> ?_;refine zw fun FD Df=> ?_;refine zu fun Iz Ef=> ?_;refine zQ gC ?_;try simp only [W,EE,Nat.reduceAdd]
   refine zY rfl rfl rfl (fun _=>rfl) h fun Ds Ok h=> ?_;try simp only [W,EE]
   refine zE Ef ?_;refine zu fun Ez CU=> ?_;refine zQ gC ?_;try simp only [W,Nat.reduceAdd]
   refine zE CU ?_;refine zu fun Gi Dn=> ?_;refine zu fun JE EY=> ?_;refine zQ gC ?_;try simp only [W,EE,Nat.reduceAdd]
   refine z7 0 hS rfl Da rfl ?_;try simp only [W]
   refine zE EY ?_;obtain ⟨Hs,Ht,Hu⟩:=Option.bind_eq_some_iff.1 h;refine Ae gC (fun s H=> ∃Cj:Int,Hs=(Cj)∧s=[.fz (a0.map (AV.int .i64)),u,u,u,u,u,u,CB,Dh,u,.int .i64 Ds,.int .i64 Cj,u,u,u,u,u,u,.fz (a2.map (AV.int .i64)),.int .i64 (a2.length:Int),.int .i64 BQ,u,u,u,u,u,u,u,u,u,u,u,u,u,u,u,u,u,u,u,u,u,u,u,u,u,u,u,u,u,u,u,u,u,u,u]∧aA H (⟨CB,1,BB.map (AV.int .i64)⟩::⟨Dh,1,BE.map (AV.int .i64)⟩::F)) (fun Gc Dt=> ?_) (fun s H hq=> ?_)
   ·refine zw fun Ip Ew=> ?_;refine Aa gC Ht (fun x s H=>match x with|(Cr,Ci)=>s=[.fz (a0.map (AV.int .i64)),u,u,u,u,u,u,CB,Dh,u,.int .i64 Ds,.int .i64 Cr,u,u,u,u,u,u,.fz (a2.map (AV.int .i64)),.int .i64 (a2.length:Int),.int .i64 BQ,u,u,u,u,.int .i64 (BB.length:Int),.int .i64 Ci,u,u,u,u,u,u,u,u,u,u,u,u,u,u,u,u,u,u,u,u,u,u,u,u,u,u,u,u,u]∧aA H (⟨CB,1,BB.map (AV.int .i64)⟩::⟨Dh,1,BE.map (AV.int .i64)⟩::F)) ⟨rfl,hS⟩ (fun x Lj s H h Hv hi Ir DF=> ?_)
    obtain ⟨Cr,Ci⟩:=x;try dsimp only at hi
    obtain ⟨rfl,hS⟩:=hi;simp only [H5] at h;refine zu fun Is DX=> ?_;refine zQ gC ?_;try simp only [W,EE,Nat.reduceAdd]
    refine zE DX ?_;refine zu fun Jj Ey=> ?_;refine zC ?_;simp only [W];refine zP h (fun hc h=> ?_) (fun hc h=> ?_)
    ·refine zx ?_;refine zE Ey ?_;refine zu fun Iu Ec=> ?_;obtain ⟨Oy,h,Oz⟩:=Option.bind_eq_some_iff.1 h;refine Ae gC (fun s H=> ∃G0:Int,Oy=(G0)∧s=[.fz (a0.map (AV.int .i64)),u,u,u,u,u,u,CB,Dh,u,.int .i64 Ds,.int .i64 G0,u,u,u,u,u,u,.fz (a2.map (AV.int .i64)),.int .i64 (a2.length:Int),.int .i64 BQ,u,u,u,u,.int .i64 (BB.length:Int),.int .i64 Ci,u,u,u,u,u,u,u,u,u,u,u,u,u,u,u,u,u,u,u,u,u,u,u,u,u,u,u,u,u]∧aA H (⟨CB,1,BB.map (AV.int .i64)⟩::⟨Dh,1,BE.map (AV.int .i64)⟩::F)) (fun Jy Gm=> ?_) (fun s H hq=> ?_)
     ·refine zw fun Jk EU=> ?_;refine zu fun OA LP=> ?_;refine zQ gC ?_;try simp only [W,Nat.reduceAdd]
      refine zE LP ?_;refine zu fun Ss OB=> ?_;refine zS gC (by kernel_rfl) ?_
      try simp only [W,EE,Nat.reduceAdd]
      refine zZ 0 hS rfl rfl rfl rfl rfl h (fun KT Su Sv Sw OC h OD=> ?_) Da.ne;obtain ⟨Sx,OE,OF⟩:=hS.elem 0 rfl OD OC;try simp only [W,EE,OE,OF]
      refine zZ 0 hS rfl rfl rfl rfl rfl h (fun BV Sy Sz SA OG h OH=> ?_) Da.ne;obtain ⟨SB,OI,OJ⟩:=hS.elem 0 rfl OH OG;try simp only [W,EE,OI,OJ]
      refine zE OB ?_;obtain ⟨OK,h,OL⟩:=Option.bind_eq_some_iff.1 h;refine Ae gC (fun s H=> ∃Es:Int,OK=(Es)∧s=[.fz (a0.map (AV.int .i64)),u,u,u,u,u,u,CB,Dh,u,.int .i64 Ds,.int .i64 Es,u,u,u,u,u,u,.fz (a2.map (AV.int .i64)),.int .i64 (a2.length:Int),.int .i64 BQ,u,u,u,u,.int .i64 (BB.length:Int),.int .i64 Ci,u,u,u,u,u,u,u,u,u,u,u,u,u,u,u,u,u,u,u,u,u,u,u,u,u,u,u,u,u]∧aA H (⟨CB,1,BB.map (AV.int .i64)⟩::⟨Dh,1,BE.map (AV.int .i64)⟩::F)) (fun LQ Gs=> ?_) (fun s H hq=> ?_)
      ·refine zu fun OM IE=> ?_;refine zC ?_;simp only [W];refine zP h (fun hc h=> ?_) (fun hc h=> ?_)
       ·refine zQ gC ?_;try simp only [W,Nat.reduceAdd]
        refine zE IE ?_;refine zD ?_;exact Af Gs ⟨_,(Option.some.inj h).symm,rfl,hS⟩
       ·refine zx ?_;refine zE IE ?_;refine zD ?_;exact Af Gs ⟨_,(Option.some.inj h).symm,rfl,hS⟩
      ·obtain ⟨Es,BH,rfl,hS⟩:=hq;obtain rfl:=BH.symm;replace h:=OL;try dsimp only at h
       refine zH EU ?_;exact Af Gm ⟨_,(Option.some.inj h).symm,rfl,hS⟩
     ·obtain ⟨G0,BH,rfl,hS⟩:=hq;obtain rfl:=BH.symm;replace h:=Oz;try dsimp only at h
      refine zE Ec ?_;refine zQ gC ?_;try simp only [W,EE,Nat.reduceAdd]
      exact Ab DF h ⟨rfl,hS⟩
    ·refine zB ?_;refine zG Ey ?_;try obtain rfl:=Option.some.inj h
     obtain rfl:=Hv _ rfl;have h:(some (Cr):Option (Int))=some (Cr):=rfl;refine Ac DF ?_;refine zJ Ew ?_;exact Af Dt ⟨_,(Option.some.inj h).symm,rfl,hS⟩
   ·obtain ⟨Cj,BH,rfl,hS⟩:=hq;obtain rfl:=BH.symm;replace h:=Hu;try dsimp only at h
    refine zE Dn ?_;refine zu fun SC ON=> ?_;refine Ax gC [(10,[])] (by kernel_rfl) rfl (by kernel_rfl) ?_
    try simp only [W,EE,reduceIte,Nat.reduceAdd,ig,kS,Nat.reduceEqDiff]
    refine zZ 0 hS rfl rfl rfl rfl rfl h (fun H7 SD SE SH OO h OP=> ?_) Da.ne;obtain ⟨SI,OQ,OR⟩:=hS.elem 0 rfl OP OO;try simp only [W,EE,OQ,OR]
    refine zY rfl rfl rfl (fun _=>rfl) h fun DU Iw h=> ?_;try simp only [W,EE]
    refine zZ 0 hS rfl rfl rfl rfl rfl h (fun DO SJ SK SL LS h LU=> ?_) Da.ne;obtain ⟨SM,SN,SO⟩:=hS.elem 0 rfl LU LS;try simp only [W]
    refine z6 (a:= .int .i64 (IntKind.i64.wrap (H7+DU))) (y' :=(IntKind.i64.wrap (H7+DU))) 0 hS rfl LU LS rfl rfl rfl rfl rfl rfl rfl fun H hS=> ?_
    try simp only [W]
    refine zE ON ?_;refine zQ gC ?_;try simp only [W,EE,Nat.reduceAdd]
    refine zZ 1 hS rfl rfl rfl rfl rfl h (fun NH NI NJ NK Hy h Hz=> ?_) E1.ne;obtain ⟨NL,NM,NN⟩:=hS.elem 1 rfl Hz Hy;try simp only [W]
    refine z6 (a:= .int .i64 Cj) (y' :=Cj) 1 hS rfl Hz Hy rfl rfl rfl rfl rfl rfl rfl fun H hS=> ?_
    try simp only [W]
    refine zI Df ?_;refine zE C5 ?_;refine zQ gC ?_;try simp only [W,EE,Nat.reduceAdd]
    exact Ab CC h ⟨rfl,hS⟩
  ·refine zB ?_;refine zG Cg ?_;try obtain rfl:=Option.some.inj h
   obtain rfl:=JP _ rfl;have h:(some (BE):Option ((List Int)))=some (BE):=rfl;refine Ac CC ?_;refine zJ B3 ?_;exact Af BX ⟨_,(Option.some.inj h).symm,rfl,(hS.At 2 [1] (by decide))⟩
 ·obtain ⟨Cc,BH,rfl,hS⟩:=hq;obtain rfl:=BH.symm;replace h:=JO;try dsimp only at h
  refine zE Cw ?_;refine zu fun LV C6=> ?_;refine zQ gC ?_;try simp only [W,Nat.reduceAdd]
  refine zE C6 ?_;refine zy ?_;refine zL BA rfl ?_;try obtain rfl:=Option.some.inj h
  exact Bz _ E1 _ hS
theorem OS {a0:List Int} {a1:Int} {r:(List Int×Int×Bool)} (h:G3 a0 a1=some r) {F:List It} {H:J} (hS:aA H (F)) {P:AV→J→Prop} (Bz: ∀JW:AV,bB JW→ ∀H',aA H' (⟨JW,1,r.1.map (AV.int .i64)⟩::F)→P (.aC [JW,.int .i64 r.2.1,.bool r.2.2]) H'):au C 11 [.fz (a0.map (AV.int .i64)),.int .i64 a1] H P:=by
 refine zT gC (res:=[.tmp 4,.tmp 5,.tmp 6]) (n:=33) rfl rfl rfl rfl fun K0 BA=> ?_;simp only [W,Nat.reduceSub,Nat.reduceAdd,List.replicate];unfold G3 at h;refine zu fun K1 BC=> ?_;refine zQ gC ?_;try simp only [W,Nat.reduceAdd]
 refine zE BC ?_;refine zu fun K2 yd=> ?_;refine zu fun K3 BL=> ?_;refine zQ gC ?_;try simp only [W,Nat.reduceAdd]
 refine z_ h fun BU CP h=> ?_;refine HD CP hS fun H hS=> ?_;try simp only [W]
 refine zE BL ?_;refine zC ?_;simp only [W];refine zP h (fun hc h=> ?_) (fun hc h=> ?_)
 ·refine zu fun K5 Cb=> ?_;refine zQ gC ?_;try simp only [W,Nat.reduceAdd]
  refine zE Cb ?_;refine zy ?_;refine zF yd ?_;refine zN BA rfl rfl rfl ?_;try obtain rfl:=Option.some.inj h
  exact Bz _ oO _ (hS.Ap 1)
 ·refine zx ?_;refine zE yd ?_;refine zu fun K6 Ce=> ?_;refine zQ gC ?_;try simp only [W,Nat.reduceAdd]
  refine zE Ce ?_;refine zu fun K7 B5=> ?_;refine zu fun K8 B4=> ?_;refine zQ gC ?_;try simp only [W,EE,Nat.reduceAdd]
  refine zE B4 ?_;obtain ⟨Ea,FA,FB⟩:=Option.bind_eq_some_iff.1 h;refine Ae gC (fun s H=> ∃BE:List Int,Ea=(BE)∧ ∃Eg:AV,bB Eg∧s=[.fz (a0.map (AV.int .i64)),.int .i64 a1,u,u,u,u,u,Eg,u,u,u,u,u,u,u,u,u,u,u,u,u,u,u,u,u,u,u,u,u,u,u,u,u]∧aA H (⟨Eg,1,BE.map (AV.int .i64)⟩::F)) (fun C9 BW=> ?_) (fun s H hq=> ?_)
  ·refine zw fun C4 BX=> ?_;refine Aa gC FA (fun x s H=>match x with|(BF,BB)=> ∃v10:AV,bB v10∧s=[.fz (a0.map (AV.int .i64)),.int .i64 a1,u,u,u,u,u,v10,u,u,u,u,u,u,u,.int .i64 (a0.length:Int),.int .i64 BB,u,u,u,u,u,u,u,u,u,u,u,u,u,u,u,u]∧aA H (⟨v10,1,BF.map (AV.int .i64)⟩::F)) ⟨_,oO,rfl,(hS.Ap 1)⟩ (fun x HB s H h FC hi Dm B3=> ?_)
   obtain ⟨BF,BB⟩:=x;try dsimp only at hi
   obtain ⟨v10,B6,rfl,hS⟩:=hi;simp only [I9] at h;refine zu fun Eb Cq=> ?_;refine zQ gC ?_;try simp only [W,EE,Nat.reduceAdd]
   refine zE Cq ?_;refine zu fun DH Cf=> ?_;refine zC ?_;simp only [W];refine zP h (fun hc h=> ?_) (fun hc h=> ?_)
   ·refine zx ?_;refine zE Cf ?_;refine zu fun DZ Cg=> ?_;refine zw fun EZ C5=> ?_;refine zu fun FD Df=> ?_;refine zQ gC ?_;try simp only [W,Nat.reduceAdd]
    refine zE Df ?_;refine zQ gC ?_;try simp only [W,Nat.reduceAdd]
    refine z9 (el:=([BB]:List Int).map (AV.int .i64)) hS rfl rfl rfl rfl rfl rfl rfl fun SP H OT hS=> ?_;try simp only [W,EE]
    refine Ao (l:=BF) (c:=(AV.int .i64)) 1 hS rfl B6 rfl rfl rfl (hS.gS 0 rfl OT) (fun _=>rfl) rfl h fun SQ H D2 OU hm h hS=> ?_;try simp only [W]
    refine zI C5 ?_;refine zE Cg ?_;refine zQ gC ?_;try simp only [W,EE,Nat.reduceAdd]
    exact Ab B3 h ⟨_,OU,rfl,(hS.At 2 [1] (by decide))⟩
   ·refine zB ?_;refine zG Cf ?_;try obtain rfl:=Option.some.inj h
    obtain rfl:=FC _ rfl;have h:(some (BF):Option ((List Int)))=some (BF):=rfl;refine Ac B3 ?_;refine zJ BX ?_;exact Af BW ⟨_,(Option.some.inj h).symm,_,B6,rfl,hS⟩
  ·obtain ⟨BE,BH,Eg,HF,rfl,hS⟩:=hq;obtain rfl:=BH.symm;replace h:=FB;try dsimp only at h
   refine zE B5 ?_;refine zu fun Jt EX=> ?_;refine zQ gC ?_;try simp only [W,Nat.reduceAdd,Nat.reduceBEq,List.contains_cons,Nat.reduceBEq,Bool.or_self]
   refine AR (b7:=[[.sl [.sc]]]) (ys:=[.fz (a0.map (AV.int .i64)),.int .i64 a1,.fz (BE.map (AV.int .i64))]) h rfl (AE rfl (AE rfl (AE (AB hS 0 rfl HF (fun _=>rfl)) AD))) fun CZ FG h=>⟨.own 1 (CZ.map (AV.int .i64)),LO FG (aA.nil _) fun OV JX H hS=>AJ rfl (AI 0 hS rfl JX (fun _ _=>by simp [aY,aR,de]) fun H hS=>AF rfl),(AS _ (fun _=>rfl) _),?_⟩
   refine AO ?_;refine AN hS (fun _ _=>rfl) (fun _=>rfl) fun SR H LW hS=> ?_;refine AK ?_;try simp only [List.headD_cons]
   try simp only [W]
   refine zE EX ?_;refine zu fun Ir DF=> ?_;refine zQ gC ?_;try simp only [W,Nat.reduceAdd]
   refine AQ (b7:=[[.sc]]) (ys:=[.fz (a0.map (AV.int .i64)),.int .i64 a1,.fz (CZ.map (AV.int .i64))]) h rfl (AE rfl (AE rfl (AE (AB hS 0 rfl LW (fun _=>rfl)) AD))) fun BR OW h=>⟨.int .i64 BR,JL OW (aA.nil _) fun H hS=>AJ rfl (AG rfl (AF rfl)),⟨rfl,rfl,fun _=>rfl⟩,?_⟩;try simp only [W]
   refine zE DF ?_;refine zy ?_;refine zN BA rfl rfl rfl ?_;try obtain rfl:=Option.some.inj h
   exact Bz _ LW _ (hS.At 2 [0] (by decide))
theorem OX {a0:Int} {a1:Int} {a2:List Int} {i2:Nat} {w2:Nat} {r:(Int)} (h:G4 a0 a1 a2=some r) {F:List It} {H:J} (jY:⟨.ptr i2 w2 0 0,1,[.fz (a2.map (AV.int .i64))]⟩∈F) (hS:aA H (F)) {P:AV→J→Prop} (Bz: ∀H',aA H' (F)→P (.int .i64 r) H'):au C 75 [.int .i64 a0,.int .i64 a1,.ptr i2 w2 0 0] H P:=by
 refine zT gC (res:=[.tmp 5]) (n:=15) rfl rfl rfl rfl fun K0 BA=> ?_;simp only [W,Nat.reduceSub,Nat.reduceAdd,List.replicate];unfold G4 at h;refine zu fun K1 BC=> ?_;refine zQ gC ?_;try simp only [W,Nat.reduceAdd]
 refine zE BC ?_;refine zu fun K2 yd=> ?_;refine zS gC (by kernel_rfl) ?_
 try simp only [W,EE,Nat.reduceAdd,hS.Ar jY]
 refine zY rfl rfl rfl (fun _=>rfl) h fun b3 j9 h=> ?_;try simp only [W,EE,hS.Ar jY]
 refine zY rfl rfl rfl (fun _=>rfl) h fun BU CP h=> ?_;try simp only [W,EE]
 refine zE yd ?_;refine zy ?_;refine zL BA rfl ?_;try obtain rfl:=Option.some.inj h
 exact Bz _ hS
theorem LX {a0:List Int} {a1:Int} {a2:Int} {g3:Int→Int→Option Int} {f3:FuncId} {c3:List AV} {m0:AV} {r:(List Int)} (h:EM a0 a1 a2 g3=some r) {F:List It} {H:J} (mT: ∀{x0:Int} {DI:Int} {r:Int},g3 x0 DI=some r→ ∀(L:List It) (n:Nat),L.drop n=F→ ∀(H:J),aA H L→ ∀(P:AV→J→Prop),(∀H',aA H' L→P (.int .i64 r) H')→au C f3 ([.int .i64 x0,.int .i64 DI] ++ c3) H P) (hS:aA H (⟨m0,1,a0.map (AV.int .i64)⟩::F)) (DJ:bB m0) {P:AV→J→Prop} (Bz: ∀H',aA H' (⟨m0,1,r.map (AV.int .i64)⟩::F)→P (.aC []) H'):au C 149 [m0,.int .i64 a1,.int .i64 a2,.fn f3 c3] H P:=by
 refine zT gC (res:=[]) (n:=53) rfl rfl rfl rfl fun K0 BA=> ?_;simp only [W,Nat.reduceSub,Nat.reduceAdd,List.replicate];unfold EM at h;refine zu fun K1 BC=> ?_;refine zQ gC ?_;try simp only [W,EE,Nat.reduceAdd]
 refine zE BC ?_;obtain ⟨DG,Fy,Ed⟩:=Option.bind_eq_some_iff.1 h;refine Ae gC (fun s H=> ∃BO:List Int,DG=(BO)∧s=[u,u,u,u,u,u,u,u,u,u,u,u,u,u,u,u,u,u,u,u,u,u,u,u,u,u,u,u,u,u,u,u,u,u,u,u,u,u,u,u,u,u,u,u,u,u,u,u,u,u,u,u,u]∧aA H (⟨m0,1,BO.map (AV.int .i64)⟩::F)) (fun K7 B5=> ?_) (fun s H hq=> ?_)
 ·refine zw fun K8 B4=> ?_;refine Aa gC Fy (fun x s H=>match x with|(EL,D7)=>s=[m0,.int .i64 a1,.int .i64 a2,.fn f3 c3,u,u,u,u,.int .i64 D7,u,u,u,u,u,u,u,u,u,u,u,u,u,u,u,u,u,u,u,u,u,u,u,u,u,u,u,u,u,u,u,u,u,u,u,u,u,u,u,u,u,u,u,u]∧aA H (⟨m0,1,EL.map (AV.int .i64)⟩::F)) ⟨rfl,hS⟩ (fun x Fz s H h Ee hi K9 Cd=> ?_)
  obtain ⟨EL,D7⟩:=x;try dsimp only at hi
  obtain ⟨rfl,hS⟩:=hi;simp only [H9] at h;refine zu fun Ev CH=> ?_;refine zu fun D9 Cv=> ?_;refine zQ gC ?_;try simp only [W,EE,Nat.reduceAdd]
  refine zE Cv ?_;refine zC ?_;simp only [W];refine zP h (fun hc h=> ?_) (fun hc h=> ?_)
  ·refine zx ?_;refine zE CH ?_;refine zu fun Fq CO=> ?_;refine zw fun DW Ck=> ?_;refine zu fun C9 BW=> ?_;refine zQ gC ?_;try simp only [W,Nat.reduceAdd]
   refine zE BW ?_;obtain ⟨HB,OY,OZ⟩:=Option.bind_eq_some_iff.1 h;refine Ae gC (fun s H=> ∃Dr:List Int,HB=(Dr)∧s=[m0,.int .i64 a1,.int .i64 a2,.fn f3 c3,u,u,u,u,.int .i64 D7,u,u,u,u,u,u,u,u,u,u,u,u,u,u,u,u,u,u,u,u,u,u,u,u,u,u,u,u,u,u,u,u,u,u,u,u,u,u,u,u,u,u,u,u]∧aA H (⟨m0,1,Dr.map (AV.int .i64)⟩::F)) (fun Eb Cq=> ?_) (fun s H hq=> ?_)
   ·refine zw fun DH Cf=> ?_;refine Aa gC OY (fun x s H=>match x with|(CL,Cz)=>s=[m0,.int .i64 a1,.int .i64 a2,.fn f3 c3,u,u,u,u,.int .i64 D7,.int .i64 Cz,u,u,u,u,u,u,u,u,u,u,u,u,u,u,u,u,u,u,u,u,u,u,u,u,u,u,u,u,u,u,u,u,u,u,u,u,u,u,u,u,u,u,u]∧aA H (⟨m0,1,CL.map (AV.int .i64)⟩::F)) ⟨rfl,hS⟩ (fun x Ls s H h O0 hi DZ Cg=> ?_)
    obtain ⟨CL,Cz⟩:=x;try dsimp only at hi
    obtain ⟨rfl,hS⟩:=hi;simp only [G5] at h;refine zu fun Js EW=> ?_;refine zu fun Ez CU=> ?_;obtain ⟨O1,h,O2⟩:=Option.bind_eq_some_iff.1 h;refine Ae gC (fun s H=> ∃Ch:Bool,O1=(Ch)∧s=[m0,.int .i64 a1,.int .i64 a2,.fn f3 c3,u,u,u,u,.int .i64 D7,.int .i64 Cz,u,u,u,u,u,u,u,u,u,u,u,u,u,u,u,u,u,u,u,u,u,u,u,u,.bool Ch,u,u,u,u,u,u,u,u,u,u,u,u,u,u,u,u,u,u]∧aA H (⟨m0,1,CL.map (AV.int .i64)⟩::F)) (fun O3 IF=> ?_) (fun s H hq=> ?_)
    ·refine zu fun Jt EX=> ?_;refine Ax gC [(14,[])] (by kernel_rfl) rfl (by kernel_rfl) ?_
     try simp only [W,EE,reduceIte,Nat.reduceAdd,ig,kS,Nat.reduceEqDiff]
     refine Av h (fun hc h=> ?_) (fun hc h=> ?_)
     ·try simp only [W,EE,hc]
      refine zZ 0 hS rfl rfl rfl rfl rfl h (fun CZ On Oo Oq FG h JR=> ?_) DJ.ne;obtain ⟨Ot,JS,JT⟩:=hS.elem 0 rfl JR FG;try simp only [W,EE,JS,JT]
      refine zZ 0 hS rfl rfl rfl rfl rfl h (fun Dl SS SU SV LL h O4=> ?_) DJ.ne;obtain ⟨SW,O5,O6⟩:=hS.elem 0 rfl O4 LL;try simp only [W,EE,O5,O6]
      refine z_ h fun DV Ju h=> ?_;refine mT Ju _ 1 rfl _ hS _ fun H hS=> ?_;try simp only [W,EE,reduceIte]
      refine zE EX ?_;refine zD ?_;exact Af IF ⟨_,(Option.some.inj h).symm,rfl,hS⟩
     ·try simp only [W,hc]
      refine zE EX ?_;refine zD ?_;exact Af IF ⟨_,(Option.some.inj h).symm,rfl,hS⟩
    ·obtain ⟨Ch,BH,rfl,hS⟩:=hq;obtain rfl:=BH.symm;replace h:=O2;try dsimp only at h
     refine zE CU ?_;refine zC ?_;simp only [W];refine zP h (fun hc h=> ?_) (fun hc h=> ?_)
     ·refine zx ?_;refine zE EW ?_;refine zu fun O7 IG=> ?_;refine zw fun O8 JY=> ?_;refine Ax gC [(15,[2,3,4]),(17,[])] (by kernel_rfl) rfl (by kernel_rfl) ?_
      try simp only [W,EE,reduceIte,Nat.reduceAdd,ig,kS,Nat.reduceEqDiff]
      refine zZ 0 hS rfl rfl rfl rfl rfl h (fun G6 SX SY SZ FH h FI=> ?_) DJ.ne;obtain ⟨S0,O9,O_⟩:=hS.elem 0 rfl FI FH;try simp only [W,EE,O9,O_]
      refine zZ 0 hS rfl rfl rfl rfl rfl h (fun H8 S1 S2 S3 FJ h FK=> ?_) DJ.ne;obtain ⟨S4,Pa,Pb⟩:=hS.elem 0 rfl FK FJ;try simp only [W,EE,Pa,Pb]
      refine zZ 0 hS rfl rfl rfl rfl rfl h (fun HG S5 S6 S7 Eh h E2=> ?_) DJ.ne;obtain ⟨S8,S9,S_⟩:=hS.elem 0 rfl E2 Eh;try simp only [W]
      refine z6 (a:= .int .i64 G6) (y' :=G6) 0 hS rfl E2 Eh rfl rfl rfl rfl rfl rfl rfl fun H hS=> ?_
      refine Ay ?_;refine Az (by first|rfl|(simp [aM,W,EE,EN,bI,jd,aF,AV.cells];done)|exact A3 0 hS rfl rfl rfl rfl rfl D0 Dg rfl rfl rfl rfl|exact A4 0 hS rfl rfl D0 Dg rfl rfl rfl|exact A3 0 hS rfl rfl rfl rfl rfl FF FE rfl rfl rfl rfl|exact A4 0 hS rfl rfl FF FE rfl rfl rfl|exact A3 0 hS rfl rfl rfl rfl rfl FI FH rfl rfl rfl rfl|exact A4 0 hS rfl rfl FI FH rfl rfl rfl|exact A3 0 hS rfl rfl rfl rfl rfl FK FJ rfl rfl rfl rfl|exact A4 0 hS rfl rfl FK FJ rfl rfl rfl|exact A3 0 hS rfl rfl rfl rfl rfl E2 Eh rfl rfl rfl rfl|exact A4 0 hS rfl rfl E2 Eh rfl rfl rfl) ?_
      refine Az (by first|rfl|(simp [aM,W,EE,EN,bI,jd,aF,AV.cells];done)|exact A3 0 hS rfl rfl rfl rfl rfl D0 Dg rfl rfl rfl rfl|exact A4 0 hS rfl rfl D0 Dg rfl rfl rfl|exact A3 0 hS rfl rfl rfl rfl rfl FF FE rfl rfl rfl rfl|exact A4 0 hS rfl rfl FF FE rfl rfl rfl|exact A3 0 hS rfl rfl rfl rfl rfl FI FH rfl rfl rfl rfl|exact A4 0 hS rfl rfl FI FH rfl rfl rfl|exact A3 0 hS rfl rfl rfl rfl rfl FK FJ rfl rfl rfl rfl|exact A4 0 hS rfl rfl FK FJ rfl rfl rfl|exact A3 0 hS rfl rfl rfl rfl rfl E2 Eh rfl rfl rfl rfl|exact A4 0 hS rfl rfl E2 Eh rfl rfl rfl) ?_
      refine Az (by first|rfl|(simp [aM,W,EE,EN,bI,jd,aF,AV.cells];done)|exact A3 0 hS rfl rfl rfl rfl rfl D0 Dg rfl rfl rfl rfl|exact A4 0 hS rfl rfl D0 Dg rfl rfl rfl|exact A3 0 hS rfl rfl rfl rfl rfl FF FE rfl rfl rfl rfl|exact A4 0 hS rfl rfl FF FE rfl rfl rfl|exact A3 0 hS rfl rfl rfl rfl rfl FI FH rfl rfl rfl rfl|exact A4 0 hS rfl rfl FI FH rfl rfl rfl|exact A3 0 hS rfl rfl rfl rfl rfl FK FJ rfl rfl rfl rfl|exact A4 0 hS rfl rfl FK FJ rfl rfl rfl|exact A3 0 hS rfl rfl rfl rfl rfl E2 Eh rfl rfl rfl rfl|exact A4 0 hS rfl rfl E2 Eh rfl rfl rfl) ?_
      refine AA ?_;try simp only [W,EE]
      refine zZ 0 hS rfl rfl rfl rfl rfl h (fun Fg Ta Tb Tc LY h LZ=> ?_) DJ.ne;obtain ⟨Td,Te,Tf⟩:=hS.elem 0 rfl LZ LY;try simp only [W]
      refine z6 (a:= .int .i64 H8) (y' :=H8) 0 hS rfl LZ LY rfl rfl rfl rfl rfl rfl rfl fun H hS=> ?_
      try simp only [W]
      refine zI JY ?_;refine zE IG ?_;refine zQ gC ?_;try simp only [W,EE,Nat.reduceAdd]
      exact Ab Cg h ⟨rfl,hS⟩
     ·refine zB ?_;refine zG EW ?_;try obtain rfl:=Option.some.inj h
      obtain rfl:=O0 _ rfl;have h:(some (CL):Option ((List Int)))=some (CL):=rfl;refine Ac Cg ?_;refine zJ Cf ?_;exact Af Cq ⟨_,(Option.some.inj h).symm,rfl,hS⟩
   ·obtain ⟨Dr,BH,rfl,hS⟩:=hq;obtain rfl:=BH.symm;replace h:=OZ;try dsimp only at h
    refine zI Ck ?_;refine zE CO ?_;refine zQ gC ?_;try simp only [W,EE,Nat.reduceAdd]
    exact Ab Cd h ⟨rfl,hS⟩
  ·refine zB ?_;refine zG CH ?_;try obtain rfl:=Option.some.inj h
   obtain rfl:=Ee _ rfl;have h:(some (EL):Option ((List Int)))=some (EL):=rfl;refine Ac Cd ?_;refine zJ B4 ?_;exact Af B5 ⟨_,(Option.some.inj h).symm,rfl,hS⟩
 ·obtain ⟨BO,BH,rfl,hS⟩:=hq;obtain rfl:=BH.symm;replace h:=Ed;try dsimp only at h
  refine zO BA ?_;try obtain rfl:=Option.some.inj h
  exact Bz _ hS
theorem Pc {a0:List Int} {a1:Int} {g2:Int→Int→Option Int} {f2:FuncId} {c2:List AV} {m0:AV} {r:(List Int)} (h:G9 a0 a1 g2=some r) {F:List It} {H:J} (mS: ∀{x0:Int} {DI:Int} {r:Int},g2 x0 DI=some r→ ∀(L:List It) (n:Nat),L.drop n=F→ ∀(H:J),aA H L→ ∀(P:AV→J→Prop),(∀H',aA H' L→P (.int .i64 r) H')→au C f2 ([.int .i64 x0,.int .i64 DI] ++ c2) H P) (hS:aA H (⟨m0,1,a0.map (AV.int .i64)⟩::F)) (DJ:bB m0) {P:AV→J→Prop} (Bz: ∀H',aA H' (⟨m0,1,r.map (AV.int .i64)⟩::F)→P (.aC []) H'):au C 128 [m0,.int .i64 a1,.fn f2 c2] H P:=by
 refine zT gC (res:=[]) (n:=63) rfl rfl rfl rfl fun K0 BA=> ?_;simp only [W,Nat.reduceSub,Nat.reduceAdd,List.replicate];unfold G9 at h;refine zu fun K1 BC=> ?_;refine zQ gC ?_;try simp only [W,Nat.reduceAdd]
 refine zE BC ?_;refine zu fun K2 yd=> ?_;refine zQ gC ?_;try simp only [W,Nat.reduceAdd]
 refine zE yd ?_;refine zu fun K3 BL=> ?_;obtain ⟨Pd,Pe,Jg⟩:=Option.bind_eq_some_iff.1 h;refine Ae gC (fun s H=> ∃B9:List Int,∃B_:Int,Pd=(B9,B_)∧s=(m0:: .int .i64 a1:: .fn f2 c2::u::u::u:: .int .i64 20:: .int .i64 B_::u::u::u::u::u::u::u::u::u::u::u::u::u::u::u::u::u::u::u::u::u::u::u::u::u::u::u::u::u::u::u::u::u::u::u::u::u::u::u::u::u::u::u::u::u::u::u::u::u::u::u::u::u::u::u::[])∧aA H (⟨m0,1,B9.map (AV.int .i64)⟩::F)) (fun Eu CN=> ?_) (fun s H hq=> ?_)
 ·refine zw fun ES CG=> ?_;refine Aa gC Pe (fun x s H=>match x with|(BO,BG,B2)=>s=(m0:: .int .i64 a1:: .fn f2 c2::u::u::u:: .int .i64 20:: .int .i64 BG:: .int .i64 B2::u::u::u::u::u::u::u::u::u::u::u::u::u::u::u::u::u::u::u::u::u::u::u::u::u::u::u::u::u::u::u::u::u::u::u::u::u::u::u::u::u::u::u::u::u::u::u::u::u::u::u::u::u::u::[])∧aA H (⟨m0,1,BO.map (AV.int .i64)⟩::F)) ⟨rfl,hS⟩ (fun x Ea s H h Pf hi Ev CH=> ?_)
  obtain ⟨BO,BG,B2⟩:=x;try dsimp only at hi
  obtain ⟨rfl,hS⟩:=hi;simp only [G7] at h;refine zu fun C9 BW=> ?_;refine zu fun C4 BX=> ?_;refine zQ gC ?_;try simp only [W,EE,Nat.reduceAdd]
  refine zE BX ?_;refine zC ?_;simp only [W];refine zP h (fun hc h=> ?_) (fun hc h=> ?_)
  ·refine zx ?_;refine zE BW ?_;refine zw fun Dm B3=> ?_;refine zu fun EA CC=> ?_;refine zQ gC ?_;try simp only [W,Nat.reduceAdd]
   refine z_ h fun CE IH h=> ?_;refine LX IH mS hS DJ fun H hS=> ?_;try simp only [W]
   refine zE CC ?_;refine zu fun Ft C_=> ?_;refine zQ gC ?_;try simp only [W,Nat.reduceAdd]
   refine zE C_ ?_;refine zQ gC ?_;try simp only [W,EE,Nat.reduceAdd]
   refine zI B3 ?_;exact Ab CH h ⟨rfl,hS⟩
  ·refine zB ?_;refine zG BW ?_;try obtain rfl:=Option.some.inj h
   obtain rfl:=Pf _ rfl;have h:(some (BO,BG):Option ((List Int)×Int))=some (BO,BG):=rfl;refine Ac CH ?_;refine zJ CG ?_;exact Af CN ⟨_,_,(Option.some.inj h).symm,rfl,hS⟩
 ·obtain ⟨B9,B_,rfl,rfl,hS⟩:=hq;replace h:=Jg;try dsimp only at h
  refine zE BL ?_;refine zu fun DZ Cg=> ?_;refine zQ gC ?_;try simp only [W,Nat.reduceAdd]
  refine z_ h fun BZ IA h=> ?_;refine LX IA mS hS DJ fun H hS=> ?_;try simp only [W]
  refine zE Cg ?_;obtain ⟨Pg,Ph,Pj⟩:=Option.bind_eq_some_iff.1 h;refine Ae gC (fun s H=>Pg=()∧s=(u::u::u::u::u::u::u::u::u::u::u::u::u::u::u::u::u::u::u::u::u::u::u::u::u::u::u::u::u::u::u::u::u::u::u::u::u::u::u::u::u::u::u::u::u::u::u::u::u::u::u::u::u::u::u::u::u::u::u::u::u::u::u::[])∧aA H (⟨m0,1,BZ.map (AV.int .i64)⟩::F)) (fun Ez CU=> ?_) (fun s H hq=> ?_)
  ·refine zw fun Gi Dn=> ?_;refine Aa gC Ph (fun x s H=>s=(m0:: .int .i64 a1:: .fn f2 c2::u::u::u:: .int .i64 x::u::u::u::u::u::u::u::u::u::u::u::u::u::u::u::u::u::u::u::u::u::u::u::u::u::u::u::u::u::u::u::u::u::u::u::u::u::u::u::u::u::u::u::u::u::u::u::u::u::u::u::u::u::u::u::u::[])∧aA H (⟨m0,1,BZ.map (AV.int .i64)⟩::F)) ⟨rfl,hS⟩ (fun CX Tg s H h Pk hi JE EY=> ?_)
   skip
   try dsimp only at hi
   obtain ⟨rfl,hS⟩:=hi;simp only [G8] at h;refine zu fun Lu Fx=> ?_;refine zu fun Lv Gk=> ?_;refine zQ gC ?_;try simp only [W,EE,Nat.reduceAdd]
   refine zE Gk ?_;refine zC ?_;simp only [W];refine zP h (fun hc h=> ?_) (fun hc h=> ?_)
   ·refine zx ?_;refine zE Fx ?_;refine zw fun Gc Dt=> ?_;refine zu fun Ip Ew=> ?_;refine zQ gC ?_;try simp only [W,EE,Nat.reduceAdd]
    refine zE Ew ?_;refine zu fun Ir DF=> ?_;obtain ⟨JZ,Pl,Pm⟩:=Option.bind_eq_some_iff.1 h;refine Ae gC (fun s H=>JZ=()∧s=(m0:: .int .i64 a1:: .fn f2 c2::u::u::u:: .int .i64 CX:: .int .i64 0::u::u::u::u::u::u::u::u::u::u::u::u::u::u::u::u::u::u::u::u::u::u::u::u::u::u::u::u::u::u::u::u::u::u::u::u::u::u::u::u::u::u::u::u::u::u::u::u::u::u::u::u::u::u::u::[])∧aA H (⟨m0,1,BZ.map (AV.int .i64)⟩::F)) (fun LN Gr=> ?_) (fun s H hq=> ?_)
    ·refine zw fun Is DX=> ?_;refine Aa gC Pl (fun x s H=>s=(m0:: .int .i64 a1:: .fn f2 c2::u::u::u:: .int .i64 CX:: .int .i64 0:: .int .i64 (IntKind.i64.wrap (2*CX))::u::u::u::u::u::u::u::u::u::u::u::u::u::u::u::u::u::u::u::u::u::u::u::u::u::u::u::u::u::u::u::u::u::u::u::u::u::u::u::u::u::u::u::u::u::u::u::u::u::u::u::u::u::u::[])∧aA H (⟨m0,1,BZ.map (AV.int .i64)⟩::F)) ⟨rfl,hS⟩ (fun x Th s H h Pn hi Jj Ey=> ?_)
     skip
     try dsimp only at hi
     obtain ⟨rfl,hS⟩:=hi;simp only [KU] at h;refine zu fun L3 FL=> ?_;refine zu fun ND Jx=> ?_;refine zQ gC ?_;try simp only [W,EE,Nat.reduceAdd]
     refine zE Jx ?_;refine zC ?_;simp only [W];refine zP h (fun hc h=> ?_) (fun hc h=> ?_)
     ·refine zx ?_;refine zE FL ?_;refine zw fun Jy Gm=> ?_;refine zu fun OA LP=> ?_;refine zQ gC ?_;try simp only [W,EE,Nat.reduceAdd]
      exact absurd h (by simp)
     ·refine zB ?_;refine zG FL ?_;try obtain rfl:=Option.some.inj h
      obtain rfl:=Pn _ rfl;have h:(some ():Option Unit)=some ():=rfl;refine Ac Ey ?_;refine zJ DX ?_;exact Af Gr ⟨(Option.some.inj h).symm,rfl,hS⟩
    ·obtain ⟨rfl,rfl,hS⟩:=hq;replace h:=Pm;try dsimp only at h
     refine zE DF ?_;refine zu fun Ti Po=> ?_;refine zu fun Tj Pp=> ?_;refine zQ gC ?_;try simp only [W,EE,Nat.reduceAdd]
     refine zE Pp ?_;refine zu fun Pq J0=> ?_;refine zQ gC ?_;try simp only [W,EE,Nat.reduceAdd]
     refine zE J0 ?_;obtain ⟨Pr,h,Ps⟩:=Option.bind_eq_some_iff.1 h;refine Ae gC (fun s H=>Pr=()∧s=(m0:: .int .i64 a1:: .fn f2 c2::u::u::u:: .int .i64 CX::u::u::u::u::u::u::u::u::u::u::u::u::u::u::u::u::u::u::u::u::u::u::u::u::u::u::u::u::u::u::u::u::u::u::u::u::u::u::u::u::u::u::u::u::u::u::u::u::u::u::u::u::u::u::u::u::[])∧aA H (⟨m0,1,BZ.map (AV.int .i64)⟩::F)) (fun Tk Pt=> ?_) (fun s H hq=> ?_)
     ·refine zu fun LQ Gs=> ?_;refine zC ?_;simp only [W];refine zP h (fun hc h=> ?_) (fun hc h=> ?_)
      ·refine zQ gC ?_;try simp only [W,Nat.reduceAdd]
       exact absurd h (by simp)
      ·refine zx ?_;refine zE Gs ?_;refine Bc (s' :=(m0:: .int .i64 a1:: .fn f2 c2::u::u::u:: .int .i64 CX::u::u::u::u::u::u::u::u::u::u::u::u::u::u::u::u::u::u::u::u::u::u::u::u::u::u::u::u::u::u::u::u::u::u::u::u::u::u::u::u::u::u::u::u::u::u::u::u::u::u::u::u::u::u::u::u::[])) rfl ?_
       exact Af Pt ⟨(Option.some.inj h).symm,rfl,hS⟩
     ·obtain ⟨rfl,rfl,hS⟩:=hq;replace h:=Ps;try dsimp only at h
      refine zE Po ?_;refine zQ gC ?_;try simp only [W,EE,Nat.reduceAdd]
      refine zI Dt ?_;exact Ab EY h ⟨rfl,hS⟩
   ·refine zB ?_;refine zG Fx ?_;try obtain rfl:=Option.some.inj h
    obtain rfl:=Pk _ rfl;have h:(some ():Option Unit)=some ():=rfl;refine Ac EY ?_;refine zJ Dn ?_;exact Af CU ⟨(Option.some.inj h).symm,rfl,hS⟩
  ·obtain ⟨rfl,rfl,hS⟩:=hq;replace h:=Pj;try dsimp only at h
   refine zO BA ?_;try obtain rfl:=Option.some.inj h
   exact Bz _ hS
theorem Pu {a0:List Int} {g1:Int→Int→Option Int} {f1:FuncId} {c1:List AV} {m0:AV} {r:(List Int)} (h:EO a0 g1=some r) {F:List It} {H:J} (cr: ∀{x0:Int} {DI:Int} {r:Int},g1 x0 DI=some r→ ∀(L:List It) (n:Nat),L.drop n=F→ ∀(H:J),aA H L→ ∀(P:AV→J→Prop),(∀H',aA H' L→P (.int .i64 r) H')→au C f1 ([.int .i64 x0,.int .i64 DI] ++ c1) H P) (hS:aA H (⟨m0,1,a0.map (AV.int .i64)⟩::F)) (DJ:bB m0) {P:AV→J→Prop} (Bz: ∀H',aA H' (⟨m0,1,r.map (AV.int .i64)⟩::F)→P (.aC []) H'):au C 74 [m0,.fn f1 c1] H P:=by
 refine zT gC (res:=[]) (n:=9) rfl rfl rfl rfl fun K0 BA=> ?_;simp only [W,Nat.reduceSub,Nat.reduceAdd,List.replicate];unfold EO at h;refine zQ gC ?_;try simp only [W,EE,Nat.reduceAdd]
 refine z7 0 hS rfl DJ rfl ?_;try simp only [W]
 refine z_ h fun b1 l_ h=> ?_;refine Pc l_ cr hS DJ fun H hS=> ?_;try simp only [W]
 refine zO BA ?_;try obtain rfl:=Option.some.inj h
 exact Bz _ hS
theorem Pv {a0:List Int} {a1:Int} {r:(List Int×Int×Bool)} (h:G_ a0 a1=some r) {F:List It} {H:J} (hS:aA H (F)) {P:AV→J→Prop} (Bz: ∀J1:AV,bB J1→ ∀H',aA H' (⟨J1,1,r.1.map (AV.int .i64)⟩::F)→P (.aC [J1,.int .i64 r.2.1,.bool r.2.2]) H'):au C 12 [.fz (a0.map (AV.int .i64)),.int .i64 a1] H P:=by
 refine zT gC (res:=[.tmp 4,.tmp 5,.tmp 6]) (n:=24) rfl rfl rfl rfl fun K0 BA=> ?_;simp only [W,Nat.reduceSub,Nat.reduceAdd,List.replicate];unfold G_ at h;refine zu fun K1 BC=> ?_;refine zQ gC ?_;try simp only [W,Nat.reduceAdd]
 refine zV hS rfl rfl rfl rfl fun JH JI H hS=> ?_;try simp only [W]
 refine zE BC ?_;refine zu fun K4 Cp=> ?_;refine zu fun K5 Cb=> ?_;refine zQ gC ?_;try simp only [W,EE,Nat.reduceAdd,hS.var 0 rfl]
 refine z_ h fun C1 ET h=> ?_;refine Gn ET hS fun H hS=> ?_;try simp only [W]
 refine zE Cb ?_;refine zC ?_;simp only [W];refine zP h (fun hc h=> ?_) (fun hc h=> ?_)
 ·refine zu fun K7 B5=> ?_;refine zQ gC ?_;try simp only [W,Nat.reduceAdd]
  refine zE B5 ?_;refine zy ?_;refine zF Cp ?_;refine zN BA rfl rfl rfl ?_;try obtain rfl:=Option.some.inj h
  exact Bz _ oO _ ((hS.Ap 1).At 2 [0] (by decide))
 ·refine zx ?_;refine zE Cp ?_;refine zu fun K8 B4=> ?_;refine zQ gC ?_;try simp only [W,EE,Nat.reduceAdd,hS.var 0 rfl]
  refine z_ h fun Cs Fu h=> ?_;refine LH Fu hS fun v10 B6 H hS=> ?_;try simp only [W]
  refine zE B4 ?_;refine zu fun ES CG=> ?_;refine zQ gC ?_;try simp only [W,Nat.reduceAdd]
  refine z_ h fun DB HE h=> ?_;refine Pu HE (fun h _ n hL _ hS _ Bz=>OX h (Au hL (List.mem_of_getElem? (i:=0) rfl)) hS Bz) hS B6 fun H hS=> ?_;try simp only [W]
  refine zE CG ?_;refine zu fun D9 Cv=> ?_;refine zQ gC ?_;try simp only [W,EE,Nat.reduceAdd,Nat.reduceBEq,hS.var 1 rfl,List.contains_cons,Nat.reduceBEq,Bool.or_self]
  refine AR (b7:=[[.sl [.sc]],[.sc],[.sc]]) (ys:=[.fz (a0.map (AV.int .i64)),.int .i64 a1,.fz (DB.map (AV.int .i64))]) h rfl (AE rfl (AE rfl (AE (AB hS 0 rfl B6 (fun _=>rfl)) AD))) fun DA HC h=>⟨.aC [.own 1 (DA.1.map (AV.int .i64)),.int .i64 DA.2.1,.bool DA.2.2],LI HC (aA.nil _) fun Tl Pw H hS=>AJ rfl (AI 0 hS rfl Pw (fun _ _=>by simp [aY,aR,de]) fun H hS=>AG rfl (AG rfl (AF rfl))),(AW (AU (AS _ (fun _=>rfl) _) (AU rfl (AU rfl AT)))),?_⟩
  refine AP ?_;refine AN hS (fun _ _=>rfl) (fun _=>rfl) fun Tm H Px hS=> ?_;refine AM (fun _=>rfl) ?_;refine AM (fun _=>rfl) ?_;refine AK ?_;try simp only [List.headD_cons]
  obtain ⟨CJ,CM,Ep⟩:=DA;try dsimp only at h
  try simp only [W]
  refine zE Cv ?_;refine zy ?_;refine zN BA rfl rfl rfl ?_;try obtain rfl:=Option.some.inj h
  exact Bz _ Px _ (hS.At 3 [0] (by decide))
theorem Py {a0:List Int} {a1:Int} {r:(List Int×Int×Bool)} (h:Hb a0 a1=some r) {F:List It} {H:J} (hS:aA H (F)) {P:AV→J→Prop} (Bz: ∀J2:AV,bB J2→ ∀H',aA H' (⟨J2,1,r.1.map (AV.int .i64)⟩::F)→P (.aC [J2,.int .i64 r.2.1,.bool r.2.2]) H'):au C 13 [.fz (a0.map (AV.int .i64)),.int .i64 a1] H P:=by
 refine zT gC (res:=[.tmp 4,.tmp 5,.tmp 6]) (n:=65) rfl rfl rfl rfl fun K0 BA=> ?_;simp only [W,Nat.reduceSub,Nat.reduceAdd,List.replicate];unfold Hb at h;refine zu fun K1 BC=> ?_;refine zQ gC ?_;try simp only [W,Nat.reduceAdd]
 refine zE BC ?_;refine zu fun K2 yd=> ?_;refine zu fun K3 BL=> ?_;refine zQ gC ?_;try simp only [W,Nat.reduceAdd]
 refine z_ h fun BU CP h=> ?_;refine HD CP hS fun H hS=> ?_;try simp only [W]
 refine zE BL ?_;refine zC ?_;simp only [W];refine zP h (fun hc h=> ?_) (fun hc h=> ?_)
 ·refine zu fun K5 Cb=> ?_;refine zQ gC ?_;try simp only [W,Nat.reduceAdd]
  refine zE Cb ?_;refine zy ?_;refine zF yd ?_;refine zN BA rfl rfl rfl ?_;try obtain rfl:=Option.some.inj h
  exact Bz _ oO _ (hS.Ap 1)
 ·refine zx ?_;refine zE yd ?_;refine zu fun K6 Ce=> ?_;refine zQ gC ?_;try simp only [W,Nat.reduceAdd]
  refine zE Ce ?_;refine zu fun K7 B5=> ?_;refine zu fun K8 B4=> ?_;refine zQ gC ?_;try simp only [W,EE,Nat.reduceAdd]
  refine zE B4 ?_;obtain ⟨Ea,FA,FB⟩:=Option.bind_eq_some_iff.1 h;refine Ae gC (fun s H=> ∃BE:List Int,Ea=(BE)∧ ∃Eg:AV,bB Eg∧s=(.fz (a0.map (AV.int .i64)):: .int .i64 a1::u::u::u::u::u::Eg::u::u::u::u::u::u::u::u::u::u::u::u::u::u::u::u::u::u::u::u::u::u::u::u::u::u::u::u::u::u::u::u::u::u::u::u::u::u::u::u::u::u::u::u::u::u::u::u::u::u::u::u::u::u::u::u::u::[])∧aA H (⟨Eg,1,BE.map (AV.int .i64)⟩::F)) (fun C9 BW=> ?_) (fun s H hq=> ?_)
  ·refine zw fun C4 BX=> ?_;refine Aa gC FA (fun x s H=>match x with|(BF,BB)=> ∃v10:AV,bB v10∧s=(.fz (a0.map (AV.int .i64)):: .int .i64 a1::u::u::u::u::u::v10::u::u::u::u::u::u::u::u::u:: .fz (a0.map (AV.int .i64)):: .int .i64 (a0.length:Int):: .int .i64 BB::u::u::u::u::u::u::u::u::u::u::u::u::u::u::u::u::u::u::u::u::u::u::u::u::u::u::u::u::u::u::u::u::u::u::u::u::u::u::u::u::u::u::u::u::u::[])∧aA H (⟨v10,1,BF.map (AV.int .i64)⟩::F)) ⟨_,oO,rfl,(hS.Ap 1)⟩ (fun x HB s H h FC hi Dm B3=> ?_)
   obtain ⟨BF,BB⟩:=x;try dsimp only at hi
   obtain ⟨v10,B6,rfl,hS⟩:=hi;simp only [Ia] at h;refine zu fun Eb Cq=> ?_;refine zQ gC ?_;try simp only [W,EE,Nat.reduceAdd]
   refine zE Cq ?_;refine zu fun DH Cf=> ?_;refine zC ?_;simp only [W];refine zP h (fun hc h=> ?_) (fun hc h=> ?_)
   ·refine zx ?_;refine zE Cf ?_;refine zu fun DZ Cg=> ?_;refine zw fun EZ C5=> ?_;refine zu fun FD Df=> ?_;refine zQ gC ?_;try simp only [W,EE,Nat.reduceAdd]
    refine zY rfl rfl rfl (fun _=>rfl) h fun Cu EB h=> ?_;try simp only [W,EE]
    refine zE Df ?_;refine zu fun Js EW=> ?_;refine zQ gC ?_;try simp only [W,Nat.reduceAdd]
    refine zE EW ?_;refine zu fun Ez CU=> ?_;obtain ⟨Lt,Pz,PA⟩:=Option.bind_eq_some_iff.1 h;refine Ae gC (fun s H=> ∃F9:Int,Lt=(F9)∧s=(.fz (a0.map (AV.int .i64)):: .int .i64 a1::u::u::u::u::u::v10:: .int .i64 BB::u:: .int .i64 F9::u::u::u::u::u::u:: .fz (a0.map (AV.int .i64)):: .int .i64 (a0.length:Int):: .int .i64 BB::u::u::u::u::u::u::u::u::u::u::u::u::u::u::u::u::u::u::u::u::u::u::u::u::u::u::u::u::u::u::u::u::u::u::u::u::u::u::u::u::u::u::u::u::u::[])∧aA H (⟨v10,1,BF.map (AV.int .i64)⟩::F)) (fun Jt EX=> ?_) (fun s H hq=> ?_)
    ·refine zw fun Lu Fx=> ?_;refine Aa gC Pz (fun x s H=>s=(.fz (a0.map (AV.int .i64)):: .int .i64 a1::u::u::u::u::u::v10:: .int .i64 BB:: .int .i64 Cu:: .int .i64 x::u::u::u::u::u::u:: .fz (a0.map (AV.int .i64)):: .int .i64 (a0.length:Int):: .int .i64 BB::u::u::u::u::u::u::u::u::u::u::u::u::u::u::u::u::u::u::u::u::u::u::u::u::u::u::u::u::u::u::u::u::u::u::u::u::u::u::u::u::u::u::u::u::u::[])∧aA H (⟨v10,1,BF.map (AV.int .i64)⟩::F)) ⟨rfl,hS⟩ (fun Ch Tn s H h PB hi Lv Gk=> ?_)
     skip
     try dsimp only at hi
     obtain ⟨rfl,hS⟩:=hi;simp only [H_] at h;refine zu fun O7 IG=> ?_;refine zu fun O8 JY=> ?_;obtain ⟨PC,h,PD⟩:=Option.bind_eq_some_iff.1 h;refine Ae gC (fun s H=> ∃Ha:Bool,PC=(Ha)∧s=(.fz (a0.map (AV.int .i64)):: .int .i64 a1::u::u::u::u::u::v10:: .int .i64 BB:: .int .i64 Cu:: .int .i64 Ch::u::u::u::u::u::u:: .fz (a0.map (AV.int .i64)):: .int .i64 (a0.length:Int):: .int .i64 BB::u::u::u::u::u::u::u::u::u::u::u::u::u::u::u::u::u::u:: .bool Ha::u::u::u::u::u::u::u::u::u::u::u::u::u::u::u::u::u::u::u::u::u::u::u::u::u::u::[])∧aA H (⟨v10,1,BF.map (AV.int .i64)⟩::F)) (fun Iu Ec=> ?_) (fun s H hq=> ?_)
     ·refine zu fun Jk EU=> ?_;refine zQ gC ?_;try simp only [W,EE,Nat.reduceAdd]
      refine z7 0 hS rfl B6 rfl ?_;try simp only [W,EE]
      refine Av h (fun hc h=> ?_) (fun hc h=> ?_)
      ·try simp only [W,EE,hc]
       refine zZ 0 hS rfl rfl rfl rfl rfl h (fun EP To Tp Tq Jl h PE=> ?_) B6.ne;obtain ⟨Ts,PF,PG⟩:=hS.elem 0 rfl PE Jl;try simp only [W,EE,PF,PG]
       refine zY rfl rfl rfl (fun _=>rfl) h fun C8 L4 h=> ?_;try simp only [W,EE,reduceIte]
       refine zE EU ?_;refine Bc (s' :=(.fz (a0.map (AV.int .i64)):: .int .i64 a1::u::u::u::u::u::v10:: .int .i64 BB:: .int .i64 Cu:: .int .i64 Ch::u::u::u::u::u::u:: .fz (a0.map (AV.int .i64)):: .int .i64 (a0.length:Int):: .int .i64 BB::u::u::u::u::u::u::u::u::u::u::u::u::u::u::u::u::u::u:: .bool (decide (Cu≤C8))::u::u::u::u::u::u::u::u::u::u::u::u::u::u::u::u::u::u::u::u::u::u::u::u::u::u::[])) rfl ?_
       exact Af Ec ⟨_,(Option.some.inj h).symm,rfl,hS⟩
      ·try simp only [W,hc]
       refine zE EU ?_;refine Bc (s' :=(.fz (a0.map (AV.int .i64)):: .int .i64 a1::u::u::u::u::u::v10:: .int .i64 BB:: .int .i64 Cu:: .int .i64 Ch::u::u::u::u::u::u:: .fz (a0.map (AV.int .i64)):: .int .i64 (a0.length:Int):: .int .i64 BB::u::u::u::u::u::u::u::u::u::u::u::u::u::u::u::u::u::u:: .bool false::u::u::u::u::u::u::u::u::u::u::u::u::u::u::u::u::u::u::u::u::u::u::u::u::u::u::[])) rfl ?_
       exact Af Ec ⟨_,(Option.some.inj h).symm,rfl,hS⟩
     ·obtain ⟨Ha,BH,rfl,hS⟩:=hq;obtain rfl:=BH.symm;replace h:=PD;try dsimp only at h
      refine zE JY ?_;refine zC ?_;simp only [W];refine zP h (fun hc h=> ?_) (fun hc h=> ?_)
      ·refine zx ?_;refine zE IG ?_;refine zw fun Jy Gm=> ?_;refine zQ gC ?_;try simp only [W,EE,Nat.reduceAdd]
       refine zI Gm ?_;exact Ab Gk h ⟨rfl,hS⟩
      ·refine zB ?_;refine zG IG ?_;try obtain rfl:=Option.some.inj h
       obtain rfl:=PB _ rfl;have h:(some (Ch):Option (Int))=some (Ch):=rfl;refine Ac Gk ?_;refine zJ Fx ?_;exact Af EX ⟨_,(Option.some.inj h).symm,rfl,hS⟩
    ·obtain ⟨F9,BH,rfl,hS⟩:=hq;obtain rfl:=BH.symm;replace h:=PA;try dsimp only at h
     refine zE CU ?_;refine zu fun L5 HH=> ?_;refine zQ gC ?_;try simp only [W,Nat.reduceAdd]
     refine z8 rfl rfl ?_;try simp only [W,EE]
     refine A8 0 hS rfl B6 rfl rfl rfl h fun Tt EI Tu PH PI h=> ?_;try simp only [W,EE]
     have hS:=hS.Aq 1;refine Ao (l:=([]:List Int)) (c:=(AV.int .i64)) 0 hS rfl oP rfl rfl rfl (hS.A9 1 rfl PH PI) (fun _=>rfl) rfl h fun Tv H Es PJ hm h hS=> ?_;try simp only [W]
     refine zE HH ?_;refine zu fun LQ Gs=> ?_;refine zQ gC ?_;try simp only [W,Nat.reduceAdd]
     refine z9 (el:=([BB]:List Int).map (AV.int .i64)) hS rfl rfl rfl rfl rfl rfl rfl fun Tw H PK hS=> ?_;try simp only [W,EE]
     refine Ao (l:=Es) (c:=(AV.int .i64)) 1 hS rfl PJ rfl rfl rfl (hS.gS 0 rfl PK) (fun _=>rfl) rfl h fun Tx H I_ PM hm h hS=> ?_;try simp only [W]
     refine zE Gs ?_;refine zQ gC ?_;try simp only [W,EE,Nat.reduceAdd]
     refine Am 2 hS rfl B6 rfl rfl rfl h fun Ty KV PN Tz h hS=> ?_;try simp only [W,EE]
     refine Ao (l:=I_) (c:=(AV.int .i64)) 1 hS rfl PM rfl rfl rfl (hS.gS 2 rfl PN) (fun _=>rfl) rfl h fun TA H KW PO hm h hS=> ?_;try simp only [W]
     refine zI C5 ?_;refine zE Cg ?_;refine zQ gC ?_;try simp only [W,EE,Nat.reduceAdd]
     exact Ab B3 h ⟨_,PO,rfl,(hS.At 3 [1] (by decide))⟩
   ·refine zB ?_;refine zG Cf ?_;try obtain rfl:=Option.some.inj h
    obtain rfl:=FC _ rfl;have h:(some (BF):Option ((List Int)))=some (BF):=rfl;refine Ac B3 ?_;refine zJ BX ?_;exact Af BW ⟨_,(Option.some.inj h).symm,_,B6,rfl,hS⟩
  ·obtain ⟨BE,BH,Eg,HF,rfl,hS⟩:=hq;obtain rfl:=BH.symm;replace h:=FB;try dsimp only at h
   refine zE B5 ?_;refine zu fun LV C6=> ?_;refine zQ gC ?_;try simp only [W,Nat.reduceAdd,Nat.reduceBEq,List.contains_cons,Nat.reduceBEq,Bool.or_self]
   refine AR (b7:=[[.sl [.sc]]]) (ys:=[.fz (a0.map (AV.int .i64)),.int .i64 a1,.fz (BE.map (AV.int .i64))]) h rfl (AE rfl (AE rfl (AE (AB hS 0 rfl HF (fun _=>rfl)) AD))) fun Hc PP h=>⟨.own 1 (Hc.map (AV.int .i64)),LO PP (aA.nil _) fun TB PQ H hS=>AJ rfl (AI 0 hS rfl PQ (fun _ _=>by simp [aY,aR,de]) fun H hS=>AF rfl),(AS _ (fun _=>rfl) _),?_⟩
   refine AO ?_;refine AN hS (fun _ _=>rfl) (fun _=>rfl) fun Nt H Ix hS=> ?_;refine AK ?_;try simp only [List.headD_cons]
   try simp only [W]
   refine zE C6 ?_;refine zu fun PR J3=> ?_;refine zQ gC ?_;try simp only [W,Nat.reduceAdd]
   refine AQ (b7:=[[.sc]]) (ys:=[.fz (a0.map (AV.int .i64)),.int .i64 a1,.fz (Hc.map (AV.int .i64))]) h rfl (AE rfl (AE rfl (AE (AB hS 0 rfl Ix (fun _=>rfl)) AD))) fun Hd Jq h=>⟨.int .i64 Hd,JL Jq (aA.nil _) fun H hS=>AJ rfl (AG rfl (AF rfl)),⟨rfl,rfl,fun _=>rfl⟩,?_⟩;try simp only [W]
   refine zE J3 ?_;refine zy ?_;refine zN BA rfl rfl rfl ?_;try obtain rfl:=Option.some.inj h
   exact Bz _ Ix _ (hS.At 2 [0] (by decide))
theorem PS {rc:(List Int)→(List Int)→Option ((Int×List Int))} (J4: ∀{a0:List Int} {a1:List Int} {Cl:AV} {r:(Int×List Int)} (_h:rc a0 a1=some r) {F:List It} {H:J} (_hS:aA H (⟨Cl,1,a1.map (AV.int .i64)⟩::F)) (_qm10:bB Cl) {P:AV→J→Prop} (_hP: ∀H',aA H' (⟨Cl,1,r.2.map (AV.int .i64)⟩::F)→P (.int .i64 r.1) H'),au C 76 [.fz (a0.map (AV.int .i64)),Cl] H P) {a0:List Int} {a1:List Int} {Cl:AV} {r:(Int×List Int)} (h:He rc a0 a1=some r) {F:List It} {H:J} (hS:aA H (⟨Cl,1,a1.map (AV.int .i64)⟩::F)) (FM:bB Cl) {P:AV→J→Prop} (Bz: ∀H',aA H' (⟨Cl,1,r.2.map (AV.int .i64)⟩::F)→P (.int .i64 r.1) H'):au C 76 [.fz (a0.map (AV.int .i64)),Cl] H P:=by
 refine zT gC (res:=[.tmp 4]) (n:=50) rfl rfl rfl rfl fun K0 BA=> ?_;simp only [W,Nat.reduceSub,Nat.reduceAdd,List.replicate];unfold He at h;refine zu fun K1 BC=> ?_;refine zQ gC ?_;try simp only [W,Nat.reduceAdd]
 refine zE BC ?_;refine zu fun K2 yd=> ?_;refine zu fun K3 BL=> ?_;refine zQ gC ?_;try simp only [W,EE,Nat.reduceAdd]
 refine zE BL ?_;refine zC ?_;simp only [W];refine zP h (fun hc h=> ?_) (fun hc h=> ?_)
 ·refine zu fun K4 Cp=> ?_;refine zQ gC ?_;try simp only [W,Nat.reduceAdd]
  refine AQ (b7:=[[.sc]]) (ys:=[.fz (a1.map (AV.int .i64))]) h rfl (AE (AB hS 0 rfl FM (fun _=>rfl)) AD) fun Dd PT h=>⟨.int .i64 Dd,ID PT (aA.nil _) fun H hS=>AJ rfl (AG rfl (AF rfl)),⟨rfl,rfl,fun _=>rfl⟩,?_⟩;try simp only [W]
  refine zE Cp ?_;refine zy ?_;refine zF yd ?_;refine zL BA rfl ?_;try obtain rfl:=Option.some.inj h
  exact Bz _ hS
 ·refine zx ?_;refine zE yd ?_;refine zu fun K6 Ce=> ?_;refine zQ gC ?_;try simp only [W,Nat.reduceAdd]
  refine zE Ce ?_;refine zu fun K7 B5=> ?_;refine zu fun K8 B4=> ?_;refine zQ gC ?_;try simp only [W,EE,Nat.reduceAdd]
  refine z7 0 hS rfl FM rfl ?_;try simp only [W]
  refine zE B4 ?_;obtain ⟨FN,J5,J6⟩:=Option.bind_eq_some_iff.1 h;refine Ae gC (fun s H=> ∃BB:Int,∃BE:List Int,FN=(BB,BE)∧s=[u,u,u,u,u,.int .i64 BB,u,u,u,u,u,u,u,u,u,u,u,u,u,u,u,u,u,u,u,u,u,u,u,u,u,u,u,u,u,u,u,u,u,u,u,u,u,u,u,u,u,u,u,u]∧aA H (⟨Cl,1,BE.map (AV.int .i64)⟩::F)) (fun DW Ck=> ?_) (fun s H hq=> ?_)
  ·refine zw fun C9 BW=> ?_;refine Aa gC J5 (fun x s H=>match x with|(BF,Ct,BN)=>s=[.fz (a0.map (AV.int .i64)),Cl,u,u,u,.int .i64 Ct,u,u,u,u,u,u,u,u,.int .i64 (a1.length:Int),.int .i64 BN,u,u,u,u,u,u,u,u,u,u,u,u,u,u,u,u,u,u,u,u,u,u,u,u,u,u,u,u,u,u,u,u,u,u]∧aA H (⟨Cl,1,BF.map (AV.int .i64)⟩::F)) ⟨rfl,hS⟩ (fun x PU s H h J7 hi C4 BX=> ?_)
   obtain ⟨BF,Ct,BN⟩:=x;try dsimp only at hi
   obtain ⟨rfl,hS⟩:=hi;simp only [Ib] at h;refine zu fun Ft C_=> ?_;refine zQ gC ?_;try simp only [W,EE,Nat.reduceAdd]
   refine zE C_ ?_;refine zu fun Eb Cq=> ?_;refine zC ?_;simp only [W];refine zP h (fun hc h=> ?_) (fun hc h=> ?_)
   ·refine zx ?_;refine zE Cq ?_;refine zu fun DH Cf=> ?_;refine zw fun DZ Cg=> ?_;refine zu fun EZ C5=> ?_;refine zQ gC ?_;try simp only [W,Nat.reduceAdd]
    refine zE C5 ?_;refine zu fun FD Df=> ?_;refine Ax gC [(9,[])] (by kernel_rfl) rfl (by kernel_rfl) ?_
    try simp only [W,EE,reduceIte,Nat.reduceAdd,ig,kS,Nat.reduceEqDiff]
    refine zZ 0 hS rfl rfl rfl rfl rfl h (fun Cu Ly Lz LA EB h Gp=> ?_) FM.ne;obtain ⟨LB,IB,IC⟩:=hS.elem 0 rfl Gp EB;try simp only [W,EE,IB,IC]
    refine zY rfl rfl rfl (fun _=>rfl) h fun D6 N3 h=> ?_;try simp only [W,EE]
    refine zZ 0 hS rfl rfl rfl rfl rfl h (fun DT N4 N5 N6 Dg h D0=> ?_) FM.ne;obtain ⟨N7,N8,N9⟩:=hS.elem 0 rfl D0 Dg;try simp only [W]
    refine z6 (a:= .int .i64 (IntKind.i64.wrap (Cu+D6))) (y' :=(IntKind.i64.wrap (Cu+D6))) 0 hS rfl D0 Dg rfl rfl rfl rfl rfl rfl rfl fun H hS=> ?_
    try simp only [W]
    refine zE Df ?_;refine zu fun Om JQ=> ?_;refine zu fun O3 IF=> ?_;refine zQ gC ?_;try simp only [W,EE,Nat.reduceAdd]
    refine Al rfl rfl rfl (fun _=>rfl) h fun Cj TD h=> ?_;try simp only [W]
    refine z_ h fun CZ FG h=> ?_;obtain ⟨Ic,Dl⟩:=CZ;try dsimp only at h
    refine J4 FG hS FM fun H hS=> ?_;try simp only [W]
    refine zE IF ?_;refine zu fun Ip Ew=> ?_;obtain ⟨JZ,h,PV⟩:=Option.bind_eq_some_iff.1 h;refine Ae gC (fun s H=> ∃Fm:Bool,JZ=(Fm)∧s=[.fz (a0.map (AV.int .i64)),Cl,u,u,u,.int .i64 Ct,.int .i64 BN,.int .i64 Ic,u,u,u,u,u,u,.int .i64 (a1.length:Int),.int .i64 BN,u,u,u,u,u,u,u,u,u,u,u,u,u,u,u,u,u,u,u,u,u,.bool Fm,u,u,u,u,u,u,u,u,u,u,u,u]∧aA H (⟨Cl,1,Dl.map (AV.int .i64)⟩::F)) (fun LN Gr=> ?_) (fun s H hq=> ?_)
    ·refine zu fun Is DX=> ?_;refine zQ gC ?_;try simp only [W,EE,Nat.reduceAdd]
     refine Av h (fun hc h=> ?_) (fun hc h=> ?_)
     ·try simp only [W,hc]
      refine zE DX ?_;refine zD ?_;exact Af Gr ⟨_,(Option.some.inj h).symm,rfl,hS⟩
     ·try simp only [W,EE,reduceIte,Bool.false_eq_true,hc]
      refine zE DX ?_;refine zD ?_;exact Af Gr ⟨_,(Option.some.inj h).symm,rfl,hS⟩
    ·obtain ⟨Fm,BH,rfl,hS⟩:=hq;obtain rfl:=BH.symm;replace h:=PV;try dsimp only at h
     refine zE Ew ?_;obtain ⟨PW,h,PX⟩:=Option.bind_eq_some_iff.1 h;refine Ae gC (fun s H=> ∃EH:Int,PW=(EH)∧s=[.fz (a0.map (AV.int .i64)),Cl,u,u,u,.int .i64 EH,.int .i64 BN,u,u,u,u,u,u,u,.int .i64 (a1.length:Int),.int .i64 BN,u,u,u,u,u,u,u,u,u,u,u,u,u,u,u,u,u,u,u,u,u,u,u,u,u,u,u,u,u,u,u,u,u,u]∧aA H (⟨Cl,1,Dl.map (AV.int .i64)⟩::F)) (fun PY II=> ?_) (fun s H hq=> ?_)
     ·refine zu fun L3 FL=> ?_;refine zC ?_;simp only [W];refine zP h (fun hc h=> ?_) (fun hc h=> ?_)
      ·refine zQ gC ?_;try simp only [W,Nat.reduceAdd]
       refine zE FL ?_;refine zD ?_;exact Af II ⟨_,(Option.some.inj h).symm,rfl,hS⟩
      ·refine zx ?_;refine zE FL ?_;refine zD ?_;exact Af II ⟨_,(Option.some.inj h).symm,rfl,hS⟩
     ·obtain ⟨EH,BH,rfl,hS⟩:=hq;obtain rfl:=BH.symm;replace h:=PX;try dsimp only at h
      refine zE JQ ?_;refine Ax gC [(9,[])] (by kernel_rfl) rfl (by kernel_rfl) ?_
      try simp only [W,EE,reduceIte,Nat.reduceAdd,ig,kS,Nat.reduceEqDiff]
      refine zZ 0 hS rfl rfl rfl rfl rfl h (fun C8 TE TF TG L4 h PZ=> ?_) FM.ne;obtain ⟨TJ,P0,P1⟩:=hS.elem 0 rfl PZ L4;try simp only [W,EE,P0,P1]
      refine zY rfl rfl rfl (fun _=>rfl) h fun Ie TK h=> ?_;try simp only [W,EE]
      refine zZ 0 hS rfl rfl rfl rfl rfl h (fun TL TM TN TO L6 h L7=> ?_) FM.ne;obtain ⟨TP,TQ,TR⟩:=hS.elem 0 rfl L7 L6;try simp only [W]
      refine z6 (a:= .int .i64 (IntKind.i64.wrap (C8-Ie))) (y' :=(IntKind.i64.wrap (C8-Ie))) 0 hS rfl L7 L6 rfl rfl rfl rfl rfl rfl rfl fun H hS=> ?_
      try simp only [W]
      refine zI Cg ?_;refine zE Cf ?_;refine zQ gC ?_;try simp only [W,EE,Nat.reduceAdd]
      exact Ab BX h ⟨rfl,hS⟩
   ·refine zB ?_;refine zG Cq ?_;try obtain rfl:=Option.some.inj h
    obtain rfl:=J7 _ rfl;have h:(some (Ct,BF):Option (Int×(List Int)))=some (Ct,BF):=rfl;refine Ac BX ?_;refine zJ BW ?_;exact Af Ck ⟨_,_,(Option.some.inj h).symm,rfl,hS⟩
  ·obtain ⟨BB,BE,rfl,rfl,hS⟩:=hq;replace h:=J6;try dsimp only at h
   refine zE B5 ?_;refine zu fun Pq J0=> ?_;refine zQ gC ?_;try simp only [W,Nat.reduceAdd]
   refine zE J0 ?_;refine zy ?_;refine zL BA rfl ?_;try obtain rfl:=Option.some.inj h
   exact Bz _ hS
theorem L8: ∀n:Nat,∀{a0:List Int} {a1:List Int} {Cl:AV} {r:(Int×List Int)} (_h:EQ n a0 a1=some r) {F:List It} {H:J} (_hS:aA H (⟨Cl,1,a1.map (AV.int .i64)⟩::F)) (_qm10:bB Cl) {P:AV→J→Prop} (_hP: ∀H',aA H' (⟨Cl,1,r.2.map (AV.int .i64)⟩::F)→P (.int .i64 r.1) H'),au C 76 [.fz (a0.map (AV.int .i64)),Cl] H P
 |0=>fun h=>by simp [EQ] at h
 |n+1=>PS (L8 n)
theorem P2: ∀{a0:List Int} {a1:List Int} {Cl:AV} {r:(Int×List Int)} (_h:Ja a0 a1=some r) {F:List It} {H:J} (_hS:aA H (⟨Cl,1,a1.map (AV.int .i64)⟩::F)) (_qm10:bB Cl) {P:AV→J→Prop} (_hP: ∀H',aA H' (⟨Cl,1,r.2.map (AV.int .i64)⟩::F)→P (.int .i64 r.1) H'),au C 76 [.fz (a0.map (AV.int .i64)),Cl] H P:=
 L8 64
theorem P3 {a0:List Int} {a1:Int} {r:(Int×Bool)} (h:Hf a0 a1=some r) {F:List It} {H:J} (hS:aA H (F)) {P:AV→J→Prop} (Bz: ∀H',aA H' (F)→P (.aC [.int .i64 r.1,.bool r.2]) H'):au C 14 [.fz (a0.map (AV.int .i64)),.int .i64 a1] H P:=by
 refine zT gC (res:=[.tmp 4,.tmp 5]) (n:=14) rfl rfl rfl rfl fun K0 BA=> ?_;simp only [W,Nat.reduceSub,Nat.reduceAdd,List.replicate];unfold Hf at h;refine zu fun K1 BC=> ?_;refine zQ gC ?_;try simp only [W,Nat.reduceAdd]
 refine zE BC ?_;refine zu fun K2 yd=> ?_;refine zu fun K3 BL=> ?_;refine zQ gC ?_;try simp only [W,Nat.reduceAdd]
 refine z_ h fun BU CP h=> ?_;refine Gn CP hS fun H hS=> ?_;try simp only [W]
 refine zE BL ?_;refine zC ?_;simp only [W];refine zP h (fun hc h=> ?_) (fun hc h=> ?_)
 ·refine zu fun K5 Cb=> ?_;refine zQ gC ?_;try simp only [W,Nat.reduceAdd]
  refine zE Cb ?_;refine zy ?_;refine zF yd ?_;refine zM BA rfl rfl ?_;try obtain rfl:=Option.some.inj h
  exact Bz _ hS
 ·refine zx ?_;refine zE yd ?_;refine zu fun K6 Ce=> ?_;refine zQ gC ?_;try simp only [W,Nat.reduceAdd]
  refine An (c:=(AV.int .i64)) hS rfl rfl rfl rfl rfl rfl h fun Dh H BF E1 hm h hS=> ?_;try simp only [W]
  refine z_ h fun Cy ER h=> ?_;obtain ⟨CY,DS⟩:=Cy;try dsimp only at h
  refine P2 ER hS E1 fun H hS=> ?_;try simp only [W]
  refine zE Ce ?_;refine zy ?_;refine zM BA rfl rfl ?_;try obtain rfl:=Option.some.inj h
  exact Bz _ (hS.At 1 [] (by decide))
theorem L9 {a0:List Int} {r:(Int)} (h:Ga a0=some r) {F:List It} {H:J} (hS:aA H (F)) {P:AV→J→Prop} (Bz: ∀H',aA H' (F)→P (.int .i64 r) H'):au C 78 [.fz (a0.map (AV.int .i64))] H P:=by
 refine zT gC (res:=[.tmp 2]) (n:=17) rfl rfl rfl rfl fun K0 BA=> ?_;simp only [W,Nat.reduceSub,Nat.reduceAdd,List.replicate];unfold Ga at h;refine zu fun K1 BC=> ?_;refine zQ gC ?_;try simp only [W,Nat.reduceAdd]
 refine zE BC ?_;refine zu fun K2 yd=> ?_;refine zQ gC ?_;try simp only [W,Nat.reduceAdd]
 refine zE yd ?_;refine zu fun K3 BL=> ?_;refine zu fun K4 Cp=> ?_;refine zQ gC ?_;try simp only [W,EE,Nat.reduceAdd]
 refine zE Cp ?_;obtain ⟨FO,FP,E6⟩:=Option.bind_eq_some_iff.1 h;refine Ae gC (fun s H=> ∃B9:Int,FO=(B9)∧s=[u,u,u,.int .i64 B9,u,u,u,u,u,u,u,u,u,u,u,u,u]∧aA H (F)) (fun D_ Cw=> ?_) (fun s H hq=> ?_)
 ·refine zw fun Eu CN=> ?_;refine Aa gC FP (fun x s H=>match x with|(BG,B2)=>s=[u,u,u,.int .i64 BG,u,u,.fz (a0.map (AV.int .i64)),.int .i64 (a0.length:Int),.int .i64 B2,u,u,u,u,u,u,u,u]∧aA H (F)) ⟨rfl,hS⟩ (fun x FN s H h E7 hi ES CG=> ?_)
  obtain ⟨BG,B2⟩:=x;try dsimp only at hi
  obtain ⟨rfl,hS⟩:=hi;simp only [If] at h;refine zu fun DW Ck=> ?_;refine zQ gC ?_;try simp only [W,EE,Nat.reduceAdd]
  refine zE Ck ?_;refine zu fun C9 BW=> ?_;refine zC ?_;simp only [W];refine zP h (fun hc h=> ?_) (fun hc h=> ?_)
  ·refine zx ?_;refine zE BW ?_;refine zu fun C4 BX=> ?_;refine zw fun Dm B3=> ?_;refine zu fun EA CC=> ?_;refine zQ gC ?_;try simp only [W,EE,Nat.reduceAdd]
   refine zY rfl rfl rfl (fun _=>rfl) h fun CE IH h=> ?_;try simp only [W,EE]
   refine zE CC ?_;refine zQ gC ?_;try simp only [W,EE,Nat.reduceAdd]
   refine zI B3 ?_;refine zE BX ?_;refine zQ gC ?_;try simp only [W,EE,Nat.reduceAdd]
   exact Ab CG h ⟨rfl,hS⟩
  ·refine zB ?_;refine zG BW ?_;try obtain rfl:=Option.some.inj h
   obtain rfl:=E7 _ rfl;have h:(some (BG):Option (Int))=some (BG):=rfl;refine Ac CG ?_;refine zJ CN ?_;exact Af Cw ⟨_,(Option.some.inj h).symm,rfl,hS⟩
 ·obtain ⟨B9,BH,rfl,hS⟩:=hq;obtain rfl:=BH.symm;replace h:=E6;try dsimp only at h
  refine zE BL ?_;refine zu fun DH Cf=> ?_;refine zQ gC ?_;try simp only [W,Nat.reduceAdd]
  refine zE Cf ?_;refine zy ?_;refine zL BA rfl ?_;try obtain rfl:=Option.some.inj h
  exact Bz _ hS
theorem P4 {rc:(List Int)→(List Int)→Int→Option (Int)} (J4: ∀{a0:List Int} {a1:List Int} {a2:Int} {r:(Int)} (_h:rc a0 a1 a2=some r) {F:List It} {H:J} (_hS:aA H (F)) {P:AV→J→Prop} (_hP: ∀H',aA H' (F)→P (.int .i64 r) H'),au C 77 [.fz (a0.map (AV.int .i64)),.fz (a1.map (AV.int .i64)),.int .i64 a2] H P) {a0:List Int} {a1:List Int} {a2:Int} {r:(Int)} (h:Ii rc a0 a1 a2=some r) {F:List It} {H:J} (hS:aA H (F)) {P:AV→J→Prop} (Bz: ∀H',aA H' (F)→P (.int .i64 r) H'):au C 77 [.fz (a0.map (AV.int .i64)),.fz (a1.map (AV.int .i64)),.int .i64 a2] H P:=by
 refine zT gC (res:=[.tmp 6]) (n:=54) rfl rfl rfl rfl fun K0 BA=> ?_;simp only [W,Nat.reduceSub,Nat.reduceAdd,List.replicate];unfold Ii at h;refine zu fun K1 BC=> ?_;refine zQ gC ?_;try simp only [W,Nat.reduceAdd]
 refine zE BC ?_;refine zu fun K2 yd=> ?_;refine zQ gC ?_;try simp only [W,Nat.reduceAdd]
 refine zE yd ?_;refine zu fun K3 BL=> ?_;refine zu fun K4 Cp=> ?_;refine zQ gC ?_;try simp only [W,EE,Nat.reduceAdd]
 refine zE Cp ?_;obtain ⟨FO,FP,E6⟩:=Option.bind_eq_some_iff.1 h;refine Ae gC (fun s H=> ∃B9:Int,FO=(B9)∧s=[.fz (a0.map (AV.int .i64)),.fz (a1.map (AV.int .i64)),.int .i64 a2,u,u,u,u,.int .i64 B9,u,u,u,u,u,u,u,u,u,u,u,u,u,u,u,u,u,u,u,u,u,u,u,u,u,u,u,u,u,u,u,u,u,u,u,u,u,u,u,u,u,u,u,u,u,u]∧aA H (F)) (fun D_ Cw=> ?_) (fun s H hq=> ?_)
 ·refine zw fun Eu CN=> ?_;refine Aa gC FP (fun x s H=>match x with|(BG,B2)=>s=[.fz (a0.map (AV.int .i64)),.fz (a1.map (AV.int .i64)),.int .i64 a2,u,u,u,u,.int .i64 BG,u,u,u,u,.fz (a1.map (AV.int .i64)),.int .i64 (a1.length:Int),.int .i64 B2,u,u,u,u,u,u,u,u,u,u,u,u,u,u,u,u,u,u,u,u,u,u,u,u,u,u,u,u,u,u,u,u,u,u,u,u,u,u,u]∧aA H (F)) ⟨rfl,hS⟩ (fun x FN s H h E7 hi ES CG=> ?_)
  obtain ⟨BG,B2⟩:=x;try dsimp only at hi
  obtain ⟨rfl,hS⟩:=hi;simp only [Ig] at h;refine zu fun DW Ck=> ?_;refine zQ gC ?_;try simp only [W,EE,Nat.reduceAdd]
  refine zE Ck ?_;refine zu fun C9 BW=> ?_;refine zC ?_;simp only [W];refine zP h (fun hc h=> ?_) (fun hc h=> ?_)
  ·refine zx ?_;refine zE BW ?_;refine zu fun C4 BX=> ?_;refine zw fun Dm B3=> ?_;refine zu fun EA CC=> ?_;refine zQ gC ?_;try simp only [W,EE,Nat.reduceAdd]
   refine zY rfl rfl rfl (fun _=>rfl) h fun CE IH h=> ?_;try simp only [W,EE]
   refine zE CC ?_;refine zQ gC ?_;try simp only [W,Nat.reduceAdd]
   refine z_ h fun D3 L_ h=> ?_;refine Iy L_ hS fun H hS=> ?_;try simp only [W]
   refine zI B3 ?_;refine zE BX ?_;refine zQ gC ?_;try simp only [W,EE,Nat.reduceAdd]
   exact Ab CG h ⟨rfl,hS⟩
  ·refine zB ?_;refine zG BW ?_;try obtain rfl:=Option.some.inj h
   obtain rfl:=E7 _ rfl;have h:(some (BG):Option (Int))=some (BG):=rfl;refine Ac CG ?_;refine zJ CN ?_;exact Af Cw ⟨_,(Option.some.inj h).symm,rfl,hS⟩
 ·obtain ⟨B9,BH,rfl,hS⟩:=hq;obtain rfl:=BH.symm;replace h:=E6;try dsimp only at h
  refine zE BL ?_;refine zu fun DZ Cg=> ?_;refine zu fun EZ C5=> ?_;refine zQ gC ?_;try simp only [W,EE,Nat.reduceAdd]
  refine zE C5 ?_;refine zC ?_;simp only [W];refine zP h (fun hc h=> ?_) (fun hc h=> ?_)
  ·refine zu fun FD Df=> ?_;refine zQ gC ?_;try simp only [W,Nat.reduceAdd]
   refine zE Df ?_;refine zy ?_;refine zF Cg ?_;refine zL BA rfl ?_;try obtain rfl:=Option.some.inj h
   exact Bz _ hS
  ·refine zx ?_;refine zE Cg ?_;refine zu fun Iz Ef=> ?_;refine zu fun Js EW=> ?_;refine zQ gC ?_;try simp only [W,EE,Nat.reduceAdd]
   refine zE EW ?_;refine zC ?_;simp only [W];refine zP h (fun hc h=> ?_) (fun hc h=> ?_)
   ·refine zu fun Ez CU=> ?_;refine zQ gC ?_;try simp only [W,Nat.reduceAdd]
    refine zE CU ?_;refine zy ?_;refine zF Ef ?_;refine zL BA rfl ?_;try obtain rfl:=Option.some.inj h
    exact Bz _ hS
   ·refine zx ?_;refine zE Ef ?_;refine zu fun Gi Dn=> ?_;refine zu fun JE EY=> ?_;refine zQ gC ?_;try simp only [W,EE,Nat.reduceAdd]
    refine zE EY ?_;obtain ⟨Hs,Ht,Hu⟩:=Option.bind_eq_some_iff.1 h;refine Ae gC (fun s H=> ∃Cj:Int,Hs=(Cj)∧s=[u,u,.int .i64 Cj,u,u,u,u,u,u,u,u,u,u,u,u,u,u,u,u,u,u,u,u,u,u,u,u,u,u,u,u,u,u,u,u,u,u,u,u,u,u,u,u,u,u,u,u,u,u,u,u,u,u,u]∧aA H (F)) (fun Gc Dt=> ?_) (fun s H hq=> ?_)
    ·refine zw fun Ip Ew=> ?_;refine Aa gC Ht (fun x s H=>match x with|(Cr,Ci)=>s=[.fz (a0.map (AV.int .i64)),.fz (a1.map (AV.int .i64)),.int .i64 Cr,u,u,u,u,u,u,u,u,u,u,u,u,u,u,u,u,u,u,u,u,u,u,u,u,u,u,u,u,.int .i64 (a1.length:Int),.int .i64 Ci,u,u,u,u,u,u,u,u,u,u,u,u,u,u,u,u,u,u,u,u,u]∧aA H (F)) ⟨rfl,hS⟩ (fun x Lj s H h Hv hi Ir DF=> ?_)
     obtain ⟨Cr,Ci⟩:=x;try dsimp only at hi
     obtain ⟨rfl,hS⟩:=hi;simp only [Ih] at h;refine zu fun Is DX=> ?_;refine zQ gC ?_;try simp only [W,EE,Nat.reduceAdd]
     refine zE DX ?_;refine zu fun Jj Ey=> ?_;refine zC ?_;simp only [W];refine zP h (fun hc h=> ?_) (fun hc h=> ?_)
     ·refine zx ?_;refine zE Ey ?_;refine zu fun Iu Ec=> ?_;refine zw fun Jk EU=> ?_;refine zu fun PY II=> ?_;refine zQ gC ?_;try simp only [W,Nat.reduceAdd]
      refine zE II ?_;refine zu fun L3 FL=> ?_;refine zQ gC ?_;try simp only [W,Nat.reduceAdd]
      refine z8 rfl rfl ?_;try simp only [W,EE]
      have hS:=hS.Aq 1;refine Ao (l:=([]:List Int)) (c:=(AV.int .i64)) 0 hS rfl oP rfl rfl rfl rfl (fun _=>rfl) rfl h fun TS H Hg J8 hm h hS=> ?_;try simp only [W]
      refine zE FL ?_;refine zu fun L5 HH=> ?_;refine Ax gC [(9,[])] (by kernel_rfl) rfl (by kernel_rfl) ?_
      try simp only [W,EE,reduceIte,Nat.reduceAdd,ig,kS,Nat.reduceEqDiff]
      refine zZ 0 hS rfl rfl rfl rfl rfl h (fun Et TT TU TW J9 h P5=> ?_) J8.ne;obtain ⟨TX,P6,P7⟩:=hS.elem 0 rfl P5 J9;try simp only [W,EE,P6,P7]
      refine zY rfl rfl rfl (fun _=>rfl) h fun CA TY h=> ?_;try simp only [W,EE]
      refine zZ 0 hS rfl rfl rfl rfl rfl h (fun TZ T1 T2 T3 Ma h Mb=> ?_) J8.ne;obtain ⟨T4,T5,T6⟩:=hS.elem 0 rfl Mb Ma;try simp only [W]
      refine z6 (a:= .int .i64 (IntKind.i64.wrap (Et+CA))) (y' :=(IntKind.i64.wrap (Et+CA))) 0 hS rfl Mb Ma rfl rfl rfl rfl rfl rfl rfl fun H hS=> ?_
      try simp only [W]
      refine zE HH ?_;refine zQ gC ?_;try simp only [W,EE,Nat.reduceAdd]
      refine Al rfl rfl rfl (fun _=>rfl) h fun Ek T7 h=> ?_;try simp only [W]
      refine AQ (b7:=[[.sc]]) (ys:=[.fz (Ek.map (AV.int .i64)),.fz ((Hg.set Ci.toNat (IntKind.i64.wrap (Et+CA))).map (AV.int .i64)),.int .i64 Cr]) h rfl (AE rfl (AE (AB hS 0 rfl J8 (fun _=>rfl)) (AE rfl AD))) fun En P8 h=>⟨.int .i64 En,J4 P8 (aA.nil _) fun H hS=>AJ rfl (AG rfl (AF rfl)),⟨rfl,rfl,fun _=>rfl⟩,?_⟩;try simp only [W]
      refine zI EU ?_;refine zE Ec ?_;refine zQ gC ?_;try simp only [W,EE,Nat.reduceAdd]
      exact Ab DF h ⟨rfl,(hS.At 1 [] (by decide))⟩
     ·refine zB ?_;refine zG Ey ?_;try obtain rfl:=Option.some.inj h
      obtain rfl:=Hv _ rfl;have h:(some (Cr):Option (Int))=some (Cr):=rfl;refine Ac DF ?_;refine zJ Ew ?_;exact Af Dt ⟨_,(Option.some.inj h).symm,rfl,hS⟩
    ·obtain ⟨Cj,BH,rfl,hS⟩:=hq;obtain rfl:=BH.symm;replace h:=Hu;try dsimp only at h
     refine zE Dn ?_;refine zu fun T8 P9=> ?_;refine zQ gC ?_;try simp only [W,Nat.reduceAdd]
     refine zE P9 ?_;refine zy ?_;refine zL BA rfl ?_;try obtain rfl:=Option.some.inj h
     exact Bz _ hS
theorem Mc: ∀n:Nat,∀{a0:List Int} {a1:List Int} {a2:Int} {r:(Int)} (_h:Fo n a0 a1 a2=some r) {F:List It} {H:J} (_hS:aA H (F)) {P:AV→J→Prop} (_hP: ∀H',aA H' (F)→P (.int .i64 r) H'),au C 77 [.fz (a0.map (AV.int .i64)),.fz (a1.map (AV.int .i64)),.int .i64 a2] H P
 |0=>fun h=>by simp [Fo] at h
 |n+1=>P4 (Mc n)
theorem P_: ∀{a0:List Int} {a1:List Int} {a2:Int} {r:(Int)} (_h:Jb a0 a1 a2=some r) {F:List It} {H:J} (_hS:aA H (F)) {P:AV→J→Prop} (_hP: ∀H',aA H' (F)→P (.int .i64 r) H'),au C 77 [.fz (a0.map (AV.int .i64)),.fz (a1.map (AV.int .i64)),.int .i64 a2] H P:=
 Mc 64
theorem Qa {a0:List Int} {a1:Int} {r:(Int×Bool)} (h:Hh a0 a1=some r) {F:List It} {H:J} (hS:aA H (F)) {P:AV→J→Prop} (Bz: ∀H',aA H' (F)→P (.aC [.int .i64 r.1,.bool r.2]) H'):au C 15 [.fz (a0.map (AV.int .i64)),.int .i64 a1] H P:=by
 refine zT gC (res:=[.tmp 4,.tmp 5]) (n:=17) rfl rfl rfl rfl fun K0 BA=> ?_;simp only [W,Nat.reduceSub,Nat.reduceAdd,List.replicate];unfold Hh at h;refine zu fun K1 BC=> ?_;refine zQ gC ?_;try simp only [W,Nat.reduceAdd]
 refine zE BC ?_;refine zu fun K2 yd=> ?_;refine zu fun K3 BL=> ?_;refine zQ gC ?_;try simp only [W,Nat.reduceAdd]
 refine z_ h fun BU CP h=> ?_;refine HD CP hS fun H hS=> ?_;try simp only [W]
 refine zE BL ?_;refine zC ?_;simp only [W];refine zP h (fun hc h=> ?_) (fun hc h=> ?_)
 ·refine zu fun K5 Cb=> ?_;refine zQ gC ?_;try simp only [W,Nat.reduceAdd]
  refine zE Cb ?_;refine zy ?_;refine zF yd ?_;refine zM BA rfl rfl ?_;try obtain rfl:=Option.some.inj h
  exact Bz _ hS
 ·refine zx ?_;refine zE yd ?_;refine zu fun K6 Ce=> ?_;refine zS gC (by kernel_rfl) ?_
  try simp only [W,Nat.reduceAdd]
  refine An (c:=(AV.int .i64)) hS rfl rfl rfl rfl rfl rfl h fun Dh H BF E1 hm h hS=> ?_;try simp only [W]
  refine AQ (b7:=[[.sc]]) (ys:=[.fz (a0.map (AV.int .i64))]) h rfl (by rfl) fun Cy ER h=>⟨.int .i64 Cy,L9 ER (aA.nil _) fun H hS=>AJ rfl (AG rfl (AF rfl)),⟨rfl,rfl,fun _=>rfl⟩,?_⟩
  try simp only [W,EE]
  refine AQ (b7:=[[.sc]]) (ys:=[.fz (a0.map (AV.int .i64)),.fz (BF.map (AV.int .i64)),.int .i64 (IntKind.i64.wrap (Cy+1))]) h rfl (AE rfl (AE (AB hS 0 rfl E1 (fun _=>rfl)) (AE rfl AD))) fun CY JJ h=>⟨.int .i64 CY,P_ JJ (aA.nil _) fun H hS=>AJ rfl (AG rfl (AF rfl)),⟨rfl,rfl,fun _=>rfl⟩,?_⟩;try simp only [W]
  refine zE Ce ?_;refine zy ?_;refine zM BA rfl rfl ?_;try obtain rfl:=Option.some.inj h
  exact Bz _ (hS.At 1 [] (by decide))
theorem Qb {a0:List Int} {r:(Int)} (h:Ik a0=some r) {F:List It} {H:J} (hS:aA H (F)) {P:AV→J→Prop} (Bz: ∀H',aA H' (F)→P (.int .i64 r) H'):au C 79 [.fz (a0.map (AV.int .i64))] H P:=by
 refine zT gC (res:=[.tmp 2]) (n:=17) rfl rfl rfl rfl fun K0 BA=> ?_;simp only [W,Nat.reduceSub,Nat.reduceAdd,List.replicate];unfold Ik at h;refine zu fun K1 BC=> ?_;refine zQ gC ?_;try simp only [W,Nat.reduceAdd]
 refine zE BC ?_;refine zu fun K2 yd=> ?_;refine zQ gC ?_;try simp only [W,Nat.reduceAdd]
 refine zE yd ?_;refine zu fun K3 BL=> ?_;refine zu fun K4 Cp=> ?_;refine zQ gC ?_;try simp only [W,EE,Nat.reduceAdd]
 refine zE Cp ?_;obtain ⟨FO,FP,E6⟩:=Option.bind_eq_some_iff.1 h;refine Ae gC (fun s H=> ∃B9:Int,FO=(B9)∧s=[u,u,u,.int .i64 B9,u,u,u,u,u,u,u,u,u,u,u,u,u]∧aA H (F)) (fun D_ Cw=> ?_) (fun s H hq=> ?_)
 ·refine zw fun Eu CN=> ?_;refine Aa gC FP (fun x s H=>match x with|(BG,B2)=>s=[u,u,u,.int .i64 BG,u,u,.fz (a0.map (AV.int .i64)),.int .i64 (a0.length:Int),.int .i64 B2,u,u,u,u,u,u,u,u]∧aA H (F)) ⟨rfl,hS⟩ (fun x FN s H h E7 hi ES CG=> ?_)
  obtain ⟨BG,B2⟩:=x;try dsimp only at hi
  obtain ⟨rfl,hS⟩:=hi;simp only [Ij] at h;refine zu fun DW Ck=> ?_;refine zQ gC ?_;try simp only [W,EE,Nat.reduceAdd]
  refine zE Ck ?_;refine zu fun C9 BW=> ?_;refine zC ?_;simp only [W];refine zP h (fun hc h=> ?_) (fun hc h=> ?_)
  ·refine zx ?_;refine zE BW ?_;refine zu fun C4 BX=> ?_;refine zw fun Dm B3=> ?_;refine zu fun EA CC=> ?_;refine zQ gC ?_;try simp only [W,EE,Nat.reduceAdd]
   refine zY rfl rfl rfl (fun _=>rfl) h fun CE IH h=> ?_;try simp only [W,EE]
   refine zE CC ?_;refine zQ gC ?_;try simp only [W,EE,Nat.reduceAdd]
   refine zI B3 ?_;refine zE BX ?_;refine zQ gC ?_;try simp only [W,EE,Nat.reduceAdd]
   exact Ab CG h ⟨rfl,hS⟩
  ·refine zB ?_;refine zG BW ?_;try obtain rfl:=Option.some.inj h
   obtain rfl:=E7 _ rfl;have h:(some (BG):Option (Int))=some (BG):=rfl;refine Ac CG ?_;refine zJ CN ?_;exact Af Cw ⟨_,(Option.some.inj h).symm,rfl,hS⟩
 ·obtain ⟨B9,BH,rfl,hS⟩:=hq;obtain rfl:=BH.symm;replace h:=E6;try dsimp only at h
  refine zE BL ?_;refine zu fun DH Cf=> ?_;refine zQ gC ?_;try simp only [W,Nat.reduceAdd]
  refine zE Cf ?_;refine zy ?_;refine zL BA rfl ?_;try obtain rfl:=Option.some.inj h
  exact Bz _ hS
theorem Qc {a0:List Int} {a1:Int} {r:(Int×Bool)} (h:Hi a0 a1=some r) {F:List It} {H:J} (hS:aA H (F)) {P:AV→J→Prop} (Bz: ∀H',aA H' (F)→P (.aC [.int .i64 r.1,.bool r.2]) H'):au C 16 [.fz (a0.map (AV.int .i64)),.int .i64 a1] H P:=by
 refine zT gC (res:=[.tmp 4,.tmp 5]) (n:=22) rfl rfl rfl rfl fun K0 BA=> ?_;simp only [W,Nat.reduceSub,Nat.reduceAdd,List.replicate];unfold Hi at h;refine zu fun K1 BC=> ?_;refine zQ gC ?_;try simp only [W,Nat.reduceAdd]
 refine zE BC ?_;refine zu fun K2 yd=> ?_;refine zu fun K3 BL=> ?_;refine zQ gC ?_;try simp only [W,Nat.reduceAdd]
 refine z_ h fun BU CP h=> ?_;refine Gn CP hS fun H hS=> ?_;try simp only [W]
 refine zE BL ?_;refine zC ?_;simp only [W];refine zP h (fun hc h=> ?_) (fun hc h=> ?_)
 ·refine zu fun K5 Cb=> ?_;refine zQ gC ?_;try simp only [W,Nat.reduceAdd]
  refine zE Cb ?_;refine zy ?_;refine zF yd ?_;refine zM BA rfl rfl ?_;try obtain rfl:=Option.some.inj h
  exact Bz _ hS
 ·refine zx ?_;refine zE yd ?_;refine zu fun K6 Ce=> ?_;refine zQ gC ?_;try simp only [W,Nat.reduceAdd]
  refine z9 (el:=([0]:List Int).map (AV.int .i64)) hS rfl rfl rfl rfl rfl rfl rfl fun Dh H E1 hS=> ?_;try simp only [W,EE]
  refine Ao (l:=([0]:List Int)) (c:=(AV.int .i64)) 0 hS rfl E1 rfl rfl rfl rfl (fun _=>rfl) rfl h fun v10 H BF B6 hm h hS=> ?_;try simp only [W]
  refine AQ (b7:=[[.sc]]) (ys:=[.fz (BF.map (AV.int .i64))]) h rfl (AE (AB hS 0 rfl B6 (fun _=>rfl)) AD) fun DS JK h=>⟨.int .i64 DS,ID JK (aA.nil _) fun H hS=>AJ rfl (AG rfl (AF rfl)),⟨rfl,rfl,fun _=>rfl⟩,?_⟩;try simp only [W]
  refine z_ h fun DB HE h=> ?_;refine Qb HE hS fun H hS=> ?_;try simp only [W,EE]
  refine w_num _ h fun BQ T9 h=> ?_;try simp only [W]
  refine zE Ce ?_;refine zy ?_;refine zM BA rfl rfl ?_;try obtain rfl:=Option.some.inj h
  exact Bz _ (hS.At 1 [] (by decide))
theorem Qd {a0:List Int} {a1:Int} {r:(Int×Bool)} (h:Hj a0 a1=some r) {F:List It} {H:J} (hS:aA H (F)) {P:AV→J→Prop} (Bz: ∀H',aA H' (F)→P (.aC [.int .i64 r.1,.bool r.2]) H'):au C 17 [.fz (a0.map (AV.int .i64)),.int .i64 a1] H P:=by
 refine zT gC (res:=[.tmp 4,.tmp 5]) (n:=31) rfl rfl rfl rfl fun K0 BA=> ?_;simp only [W,Nat.reduceSub,Nat.reduceAdd,List.replicate];unfold Hj at h;refine zu fun K1 BC=> ?_;refine zQ gC ?_;try simp only [W,Nat.reduceAdd]
 refine zE BC ?_;refine zu fun K2 yd=> ?_;refine zu fun K3 BL=> ?_;refine zQ gC ?_;try simp only [W,Nat.reduceAdd]
 refine z_ h fun BU CP h=> ?_;refine HD CP hS fun H hS=> ?_;try simp only [W]
 refine zE BL ?_;refine zC ?_;simp only [W];refine zP h (fun hc h=> ?_) (fun hc h=> ?_)
 ·refine zu fun K5 Cb=> ?_;refine zQ gC ?_;try simp only [W,Nat.reduceAdd]
  refine zE Cb ?_;refine zy ?_;refine zF yd ?_;refine zM BA rfl rfl ?_;try obtain rfl:=Option.some.inj h
  exact Bz _ hS
 ·refine zx ?_;refine zE yd ?_;refine zu fun K6 Ce=> ?_;refine zQ gC ?_;try simp only [W,Nat.reduceAdd]
  refine z_ h fun BK JV h=> ?_;refine L9 JV hS fun H hS=> ?_;try simp only [W,EE]
  refine w_num _ h fun B_ T_ h=> ?_;try simp only [W]
  refine zE Ce ?_;refine zu fun K9 Cd=> ?_;refine zu fun D_ Cw=> ?_;refine zQ gC ?_;try simp only [W,EE,Nat.reduceAdd]
  refine zE Cw ?_;obtain ⟨FN,J5,J6⟩:=Option.bind_eq_some_iff.1 h;refine Ae gC (fun s H=> ∃BE:Int,FN=(BE)∧s=[u,u,u,u,u,u,.int .i64 BE,u,u,u,u,u,u,u,u,u,u,u,u,u,u,u,u,u,u,u,u,u,u,u,u]∧aA H (F)) (fun DW Ck=> ?_) (fun s H hq=> ?_)
  ·refine zw fun C9 BW=> ?_;refine Aa gC J5 (fun x s H=>match x with|(BN,BB)=>s=[u,u,u,u,u,u,.int .i64 BN,u,u,u,u,u,u,u,u,u,u,u,u,u,.fz (a0.map (AV.int .i64)),.int .i64 (a0.length:Int),.int .i64 BB,u,u,u,u,u,u,u,u]∧aA H (F)) ⟨rfl,hS⟩ (fun x PU s H h J7 hi C4 BX=> ?_)
   obtain ⟨BN,BB⟩:=x;try dsimp only at hi
   obtain ⟨rfl,hS⟩:=hi;simp only [Jc] at h;refine zu fun Ft C_=> ?_;refine zQ gC ?_;try simp only [W,EE,Nat.reduceAdd]
   refine zE C_ ?_;refine zu fun Eb Cq=> ?_;refine zC ?_;simp only [W];refine zP h (fun hc h=> ?_) (fun hc h=> ?_)
   ·refine zx ?_;refine zE Cq ?_;refine zu fun DH Cf=> ?_;refine zw fun DZ Cg=> ?_;refine zu fun EZ C5=> ?_;refine zQ gC ?_;try simp only [W,EE,Nat.reduceAdd]
    refine zY rfl rfl rfl (fun _=>rfl) h fun D5 LC h=> ?_;try simp only [W,EE]
    refine zE C5 ?_;refine zQ gC ?_;try simp only [W,Nat.reduceAdd]
    refine z_ h fun Cu EB h=> ?_;refine Iy EB hS fun H hS=> ?_;try simp only [W]
    refine zI Cg ?_;refine zE Cf ?_;refine zQ gC ?_;try simp only [W,EE,Nat.reduceAdd]
    exact Ab BX h ⟨rfl,hS⟩
   ·refine zB ?_;refine zG Cq ?_;try obtain rfl:=Option.some.inj h
    obtain rfl:=J7 _ rfl;have h:(some (BN):Option (Int))=some (BN):=rfl;refine Ac BX ?_;refine zJ BW ?_;exact Af Ck ⟨_,(Option.some.inj h).symm,rfl,hS⟩
  ·obtain ⟨BE,BH,rfl,hS⟩:=hq;obtain rfl:=BH.symm;replace h:=J6;try dsimp only at h
   refine zE Cd ?_;refine zu fun Gi Dn=> ?_;refine zQ gC ?_;try simp only [W,Nat.reduceAdd]
   refine zE Dn ?_;refine zy ?_;refine zM BA rfl rfl ?_;try obtain rfl:=Option.some.inj h
   exact Bz _ hS
theorem Md {a0:List Int} {a1:List Int} {r:(Bool)} (h:Gb a0 a1=some r) {F:List It} {H:J} (hS:aA H (F)) {P:AV→J→Prop} (Bz: ∀H',aA H' (F)→P (.bool r) H'):au C 18 [.fz (a0.map (AV.int .i64)),.fz (a1.map (AV.int .i64))] H P:=by
 refine zT gC (res:=[.tmp 4]) (n:=26) rfl rfl rfl rfl fun K0 BA=> ?_;simp only [W,Nat.reduceSub,Nat.reduceAdd,List.replicate];unfold Gb at h;refine zu fun K1 BC=> ?_;refine zQ gC ?_;try simp only [W,Nat.reduceAdd]
 refine zE BC ?_;refine zu fun K2 yd=> ?_;refine zu fun K3 BL=> ?_;refine zQ gC ?_;try simp only [W,EE,Nat.reduceAdd]
 refine zE BL ?_;refine zC ?_;simp only [W];refine zP h (fun hc h=> ?_) (fun hc h=> ?_)
 ·refine zu fun K4 Cp=> ?_;refine zQ gC ?_;try simp only [W,Nat.reduceAdd]
  refine zE Cp ?_;refine zy ?_;refine zF yd ?_;refine zL BA rfl ?_;try obtain rfl:=Option.some.inj h
  exact Bz _ hS
 ·refine zx ?_;refine zE yd ?_;refine zu fun K5 Cb=> ?_;refine zu fun K6 Ce=> ?_;refine zQ gC ?_;try simp only [W,EE,Nat.reduceAdd]
  refine zE Ce ?_;obtain ⟨FO,FP,E6⟩:=Option.bind_eq_some_iff.1 h;refine Ae gC (fun s H=>FO=LR.next ()∧s=[u,u,u,u,u,u,u,u,u,u,u,u,u,u,u,u,u,u,u,u,u,u,u,u,u,u]∧aA H (F)) (fun D_ Cw=> ?_) (fun s H hq=> ?_)
  ·refine zw fun Eu CN=> ?_;refine Aa gC FP (fun x s H=>s=[.fz (a0.map (AV.int .i64)),.fz (a1.map (AV.int .i64)),u,u,u,u,u,u,u,u,u,u,.int .i64 (a0.length:Int),.int .i64 x,u,u,u,u,u,u,u,u,u,u,u,u]∧aA H (F)) ⟨rfl,hS⟩ (fun B9 FN s H h E7 hi ES CG=> ?_)
   skip
   try dsimp only at hi
   obtain ⟨rfl,hS⟩:=hi;simp only [Hk] at h;refine zu fun DW Ck=> ?_;refine zQ gC ?_;try simp only [W,EE,Nat.reduceAdd]
   refine zE Ck ?_;refine zu fun C9 BW=> ?_;refine zC ?_;simp only [W];refine zP h (fun hc h=> ?_) (fun hc h=> ?_)
   ·refine zx ?_;refine zE BW ?_;refine zu fun C4 BX=> ?_;refine zw fun Dm B3=> ?_;refine zu fun EA CC=> ?_;refine zQ gC ?_;try simp only [W,Nat.reduceAdd]
    refine zE CC ?_;refine zu fun HA DY=> ?_;refine zS gC (by kernel_rfl) ?_
    try simp only [W,EE,Nat.reduceAdd]
    refine zY rfl rfl rfl (fun _=>rfl) h fun D3 L_ h=> ?_;try simp only [W,EE]
    refine zY rfl rfl rfl (fun _=>rfl) h fun Fp Me h=> ?_;try simp only [W,EE]
    refine zE DY ?_;refine zC ?_;simp only [W];refine zP h (fun hc h=> ?_) (fun hc h=> ?_)
    ·refine zu fun DH Cf=> ?_;refine zQ gC ?_;try simp only [W,Nat.reduceAdd]
     refine zE Cf ?_;refine zy ?_;refine zK B3 ?_;refine zF BX ?_;try obtain rfl:=Option.some.inj h
     obtain rfl:=E7 _ rfl;have h:(some (LR.done false):Option (LR Unit (Bool)))=some (LR.done false):=rfl;refine Ad CG ?_;refine zK CN ?_;try obtain rfl:=Option.some.inj h
     obtain rfl:=Option.some.inj E6;have h:(some false:Option (Bool))=some false:=rfl;refine Ag Cw ?_;refine zF Cb ?_;refine zL BA rfl ?_;try obtain rfl:=Option.some.inj h
     exact Bz _ hS
    ·refine zx ?_;refine zI B3 ?_;refine zE BX ?_;refine zQ gC ?_;try simp only [W,EE,Nat.reduceAdd]
     exact Ab CG h ⟨rfl,hS⟩
   ·refine zB ?_;refine zG BW ?_;try obtain rfl:=Option.some.inj h
    obtain rfl:=E7 _ rfl;have h:(some (LR.next ()):Option (LR Unit (Bool)))=some (LR.next ()):=rfl
    refine Ac CG ?_;refine zJ CN ?_;exact Af Cw ⟨(Option.some.inj h).symm,rfl,hS⟩
  ·obtain ⟨rfl,rfl,hS⟩:=hq;replace h:=E6;try dsimp only at h
   refine zE Cb ?_;refine zu fun Gi Dn=> ?_;refine zQ gC ?_;try simp only [W,Nat.reduceAdd]
   refine zE Dn ?_;refine zy ?_;refine zL BA rfl ?_;try obtain rfl:=Option.some.inj h
   exact Bz _ hS
end Go.DN
