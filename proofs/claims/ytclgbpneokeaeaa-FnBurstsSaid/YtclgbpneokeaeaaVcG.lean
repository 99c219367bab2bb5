import Derived.Test.YtclgbpneokeaeaaVcF
import Derived.Test.YtclgbpneokeaeaaProg
import Derived.Test.YtclgbpneokeaeaaVaG
import Derived.KernelRfl
open Go Go.VS
set_option maxRecDepth 8000
set_option maxHeartbeats 4000000
namespace Go.EI
def KO (x:Ds):AV:= .agg [.fz (x.Code.map (AV.int .u8)),.int .i64 x.At,.int .u64 x.DA]
def E:aL:=fun t=>match t with
 |3=>some {sz:=1,agg:=false,zero:=[AV.int IntKind.i64 0],bytes:=8,aq:=UD.it IntKind.i64,j9:=true}
 |4=>some {sz:=1,agg:=false,zero:=[AV.bool false],bytes:=1,aq:=UD.bl,j9:=true}
 |5=>some {sz:=1,agg:=false,zero:=[AV.int IntKind.u8 0],bytes:=1,aq:=UD.it IntKind.u8,j9:=true}
 |9=>some {sz:=1,agg:=false,zero:=[AV.str []],bytes:=16,aq:=UD.str,j9:=true}
 |22=>some {sz:=1,agg:=false,zero:=[AV.nil],bytes:=24,aq:=UD.sl 5,j9:=true}
 |23=>some {sz:=1,agg:=false,zero:=[AV.nil],bytes:=24,aq:=UD.sl 3,j9:=true}
 |78=>some {sz:=1,agg:=false,zero:=[AV.dq],bytes:=8,aq:=UD.pt,j9:=true}
 |79=>some {sz:=1,agg:=false,zero:=[AV.int IntKind.u64 0],bytes:=8,aq:=UD.it IntKind.u64,j9:=true}
 |81=>some {sz:=3,agg:=true,zero:=[AV.nil,AV.int IntKind.i64 0,AV.int IntKind.u64 0],bytes:=40,aq:=UD.st [(0,22),(1,3),(2,79)],j9:=true}
 |84=>some {sz:=1,agg:=false,zero:=[AV.undef],bytes:=8,aq:=UD.ot,j9:=true}
 |_=>none
def gF:FuncId→kc:=fun f=>match f with
 |4=>{cR:=[[.sc]],loops:=[(0,{keep:=[1,5,6,17,19,21,22]}),(2,{keep:=[1,5,6,17,19,21,22,23,24]})],blocks:=[(3,[1,5,6,17,19,21,22,23,24]),(2,[1,5,6,17,19,21,22,23]),(0,[1])],gE:=[(6,[],some [1,5,6,7,8,76]),(10,[],some [1,5,6,7,90]),(20,[],some [1,5,6,17,19,152]),(32,[],some [1,5,6,17,19,21,22,191])],wN:=[(77,[1]),(93,[1]),(110,[1,5,6,7,13,14]),(179,[1,5,6,17,19,21,22,23,24])]}
 |18=>{cR:=[[.sc]],loops:=[(0,{keep:=[0,1,12,13]})],blocks:=[(0,[])]}
 |20=>{cR:=[[.sc],[.sc]]}
 |21=>{cR:=[[.sc],[.sc]]}
 |22=>{cR:=[[.sc],[.sc]],loops:=[(0,{keep:=[0,1,6,7,22,23]})],blocks:=[(0,[7])],nv:=[(8,[14],[])]}
 |23=>{cR:=[[.sc],[.sc]]}
 |24=>{cR:=[[.sc]],loops:=[(0,{keep:=[3,6,7,8]})],blocks:=[(0,[3])]}
 |25=>{cR:=[[.sc],[.sc]],loops:=[(0,{keep:=[1,8,18,19]})],blocks:=[(0,[8])]}
 |26=>{cR:=[[.sl [.sc]],[.sc]],loops:=[(0,{keep:=[1,2,10,24,25]})],blocks:=[(0,[10])],gE:=[(1,[],some [1,2,3,22])]}
 |27=>{cR:=[[.sc]],loops:=[(0,{keep:=[1,7,8,9]})],blocks:=[(0,[])]}
 |28=>{cR:=[[.sc],[.sc]]}
 |29=>{cR:=[[.sc],[.sc]],loops:=[(0,{keep:=[0,1,6,7,22,23]})],blocks:=[(0,[7])],nv:=[(8,[14],[])]}
 |30=>{cR:=[[.sc],[.sc],[.sc]]}
 |31=>{cR:=[[.sc],[.sc]],loops:=[(0,{keep:=[1,2,8,9]})],blocks:=[(0,[8])],gE:=[(1,[],some [0,1,2,28])]}
 |32=>{cR:=[[.sc],[.sc],[.sc],[.sc]]}
 |33=>{cR:=[[.sl [.sc]],[.sc]],loops:=[(0,{keep:=[1,2,3,10,11]}),(2,{keep:=[1,2,3,10,11,12,13]})],blocks:=[(1,[1,2,3,10,11]),(3,[1,2,3,10,11,12,13]),(2,[1,2,3,10,11,12]),(0,[10])],gE:=[(1,[],some [1,2,3,31]),(11,[],some [1,2,3,10,11,12,13])],wN:=[(53,[1,2,3,10,11])]}
 |60=>{cR:=[[.sc]],wN:=[(11,[1,5])]}
 |61=>{cR:=[[.sc]]}
 |62=>{cR:=[[.sc]]}
 |65=>{cR:=[[.sc]]}
 |81=>{cR:=[[.sc],[.sc]],loops:=[(0,{keep:=[0,4,6,23,24]})],blocks:=[(0,[4,6])],fz:=[(1,[(2,[([9],[.sl [.sc]])])])],wN:=[(16,[0,4,5])]}
 |82=>{cR:=[[.sc]]}
 |83=>{cR:=[[.sc]],loops:=[(0,{keep:=[0,1,5,11,12]})],blocks:=[(0,[5])]}
 |84=>{cR:=[[.sc]]}
 |85=>{cR:=[[.sc]]}
 |86=>{cR:=[[.sc]]}
 |87=>{cR:=[[.sc]]}
 |88=>{cR:=[]}
 |89=>{cR:=[[.sl [.sc]]]}
 |90=>{cR:=[[.sc]]}
 |91=>{cR:=[[.sc]]}
 |124=>{cR:=[[.sc]],wN:=[(13,[0,3])]}
 |_=>{}
noncomputable def code:FuncId→Option Func:=fun f=>match f with
 |4=>some Go.Proofs.Try.f4
 |18=>some Go.Proofs.Try.f18
 |20=>some Go.Proofs.Try.f20
 |21=>some Go.Proofs.Try.f21
 |22=>some Go.Proofs.Try.f22
 |23=>some Go.Proofs.Try.f23
 |24=>some Go.Proofs.Try.f24
 |25=>some Go.Proofs.Try.f25
 |26=>some Go.Proofs.Try.f26
 |27=>some Go.Proofs.Try.f27
 |28=>some Go.Proofs.Try.f28
 |29=>some Go.Proofs.Try.f29
 |30=>some Go.Proofs.Try.f30
 |31=>some Go.Proofs.Try.f31
 |32=>some Go.Proofs.Try.f32
 |33=>some Go.Proofs.Try.f33
 |60=>some Go.Proofs.Try.f60
 |61=>some Go.Proofs.Try.f61
 |62=>some Go.Proofs.Try.f62
 |65=>some Go.Proofs.Try.f65
 |81=>some Go.Proofs.Try.f81
 |82=>some Go.Proofs.Try.f82
 |83=>some Go.Proofs.Try.f83
 |84=>some Go.Proofs.Try.f84
 |85=>some Go.Proofs.Try.f85
 |86=>some Go.Proofs.Try.f86
 |87=>some Go.Proofs.Try.f87
 |90=>some Go.Proofs.Try.f90
 |91=>some Go.Proofs.Try.f91
 |124=>some Go.Proofs.Try.f124
 |_=>none
def HZ:List (FuncId×Nat×Nat):=[]
def wK:List (FuncId×FuncId×Nat):=[]
def nk:List FuncId:=[]
def lz:List FuncId:=[88]
def kids:List FuncId:=[89]
def Fq:nn:=⟨HZ,wK,nk,lz,kids,[]⟩
noncomputable def C:aH:=⟨E,gF,code,np Fq⟩
theorem gC:Go.VS.Good C:=Dh (I:=Fq) rfl
theorem Jo:C.E=E:=rfl
theorem E3:E 3=some {sz:=1,agg:=false,zero:=[AV.int IntKind.i64 0],bytes:=8,aq:=UD.it IntKind.i64,j9:=true}:=rfl
theorem E4:E 4=some {sz:=1,agg:=false,zero:=[AV.bool false],bytes:=1,aq:=UD.bl,j9:=true}:=rfl
theorem E5:E 5=some {sz:=1,agg:=false,zero:=[AV.int IntKind.u8 0],bytes:=1,aq:=UD.it IntKind.u8,j9:=true}:=rfl
theorem E9:E 9=some {sz:=1,agg:=false,zero:=[AV.str []],bytes:=16,aq:=UD.str,j9:=true}:=rfl
theorem Jp:E 22=some {sz:=1,agg:=false,zero:=[AV.nil],bytes:=24,aq:=UD.sl 5,j9:=true}:=rfl
theorem Jq:E 23=some {sz:=1,agg:=false,zero:=[AV.nil],bytes:=24,aq:=UD.sl 3,j9:=true}:=rfl
theorem Jr:E 78=some {sz:=1,agg:=false,zero:=[AV.dq],bytes:=8,aq:=UD.pt,j9:=true}:=rfl
theorem Js:E 79=some {sz:=1,agg:=false,zero:=[AV.int IntKind.u64 0],bytes:=8,aq:=UD.it IntKind.u64,j9:=true}:=rfl
theorem Jt:E 81=some {sz:=3,agg:=true,zero:=[AV.nil,AV.int IntKind.i64 0,AV.int IntKind.u64 0],bytes:=40,aq:=UD.st [(0,22),(1,3),(2,79)],j9:=true}:=rfl
theorem Ju:E 84=some {sz:=1,agg:=false,zero:=[AV.undef],bytes:=8,aq:=UD.ot,j9:=true}:=rfl
theorem EE:type_of% (And.intro @Jo<|And.intro @E3<|And.intro @E4<|And.intro @E5<|And.intro @E9<|And.intro @Jp<|And.intro @Jq<|And.intro @Jr<|And.intro @Js<|And.intro @Jt @Ju):=And.intro @Jo<|And.intro @E3<|And.intro @E4<|And.intro @E5<|And.intro @E9<|And.intro @Jp<|And.intro @Jq<|And.intro @Jr<|And.intro @Js<|And.intro @Jt @Ju
theorem Jv (x:Ds):KO x= .agg [.fz (x.Code.map (AV.int .u8)),.int .i64 x.At,.int .u64 x.DA]:=rfl
theorem EN:type_of% (And.intro @Jv<|And.intro @CO @uz):=And.intro @Jv<|And.intro @CO @uz
theorem Jw {a0:Ds} {i0:Nat} {w0:Nat} {r:(Int×Ds)} (h:FC a0=some r) {F:List It} {H:J} (hS:aE H (⟨.ptr i0 w0 0 0,3,[.agg [.fz (a0.Code.map (AV.int .u8)),.int .i64 a0.At,.int .u64 a0.DA]]⟩::F)) {P:AV→J→Prop} (hP: ∀H',aE H' (⟨.ptr i0 w0 0 0,3,[.agg [.fz (r.2.Code.map (AV.int .u8)),.int .i64 r.2.At,.int .u64 r.2.DA]]⟩::F)→P (.int .i64 r.1) H'):au C 124 [.ptr i0 w0 0 0] H P:=by
 refine B0 gC (res:=[.tmp 2]) (n:=62) rfl rfl rfl rfl fun K0 Dm=> ?_;simp only [W,Nat.reduceSub,Nat.reduceAdd,List.replicate];unfold FC at h;refine BE fun K1 Dp=> ?_;refine BX gC ?_;try simp only [W,Nat.reduceAdd]
 refine BL Dp ?_;refine BE fun K2 zu=> ?_;refine BX gC ?_;try simp only [W,Nat.reduceAdd]
 refine BL zu ?_;refine BE fun K3 DE=> ?_;refine BE fun K4 Ec=> ?_;refine BZ gC (by kernel_rfl) ?_
 try simp only [W,EE,Nat.reduceAdd,Nat.reduceBEq,hS.var 0 rfl]
 refine BL Ec ?_;obtain ⟨KP,h,g7⟩:=Option.bind_eq_some_iff.1 h;refine Ck gC (fun s H=> ∃Dt:Int,KP=(Dt)∧s=(.ptr i0 w0 0 0::u::u:: .int .i64 Dt::u::u::u::u::u::u::u::u::u::u::u::u::u::u::u::u::u::u::u::u::u::u::u::u::u::u::u::u::u::u::u::u::u::u::u::u::u::u::u::u::u::u::u::u::u::u::u::u::u::u::u::u::u::u::u::u::u::u::[])∧aE H (⟨.ptr i0 w0 0 0,3,[.agg [.fz (a0.Code.map (AV.int .u8)),.int .i64 a0.At,.int .u64 a0.DA]]⟩::F)) (fun K8 DG=> ?_) (fun s H hq=> ?_)
 ·refine BE fun K9 Ev=> ?_;refine BJ ?_;simp only [W];refine BW h (fun hc h=> ?_) (fun hc h=> ?_)
  ·refine BZ gC (by kernel_rfl) ?_
   try simp only [W,EE,Nat.reduceAdd,Nat.reduceBEq,hS.var 0 rfl]
   refine B_ rfl rfl rfl (fun _=>rfl) h fun DK E6 h=> ?_;try simp only [W,EE]
   refine BL Ev ?_;refine CT (s' :=(.ptr i0 w0 0 0::u::u:: .int .i64 (IntKind.i64.wrap DK)::u::u::u::u::u::u::u::u::u::u::u::u::u::u::u::u::u::u::u::u::u::u::u::u::u::u::u::u::u::u::u::u::u::u::u::u::u::u::u::u::u::u::u::u::u::u::u::u::u::u::u::u::u::u::u::u::u::u::[])) rfl ?_
   exact Cl DG ⟨_,(Option.some.inj h).symm,rfl,hS⟩
  ·refine BG ?_;refine BL Ev ?_;refine CT (s' :=(.ptr i0 w0 0 0::u::u:: .int .i64 0::u::u::u::u::u::u::u::u::u::u::u::u::u::u::u::u::u::u::u::u::u::u::u::u::u::u::u::u::u::u::u::u::u::u::u::u::u::u::u::u::u::u::u::u::u::u::u::u::u::u::u::u::u::u::u::u::u::u::[])) rfl ?_
   exact Cl DG ⟨_,(Option.some.inj h).symm,rfl,hS⟩
 ·obtain ⟨Dt,Dr,rfl,hS⟩:=hq;obtain rfl:=Dr.symm;replace h:=g7;try dsimp only at h
  refine BL DE ?_;refine BE fun GA Ew=> ?_;refine BX gC ?_;try simp only [W,EE,Nat.reduceAdd,Nat.reduceBEq,hS.var 0 rfl]
  refine B7 (a:= .int .i64 (IntKind.i64.wrap (a0.At+1))) (y' := .agg [.fz (a0.Code.map (AV.int .u8)),.int .i64 (IntKind.i64.wrap (a0.At+1)),.int .u64 a0.DA]) 0 hS rfl rfl rfl rfl rfl rfl rfl rfl fun H hS=> ?_
  try simp only [W]
  refine BL Ew ?_;refine BE fun EQ DL=> ?_;refine BX gC ?_;try simp only [W,EE,Nat.reduceAdd,Nat.reduceBEq,hS.var 0 rfl]
  refine B7 (a:= .int .u64 (IntKind.u64.wrap ((IntKind.u64.wrap ((IntKind.u64.wrap (a0.DA*6364136223846793005))+(IntKind.u64.wrap Dt)))+1442695040888963407))) (y' := .agg [.fz (a0.Code.map (AV.int .u8)),.int .i64 (IntKind.i64.wrap (a0.At+1)),.int .u64 (IntKind.u64.wrap ((IntKind.u64.wrap ((IntKind.u64.wrap (a0.DA*6364136223846793005))+(IntKind.u64.wrap Dt)))+1442695040888963407))]) 0 hS rfl rfl rfl rfl rfl rfl rfl rfl fun H hS=> ?_
  try simp only [W]
  refine BL DL ?_;refine BE fun E7 DS=> ?_;refine BE fun Hc EL=> ?_;refine BZ gC (by kernel_rfl) ?_
  try simp only [W,EE,Nat.reduceAdd,Nat.reduceBEq,hS.var 0 rfl]
  refine BL EL ?_;refine BJ ?_;simp only [W];refine BW h (fun hc h=> ?_) (fun hc h=> ?_)
  ·refine BE fun H4 ER=> ?_;refine BX gC ?_;try simp only [W,Nat.reduceAdd]
   refine BL ER ?_;refine BH ?_;refine BM DS ?_;refine BS Dm rfl ?_;try obtain rfl:=Option.some.inj h
   exact hP _ hS
  ·refine BG ?_;refine BL DS ?_;refine BE fun Hd EM=> ?_;refine BX gC ?_;try simp only [W,EE,Nat.reduceAdd,Nat.reduceBEq,hS.var 0 rfl]
   rw [Co _ _ _ rfl,Option.map_some,sT];try simp only [W,EE]
   refine BL EM ?_;refine BH ?_;refine BS Dm rfl ?_;try obtain rfl:=Option.some.inj h
   exact hP _ hS
theorem E8 {a0:Ds} {a1:Int} {i0:Nat} {w0:Nat} {r:(Int×Ds)} (h:Eh a0 a1=some r) {F:List It} {H:J} (hS:aE H (⟨.ptr i0 w0 0 0,3,[.agg [.fz (a0.Code.map (AV.int .u8)),.int .i64 a0.At,.int .u64 a0.DA]]⟩::F)) {P:AV→J→Prop} (hP: ∀H',aE H' (⟨.ptr i0 w0 0 0,3,[.agg [.fz (r.2.Code.map (AV.int .u8)),.int .i64 r.2.At,.int .u64 r.2.DA]]⟩::F)→P (.int .i64 r.1) H'):au C 60 [.ptr i0 w0 0 0,.int .i64 a1] H P:=by
 refine B0 gC (res:=[.tmp 4]) (n:=20) rfl rfl rfl rfl fun K0 Dm=> ?_;simp only [W,Nat.reduceSub,Nat.reduceAdd,List.replicate];unfold Eh at h;refine BE fun K1 Dp=> ?_;refine BX gC ?_;try simp only [W,Nat.reduceAdd]
 refine BL Dp ?_;refine BE fun K2 zu=> ?_;refine BE fun K3 DE=> ?_;refine BX gC ?_;try simp only [W,EE,Nat.reduceAdd]
 refine BL DE ?_;refine BJ ?_;simp only [W];refine BW h (fun hc h=> ?_) (fun hc h=> ?_)
 ·refine BE fun K4 Ec=> ?_;refine BX gC ?_;try simp only [W,Nat.reduceAdd]
  refine BL Ec ?_;refine BH ?_;refine BM zu ?_;refine BS Dm rfl ?_;try obtain rfl:=Option.some.inj h
  exact hP _ hS
 ·refine BG ?_;refine BL zu ?_;refine BE fun K5 DM=> ?_;refine BX gC ?_;try simp only [W,Nat.reduceAdd]
  refine Cf h fun DH Ey h=> ?_;obtain ⟨Dn,Dq⟩:=DH;try dsimp only at h
  refine Jw Ey hS fun H hS=> ?_;try simp only [W]
  refine BL DM ?_;refine BE fun K9 Ev=> ?_;refine BE fun FL Ed=> ?_;refine BX gC ?_;try simp only [W,EE,Nat.reduceAdd]
  refine BL Ed ?_;obtain ⟨H7,h,g16⟩:=Option.bind_eq_some_iff.1 h;refine Ck gC (fun s H=> ∃DN:Int,∃D2:List Int,∃DV:Int,∃Dv:Int,H7=(DN,D2,DV,Dv)∧s=[u,.int .i64 a1,u,u,u,.int .i64 DN,u,u,u,u,u,u,u,u,u,u,u,u,u,u]∧aE H (⟨.ptr i0 w0 0 0,3,[.agg [.fz (D2.map (AV.int .u8)),.int .i64 DV,.int .u64 Dv]]⟩::F)) (fun FM DX=> ?_) (fun s H hq=> ?_)
  ·refine BE fun He EG=> ?_;refine BJ ?_;simp only [W];refine BW h (fun hc h=> ?_) (fun hc h=> ?_)
   ·refine BX gC ?_;try simp only [W,EE,Nat.reduceAdd]
    refine Cf h fun KQ KR h=> ?_;obtain ⟨I6,Fe⟩:=KQ;try dsimp only at h
    refine Jw KR hS fun H hS=> ?_;try simp only [W,EE]
    refine BL EG ?_;refine BK ?_;exact Cl DX ⟨_,_,_,_,(Option.some.inj h).symm,rfl,hS⟩
   ·refine BG ?_;refine BL EG ?_;refine BK ?_;exact Cl DX ⟨_,_,_,_,(Option.some.inj h).symm,rfl,hS⟩
  ·obtain ⟨DN,D2,DV,Dv,rfl,rfl,hS⟩:=hq;replace h:=g16;try dsimp only at h
   refine BL Ev ?_;refine BE fun H8 E_=> ?_;refine BX gC ?_;try simp only [W,EE,Nat.reduceAdd]
   refine w_num _ h fun I7 OR h=> ?_;try simp only [W]
   refine BL E_ ?_;refine BH ?_;refine BS Dm rfl ?_;try obtain rfl:=Option.some.inj h
   exact hP _ hS
theorem KS {a0:Ds} {a1:List Int} {i0:Nat} {w0:Nat} {r:(Int×Ds)} (h:FD a0 a1=some r) {F:List It} {H:J} (hS:aE H (⟨.ptr i0 w0 0 0,3,[.agg [.fz (a0.Code.map (AV.int .u8)),.int .i64 a0.At,.int .u64 a0.DA]]⟩::F)) {P:AV→J→Prop} (hP: ∀H',aE H' (⟨.ptr i0 w0 0 0,3,[.agg [.fz (r.2.Code.map (AV.int .u8)),.int .i64 r.2.At,.int .u64 r.2.DA]]⟩::F)→P (.int .i64 r.1) H'):au C 91 [.ptr i0 w0 0 0,.fz (a1.map (AV.int .i64))] H P:=by
 refine B0 gC (res:=[.tmp 4]) (n:=12) rfl rfl rfl rfl fun K0 Dm=> ?_;simp only [W,Nat.reduceSub,Nat.reduceAdd,List.replicate];unfold FD at h;refine BE fun K1 Dp=> ?_;refine BX gC ?_;try simp only [W,Nat.reduceAdd]
 refine BL Dp ?_;refine BE fun K2 zu=> ?_;refine BX gC ?_;try simp only [W,EE,Nat.reduceAdd]
 refine Cf h fun b3 kA h=> ?_;obtain ⟨DB,Ei⟩:=b3;try dsimp only at h
 refine E8 kA hS fun H hS=> ?_;try simp only [W,EE]
 refine B_ rfl rfl rfl (fun _=>rfl) h fun DH Ey h=> ?_;try simp only [W,EE]
 refine BL zu ?_;refine BH ?_;refine BS Dm rfl ?_;try obtain rfl:=Option.some.inj h
 exact hP _ hS
theorem KT {a0:Ds} {a1:Int} {i0:Nat} {w0:Nat} {r:(Bool×Ds)} (h:FE a0 a1=some r) {F:List It} {H:J} (hS:aE H (⟨.ptr i0 w0 0 0,3,[.agg [.fz (a0.Code.map (AV.int .u8)),.int .i64 a0.At,.int .u64 a0.DA]]⟩::F)) {P:AV→J→Prop} (hP: ∀H',aE H' (⟨.ptr i0 w0 0 0,3,[.agg [.fz (r.2.Code.map (AV.int .u8)),.int .i64 r.2.At,.int .u64 r.2.DA]]⟩::F)→P (.bool r.1) H'):au C 62 [.ptr i0 w0 0 0,.int .i64 a1] H P:=by
 refine B0 gC (res:=[.tmp 4]) (n:=9) rfl rfl rfl rfl fun K0 Dm=> ?_;simp only [W,Nat.reduceSub,Nat.reduceAdd,List.replicate];unfold FE at h;refine BE fun K1 Dp=> ?_;refine BX gC ?_;try simp only [W,Nat.reduceAdd]
 refine BL Dp ?_;refine BE fun K2 zu=> ?_;refine BX gC ?_;try simp only [W,Nat.reduceAdd]
 refine Cf h fun b3 kA h=> ?_;obtain ⟨DB,Ei⟩:=b3;try dsimp only at h
 refine E8 kA hS fun H hS=> ?_;try simp only [W,EE]
 refine BL zu ?_;refine BH ?_;refine BS Dm rfl ?_;try obtain rfl:=Option.some.inj h
 exact hP _ hS
theorem KU {a0:Int} {a1:Int} {r:(Int)} (h:F8 a0 a1=some r) {F:List It} {H:J} (hS:aE H (F)) {P:AV→J→Prop} (hP: ∀H',aE H' (F)→P (.int .i64 r) H'):au C 61 [.int .i64 a0,.int .i64 a1] H P:=by
 refine B0 gC (res:=[.tmp 4]) (n:=10) rfl rfl rfl rfl fun K0 Dm=> ?_;simp only [W,Nat.reduceSub,Nat.reduceAdd,List.replicate];unfold F8 at h;refine BE fun K1 Dp=> ?_;refine BX gC ?_;try simp only [W,Nat.reduceAdd]
 refine BL Dp ?_;refine BE fun K2 zu=> ?_;refine BE fun K3 DE=> ?_;refine BX gC ?_;try simp only [W,EE,Nat.reduceAdd]
 refine BL DE ?_;refine BJ ?_;simp only [W];refine BW h (fun hc h=> ?_) (fun hc h=> ?_)
 ·refine BE fun K4 Ec=> ?_;refine BX gC ?_;try simp only [W,Nat.reduceAdd]
  refine BL Ec ?_;refine BH ?_;refine BM zu ?_;refine BS Dm rfl ?_;try obtain rfl:=Option.some.inj h
  exact hP _ hS
 ·refine BG ?_;refine BL zu ?_;refine BE fun K5 DM=> ?_;refine BX gC ?_;try simp only [W,Nat.reduceAdd]
  refine BL DM ?_;refine BH ?_;refine BS Dm rfl ?_;try obtain rfl:=Option.some.inj h
  exact hP _ hS
theorem H9 {a0:Ds} {i0:Nat} {w0:Nat} {r:(List UInt8×Int×Ds)} (h:Fh a0=some r) {F:List It} {H:J} (hS:aE H (⟨.ptr i0 w0 0 0,3,[.agg [.fz (a0.Code.map (AV.int .u8)),.int .i64 a0.At,.int .u64 a0.DA]]⟩::F)) {P:AV→J→Prop} (hP: ∀H',aE H' (⟨.ptr i0 w0 0 0,3,[.agg [.fz (r.2.2.Code.map (AV.int .u8)),.int .i64 r.2.2.At,.int .u64 r.2.2.DA]]⟩::F)→P (.ay [.str r.1,.int .i64 r.2.1]) H'):au C 81 [.ptr i0 w0 0 0] H P:=by
 refine B0 gC (res:=[.tmp 2,.tmp 3]) (n:=38) rfl rfl rfl rfl fun K0 Dm=> ?_;simp only [W,Nat.reduceSub,Nat.reduceAdd,List.replicate];unfold Fh at h;refine BE fun K1 Dp=> ?_;refine BX gC ?_;try simp only [W,Nat.reduceAdd]
 refine BL Dp ?_;refine BE fun K2 zu=> ?_;refine BY (fz:=[(2,[([9],[.sl [.sc]])])]) gC ?_;try simp only [W,Nat.reduceAdd,Nat.reduceBEq]
 refine Ce (el:=([0,1,2,3,4,6,12,13]:List Int).map (AV.int .i64)) hS rfl rfl rfl rfl rfl rfl rfl fun v3 H GB hS=> ?_;try simp only [W,Nat.reduceAdd]
 refine Cx 0 hS rfl GB rfl (fun _ _=>by simp [a8,aT,dr]) (fun _=>rfl) fun H rK hS=> ?_
 try simp only [W]
 refine Cf h fun Ei H_ h=> ?_;obtain ⟨DH,Dn⟩:=Ei;try dsimp only at h
 refine KS H_ hS fun H hS=> ?_;try simp only [W,Nat.reduceAdd,Nat.reduceBEq]
 refine BL zu ?_;refine BE fun K8 DG=> ?_;refine BX gC ?_;try simp only [W,Nat.reduceAdd]
 refine Cf h fun DO Fs h=> ?_;obtain ⟨DK,Dw⟩:=DO;try dsimp only at h
 refine E8 Fs hS fun H hS=> ?_;try simp only [W,EE]
 refine BL DG ?_;refine BE fun EQ DL=> ?_;refine BE fun E7 DS=> ?_;refine BX gC ?_;try simp only [W,Nat.reduceAdd]
 refine Cf h fun Ft Fu h=> ?_;obtain ⟨Eo,Ep⟩:=Ft;try dsimp only at h
 refine KT Fu hS fun H hS=> ?_;try simp only [W]
 refine BL DS ?_;obtain ⟨KV,h,g19⟩:=Option.bind_eq_some_iff.1 h;refine Ck gC (fun s H=> ∃F9:Int,KV=(F9)∧s=[.ptr i0 w0 0 0,u,u,u,.int .i64 DH,.int .i64 F9,u,u,u,u,u,u,u,u,u,u,u,u,u,u,u,u,u,u,u,u,u,u,u,u,u,u,u,u,u,u,u,u]∧aE H (⟨.ptr i0 w0 0 0,3,[.agg [.fz (Ep.Code.map (AV.int .u8)),.int .i64 Ep.At,.int .u64 Ep.DA]]⟩::F)) (fun FN D4=> ?_) (fun s H hq=> ?_)
 ·refine BE fun Hf Ez=> ?_;refine BJ ?_;simp only [W];refine BW h (fun hc h=> ?_) (fun hc h=> ?_)
  ·refine BX gC ?_;try simp only [W,EE,Nat.reduceAdd]
   refine BL Ez ?_;refine BK ?_;exact Cl D4 ⟨_,(Option.some.inj h).symm,rfl,hS⟩
  ·refine BG ?_;refine BL Ez ?_;refine BK ?_;exact Cl D4 ⟨_,(Option.some.inj h).symm,rfl,hS⟩
 ·obtain ⟨F9,Dr,rfl,hS⟩:=hq;obtain rfl:=Dr.symm;replace h:=g19;try dsimp only at h
  refine BL DL ?_;refine BE fun H8 E_=> ?_;refine BX gC ?_;try simp only [W,Nat.reduceAdd]
  refine Cf h fun Ga Jx h=> ?_;refine KU Jx hS fun H hS=> ?_;try simp only [W]
  refine Cs (c:=(AV.int .u8)) hS rfl rfl rfl rfl rfl rfl h fun v24 H FF Ia hm h hS=> ?_;try simp only [W]
  refine BL E_ ?_;refine BE fun Hg ES=> ?_;refine BE fun Jy GC=> ?_;refine BX gC ?_;try simp only [W,EE,Nat.reduceAdd]
  refine Cc 0 hS rfl Ia rfl ?_;try simp only [W]
  refine BL GC ?_;obtain ⟨Ib,KW,KX⟩:=Option.bind_eq_some_iff.1 h;refine Ck gC (fun s H=> ∃D3:List Int,∃Gb:List Int,∃Gc:Int,∃D0:Int,Ib=(D3,Gb,Gc,D0)∧s=[u,u,u,u,.int .i64 DH,u,v24,u,u,u,u,u,u,u,u,u,u,u,u,u,u,u,u,u,u,u,u,u,u,u,u,u,u,u,u,u,u,u]∧aE H (⟨v24,1,D3.map (AV.int .u8)⟩::⟨.ptr i0 w0 0 0,3,[.agg [.fz (Gb.map (AV.int .u8)),.int .i64 Gc,.int .u64 D0]]⟩::F)) (fun Jz FO=> ?_) (fun s H hq=> ?_)
  ·refine BF fun JA FP=> ?_;refine Cg gC KW (fun x s H=>match x with|(EW,D_,Ea,Ff,Fg)=>s=[.ptr i0 w0 0 0,u,u,u,.int .i64 DH,u,v24,u,u,u,u,u,u,u,u,u,u,u,u,u,u,u,u,.int .i64 (FF.length:Int),.int .i64 D_,u,u,u,u,u,u,u,u,u,u,u,u,u]∧aE H (⟨v24,1,EW.map (AV.int .u8)⟩::⟨.ptr i0 w0 0 0,3,[.agg [.fz (Ea.map (AV.int .u8)),.int .i64 Ff,.int .u64 Fg]]⟩::F)) ⟨rfl,hS⟩ (fun x OS s H h KY hi JB FQ=> ?_)
   obtain ⟨EW,D_,Ea,Ff,Fg⟩:=x;try dsimp only at hi
   obtain ⟨rfl,hS⟩:=hi;simp only [HK] at h;refine BE fun OT KZ=> ?_;refine BX gC ?_;try simp only [W,EE,Nat.reduceAdd]
   refine BL KZ ?_;refine BE fun K_ Hh=> ?_;refine BJ ?_;simp only [W];refine BW h (fun hc h=> ?_) (fun hc h=> ?_)
   ·refine BG ?_;refine BL Hh ?_;refine BE fun JC Fa=> ?_;refine BF fun JD ET=> ?_;refine BE fun La Ic=> ?_;refine BX gC ?_;try simp only [W,Nat.reduceAdd]
    refine BL Ic ?_;refine BX gC ?_;try simp only [W,Nat.reduceAdd]
    refine Cf h fun FK Ie h=> ?_;obtain ⟨GP,GQ⟩:=FK;try dsimp only at h
    refine E8 Ie (hS.Cy 2 [1,0] (by decide)) fun H hS=> ?_
    try simp only [W,EE]
    refine Ca 1 hS rfl rfl rfl rfl rfl h (fun Gz OU OV OW Hi h JE=> ?_) Ia.ne;obtain ⟨OX,OY,OZ⟩:=hS.elem 1 rfl JE Hi;try simp only [W]
    refine Cb (a:= .int .u8 (IntKind.u8.wrap (IntKind.i64.wrap (97+GP)))) (y' :=(IntKind.u8.wrap (IntKind.i64.wrap (97+GP)))) 1 hS rfl JE Hi rfl rfl rfl rfl rfl rfl rfl fun H hS=> ?_
    try simp only [W]
    refine BP ET ?_;refine BL Fa ?_;refine BX gC ?_;try simp only [W,EE,Nat.reduceAdd]
    exact Ch FQ h ⟨rfl,(hS.Cy 2 [1,0] (by decide))⟩
   ·refine BI ?_;refine BN Hh ?_;try obtain rfl:=Option.some.inj h
    obtain rfl:=KY _ rfl;have h:(some (EW,Ea,Ff,Fg):Option ((List Int)×(List Int)×Int×Int))=some (EW,Ea,Ff,Fg):=rfl;refine Ci FQ ?_;refine BQ FP ?_;exact Cl FO ⟨_,_,_,_,(Option.some.inj h).symm,rfl,hS⟩
  ·obtain ⟨D3,Gb,Gc,D0,rfl,rfl,hS⟩:=hq;replace h:=KX;try dsimp only at h
   refine BL ES ?_;refine BE fun O0 Lb=> ?_;refine BX gC ?_;try simp only [W,EE,Nat.reduceAdd]
   refine Cq rfl rfl rfl rfl rfl rfl rfl (hS.hM 0 rfl Ia) (hS.zK 0 rfl) ?_;try simp only [W]
   refine BL Lb ?_;refine BH ?_;refine BT Dm rfl rfl ?_;try obtain rfl:=Option.some.inj h
   exact hP _ (hS.Cy 2 [1] (by decide))
theorem JF {a0:List Int} {r:(List UInt8×Int)} (h:FG a0=some r) {F:List It} {H:J} (hS:aE H (F)) {P:AV→J→Prop} (hP: ∀H',aE H' (F)→P (.ay [.str r.1,.int .i64 r.2]) H'):au C 20 [.fz (a0.map (AV.int .u8))] H P:=by
 refine B0 gC (res:=[.tmp 2,.tmp 3]) (n:=12) rfl rfl rfl rfl fun K0 Dm=> ?_;simp only [W,Nat.reduceSub,Nat.reduceAdd,List.replicate];unfold FG at h;refine BE fun K1 Dp=> ?_;refine BX gC ?_;try simp only [W,Nat.reduceAdd]
 refine BL Dp ?_;refine BE fun K2 zu=> ?_;refine BX gC ?_;try simp only [W,EE,Nat.reduceAdd]
 refine CB rfl rfl rfl rfl rfl ?_;try simp only [W]
 refine B5 hS rfl rfl rfl rfl fun JG JH H hS=> ?_;try simp only [W]
 refine BL zu ?_;refine BE fun K5 DM=> ?_;refine BX gC ?_;try simp only [W,Nat.reduceAdd]
 refine Cf h fun DH Ey h=> ?_;obtain ⟨Dn,Dq,DO⟩:=DH;try dsimp only at h
 refine H9 Ey hS fun H hS=> ?_;try simp only [W]
 refine BL DM ?_;refine BH ?_;refine BT Dm rfl rfl ?_;try obtain rfl:=Option.some.inj h
 exact hP _ (hS.Cy 1 [] (by decide))
theorem GD {a0:Int} {a1:Int} {a2:Int} {r:(Bool)} (h:EP a0 a1 a2=some r) {F:List It} {H:J} (hS:aE H (F)) {P:AV→J→Prop} (hP: ∀H',aE H' (F)→P (.bool r) H'):au C 65 [.int .i64 a0,.int .i64 a1,.int .i64 a2] H P:=by
 refine B0 gC (res:=[.tmp 6]) (n:=15) rfl rfl rfl rfl fun K0 Dm=> ?_;simp only [W,Nat.reduceSub,Nat.reduceAdd,List.replicate];unfold EP at h;refine BE fun K1 Dp=> ?_;refine BX gC ?_;try simp only [W,Nat.reduceAdd]
 refine BL Dp ?_;refine BE fun K2 zu=> ?_;refine BX gC ?_;try simp only [W,EE,Nat.reduceAdd]
 refine CA h (fun hc h=> ?_) (fun hc h=> ?_)
 ·try simp only [W,EE,reduceIte,hc]
  refine BL zu ?_;refine BH ?_;refine BS Dm rfl ?_;try obtain rfl:=Option.some.inj h
  exact hP _ hS
 ·try simp only [W,hc]
  refine BL zu ?_;refine BH ?_;refine BS Dm rfl ?_;try obtain rfl:=Option.some.inj h
  exact hP _ hS
theorem If {a0:Int} {a1:Int} {r:(Bool)} (h:Fi a0 a1=some r) {F:List It} {H:J} (hS:aE H (F)) {P:AV→J→Prop} (hP: ∀H',aE H' (F)→P (.bool r) H'):au C 82 [.int .i64 a0,.int .i64 a1] H P:=by
 refine B0 gC (res:=[.tmp 4]) (n:=17) rfl rfl rfl rfl fun K0 Dm=> ?_;simp only [W,Nat.reduceSub,Nat.reduceAdd,List.replicate];unfold Fi at h;refine BE fun K1 Dp=> ?_;refine BX gC ?_;try simp only [W,Nat.reduceAdd]
 refine BL Dp ?_;refine BE fun K2 zu=> ?_;refine BX gC ?_;try simp only [W,Nat.reduceAdd]
 refine Cf h fun b3 kA h=> ?_;refine GD kA hS fun H hS=> ?_;try simp only [W]
 refine CA h (fun hc h=> ?_) (fun hc h=> ?_)
 ·try simp only [W,hc]
  refine Cf h fun DB EH h=> ?_;refine GD EH hS fun H hS=> ?_;try simp only [W,reduceIte]
  refine CA h (fun hc h=> ?_) (fun hc h=> ?_)
  ·try simp only [W,EE,hc]
   refine w_num _ h fun Dt JI h=> ?_;try simp only [W,EE,reduceIte]
   refine BL zu ?_;refine BH ?_;refine BS Dm rfl ?_;try obtain rfl:=Option.some.inj h
   exact hP _ hS
  ·try simp only [W,hc]
   refine BL zu ?_;refine BH ?_;refine BS Dm rfl ?_;try obtain rfl:=Option.some.inj h
   exact hP _ hS
 ·try simp only [W,hc]
  refine BL zu ?_;refine BH ?_;refine BS Dm rfl ?_;try obtain rfl:=Option.some.inj h
  exact hP _ hS
theorem Lc {a0:Int} {a1:Int} {a2:List UInt8} {i1:Nat} {w1:Nat} {i2:Nat} {w2:Nat} {r:(Int)} (h:GR a0 a1 a2=some r) {F:List It} {H:J} (FT:⟨.ptr i1 w1 0 0,1,[.int .i64 a1]⟩∈F) (kr:⟨.ptr i2 w2 0 0,1,[.str a2]⟩∈F) (hS:aE H (F)) {P:AV→J→Prop} (hP: ∀H',aE H' (F)→P (.int .i64 r) H'):au C 84 [.int .i64 a0,.ptr i1 w1 0 0,.ptr i2 w2 0 0] H P:=by
 refine B0 gC (res:=[.tmp 4]) (n:=17) rfl rfl rfl rfl fun K0 Dm=> ?_;simp only [W,Nat.reduceSub,Nat.reduceAdd,List.replicate];unfold GR at h;refine BE fun K1 Dp=> ?_;refine BX gC ?_;try simp only [W,Nat.reduceAdd]
 refine BL Dp ?_;refine BE fun K2 zu=> ?_;refine BZ gC (by kernel_rfl) ?_
 try simp only [W,EE,Nat.reduceAdd,hS.Cw FT]
 refine w_num _ h fun x3 pR h=> ?_;try simp only [W,EE,hS.Cw FT,hS.Cw kr]
 refine w_num _ h fun Dx Ap h=> ?_;try simp only [W,EE,hS.Cw FT]
 refine w_num _ h fun Dt JI h=> ?_;try simp only [W,EE]
 refine BL zu ?_;refine BH ?_;refine BS Dm rfl ?_;try obtain rfl:=Option.some.inj h
 exact hP _ hS
theorem JJ {a0:List UInt8} {g1:Int→Option Int} {f1:FuncId} {c1:List AV} {r:(List UInt8)} (h:FH a0 g1=some r) {F:List It} {H:J} (cG: ∀{x0:Int} {r:Int},g1 x0=some r→ ∀(L:List It) (n:Nat),L.drop n=F→ ∀(H:J),aE H L→ ∀(P:AV→J→Prop),(∀H',aE H' L→P (.int .i64 r) H')→au C f1 ([.int .i64 x0] ++ c1) H P) (hS:aE H (F)) {P:AV→J→Prop} (hP: ∀H',aE H' (F)→P (.str r) H'):au C 83 [.str a0,.fn f1 c1] H P:=by
 refine B0 gC (res:=[.tmp 4]) (n:=26) rfl rfl rfl rfl fun K0 Dm=> ?_;simp only [W,Nat.reduceSub,Nat.reduceAdd,List.replicate];unfold FH at h;refine BE fun K1 Dp=> ?_;refine BX gC ?_;try simp only [W,Nat.reduceAdd]
 refine BL Dp ?_;refine BE fun K2 zu=> ?_;refine BX gC ?_;try simp only [W,EE,Nat.reduceAdd]
 refine Cs (c:=(AV.int .u8)) hS rfl rfl rfl rfl rfl rfl h fun v3 H Dt GB hm h hS=> ?_;try simp only [W]
 refine BL zu ?_;refine BE fun K6 EA=> ?_;refine BE fun K7 DQ=> ?_;refine BX gC ?_;try simp only [W,EE,Nat.reduceAdd]
 refine Cc 0 hS rfl GB rfl ?_;try simp only [W]
 refine BL DQ ?_;obtain ⟨JK,Ld,g18⟩:=Option.bind_eq_some_iff.1 h;refine Ck gC (fun s H=> ∃Ge:List Int,JK=(Ge)∧s=[u,u,u,u,u,v3,u,u,u,u,u,u,u,u,u,u,u,u,u,u,u,u,u,u,u,u]∧aE H (⟨v3,1,Ge.map (AV.int .u8)⟩::F)) (fun E7 DS=> ?_) (fun s H hq=> ?_)
 ·refine BF fun Hc EL=> ?_;refine Cg gC Ld (fun x s H=>match x with|(EX,Ej)=>s=[.str a0,.fn f1 c1,u,u,u,v3,u,u,u,u,u,.int .i64 (Dt.length:Int),.int .i64 Ej,u,u,u,u,u,u,u,u,u,u,u,u,u]∧aE H (⟨v3,1,EX.map (AV.int .u8)⟩::F)) ⟨rfl,hS⟩ (fun x Hj s H h Le hi H4 ER=> ?_)
  obtain ⟨EX,Ej⟩:=x;try dsimp only at hi
  obtain ⟨rfl,hS⟩:=hi;simp only [Gd] at h;refine BE fun FU D5=> ?_;refine BX gC ?_;try simp only [W,EE,Nat.reduceAdd]
  refine BL D5 ?_;refine BE fun FN D4=> ?_;refine BJ ?_;simp only [W];refine BW h (fun hc h=> ?_) (fun hc h=> ?_)
  ·refine BG ?_;refine BL D4 ?_;refine BE fun Hf Ez=> ?_;refine BF fun H8 E_=> ?_;refine BE fun Hk EO=> ?_;refine BX gC ?_;try simp only [W,Nat.reduceAdd]
   refine BL EO ?_;refine BX gC ?_;try simp only [W,Nat.reduceAdd]
   refine Cf h fun I8 Lf h=> ?_;refine cG Lf _ 1 rfl _ hS _ fun H hS=> ?_;try simp only [W,EE]
   refine B9 h fun GS O1 h=> ?_;try simp only [W,EE]
   refine Ca 0 hS rfl rfl rfl rfl rfl h (fun O2 O3 O4 O5 JL h JM=> ?_) GB.ne;obtain ⟨O6,O7,O8⟩:=hS.elem 0 rfl JM JL;try simp only [W]
   refine Cb (a:= .int .u8 (GS.toNat:Int)) (y' :=(GS.toNat:Int)) 0 hS rfl JM JL rfl rfl rfl rfl rfl rfl rfl fun H hS=> ?_
   try simp only [W]
   refine BP E_ ?_;refine BL Ez ?_;refine BX gC ?_;try simp only [W,EE,Nat.reduceAdd]
   exact Ch ER h ⟨rfl,hS⟩
  ·refine BI ?_;refine BN D4 ?_;try obtain rfl:=Option.some.inj h
   obtain rfl:=Le _ rfl;have h:(some (EX):Option ((List Int)))=some (EX):=rfl;refine Ci ER ?_;refine BQ EL ?_;exact Cl DS ⟨_,(Option.some.inj h).symm,rfl,hS⟩
 ·obtain ⟨Ge,Dr,rfl,hS⟩:=hq;obtain rfl:=Dr.symm;replace h:=g18;try dsimp only at h
  refine BL EA ?_;refine BE fun Hl D6=> ?_;refine BX gC ?_;try simp only [W,EE,Nat.reduceAdd]
  refine Cq rfl rfl rfl rfl rfl rfl rfl (hS.hM 0 rfl GB) (hS.zK 0 rfl) ?_;try simp only [W]
  refine BL D6 ?_;refine BH ?_;refine BS Dm rfl ?_;try obtain rfl:=Option.some.inj h
  exact hP _ (hS.Cy 1 [] (by decide))
theorem Lg {a0:List UInt8} {a1:Int} {r:(List UInt8×Bool)} (h:Gf a0 a1=some r) {F:List It} {H:J} (hS:aE H (F)) {P:AV→J→Prop} (hP: ∀H',aE H' (F)→P (.ay [.str r.1,.bool r.2]) H'):au C 21 [.str a0,.int .i64 a1] H P:=by
 refine B0 gC (res:=[.tmp 4,.tmp 5]) (n:=14) rfl rfl rfl rfl fun K0 Dm=> ?_;simp only [W,Nat.reduceSub,Nat.reduceAdd,List.replicate];unfold Gf at h;refine BE fun K1 Dp=> ?_;refine BX gC ?_;try simp only [W,Nat.reduceAdd]
 refine B5 hS rfl rfl rfl rfl fun Lh Li H hS=> ?_;try simp only [W]
 refine B5 hS rfl rfl rfl rfl fun O9 O_ H hS=> ?_;try simp only [W]
 refine BL Dp ?_;refine BE fun K6 EA=> ?_;refine BE fun K7 DQ=> ?_;refine BX gC ?_;try simp only [W,EE,Nat.reduceAdd,hS.var 1 rfl,hS.var 0 rfl]
 refine Cf h fun Dq Lj h=> ?_;refine If Lj hS fun H hS=> ?_;try simp only [W]
 refine BL DQ ?_;refine BJ ?_;simp only [W];refine BW h (fun hc h=> ?_) (fun hc h=> ?_)
 ·refine BE fun K9 Ev=> ?_;refine BX gC ?_;try simp only [W,Nat.reduceAdd]
  refine BL Ev ?_;refine BH ?_;refine BM EA ?_;refine BT Dm rfl rfl ?_;try obtain rfl:=Option.some.inj h
  exact hP _ (hS.Cy 2 [] (by decide))
 ·refine BG ?_;refine BL EA ?_;refine BE fun FL Ed=> ?_;refine BX gC ?_;try simp only [W,EE,Nat.reduceAdd,hS.var 1 rfl]
  refine Cf h fun Dw Fv h=> ?_;refine JJ Fv (fun h _ n hL _ hS _ hP=>Lc h (Cz hL (List.mem_of_getElem? (i:=0) rfl)) (Cz hL (List.mem_of_getElem? (i:=1) rfl)) hS hP) hS fun H hS=> ?_;try simp only [W]
  refine BL Ed ?_;refine BH ?_;refine BT Dm rfl rfl ?_;try obtain rfl:=Option.some.inj h
  exact hP _ (hS.Cy 2 [] (by decide))
theorem FV {a0:Int} {a1:Int} {a2:Int} {r:(Bool)} (h:Ek a0 a1 a2=some r) {F:List It} {H:J} (hS:aE H (F)) {P:AV→J→Prop} (hP: ∀H',aE H' (F)→P (.bool r) H'):au C 90 [.int .i64 a0,.int .i64 a1,.int .i64 a2] H P:=by
 refine B0 gC (res:=[.tmp 6]) (n:=15) rfl rfl rfl rfl fun K0 Dm=> ?_;simp only [W,Nat.reduceSub,Nat.reduceAdd,List.replicate];unfold Ek at h;refine BE fun K1 Dp=> ?_;refine BX gC ?_;try simp only [W,Nat.reduceAdd]
 refine BL Dp ?_;refine BE fun K2 zu=> ?_;refine BX gC ?_;try simp only [W,EE,Nat.reduceAdd]
 refine CA h (fun hc h=> ?_) (fun hc h=> ?_)
 ·try simp only [W,EE,reduceIte,hc]
  refine BL zu ?_;refine BH ?_;refine BS Dm rfl ?_;try obtain rfl:=Option.some.inj h
  exact hP _ hS
 ·try simp only [W,hc]
  refine BL zu ?_;refine BH ?_;refine BS Dm rfl ?_;try obtain rfl:=Option.some.inj h
  exact hP _ hS
theorem Ig {a0:Int} {a1:Int} {r:(Bool)} (h:Fj a0 a1=some r) {F:List It} {H:J} (hS:aE H (F)) {P:AV→J→Prop} (hP: ∀H',aE H' (F)→P (.bool r) H'):au C 85 [.int .i64 a0,.int .i64 a1] H P:=by
 refine B0 gC (res:=[.tmp 4]) (n:=17) rfl rfl rfl rfl fun K0 Dm=> ?_;simp only [W,Nat.reduceSub,Nat.reduceAdd,List.replicate];unfold Fj at h;refine BE fun K1 Dp=> ?_;refine BX gC ?_;try simp only [W,Nat.reduceAdd]
 refine BL Dp ?_;refine BE fun K2 zu=> ?_;refine BX gC ?_;try simp only [W,Nat.reduceAdd]
 refine Cf h fun b3 kA h=> ?_;refine FV kA hS fun H hS=> ?_;try simp only [W]
 refine CA h (fun hc h=> ?_) (fun hc h=> ?_)
 ·try simp only [W,hc]
  refine Cf h fun DB EH h=> ?_;refine FV EH hS fun H hS=> ?_;try simp only [W,reduceIte]
  refine CA h (fun hc h=> ?_) (fun hc h=> ?_)
  ·try simp only [W,EE,hc]
   refine w_num _ h fun Dt JI h=> ?_;try simp only [W,EE,reduceIte]
   refine BL zu ?_;refine BH ?_;refine BS Dm rfl ?_;try obtain rfl:=Option.some.inj h
   exact hP _ hS
  ·try simp only [W,hc]
   refine BL zu ?_;refine BH ?_;refine BS Dm rfl ?_;try obtain rfl:=Option.some.inj h
   exact hP _ hS
 ·try simp only [W,hc]
  refine BL zu ?_;refine BH ?_;refine BS Dm rfl ?_;try obtain rfl:=Option.some.inj h
  exact hP _ hS
theorem Lk {a0:List UInt8} {a1:Int} {r:(List UInt8×Bool)} (h:Gh a0 a1=some r) {F:List It} {H:J} (hS:aE H (F)) {P:AV→J→Prop} (hP: ∀H',aE H' (F)→P (.ay [.str r.1,.bool r.2]) H'):au C 22 [.str a0,.int .i64 a1] H P:=by
 refine B0 gC (res:=[.tmp 4,.tmp 5]) (n:=43) rfl rfl rfl rfl fun K0 Dm=> ?_;simp only [W,Nat.reduceSub,Nat.reduceAdd,List.replicate];unfold Gh at h;refine BE fun K1 Dp=> ?_;refine BX gC ?_;try simp only [W,Nat.reduceAdd]
 refine BL Dp ?_;refine BE fun K2 zu=> ?_;refine BE fun K3 DE=> ?_;refine BX gC ?_;try simp only [W,EE,Nat.reduceAdd]
 refine Cf h fun DB EH h=> ?_;refine Ig EH hS fun H hS=> ?_;try simp only [W]
 refine BL DE ?_;refine BJ ?_;simp only [W];refine BW h (fun hc h=> ?_) (fun hc h=> ?_)
 ·refine BE fun K5 DM=> ?_;refine BX gC ?_;try simp only [W,Nat.reduceAdd]
  refine BL DM ?_;refine BH ?_;refine BM zu ?_;refine BT Dm rfl rfl ?_;try obtain rfl:=Option.some.inj h
  exact hP _ hS
 ·refine BG ?_;refine BL zu ?_;refine BE fun K6 EA=> ?_;refine BX gC ?_;try simp only [W,EE,Nat.reduceAdd]
  refine w_num _ h fun Dy Ll h=> ?_;try simp only [W]
  refine BL EA ?_;refine BE fun K8 DG=> ?_;refine BX gC ?_;try simp only [W,EE,Nat.reduceAdd]
  refine Cs (c:=(AV.int .u8)) hS rfl rfl rfl rfl rfl rfl h fun v9 H DN Fw hm h hS=> ?_;try simp only [W]
  refine BL DG ?_;refine BE fun EQ DL=> ?_;refine BE fun E7 DS=> ?_;refine BX gC ?_;try simp only [W,EE,Nat.reduceAdd]
  refine Cc 0 hS rfl Fw rfl ?_;try simp only [W]
  refine BL DS ?_;obtain ⟨Hj,Ih,g24⟩:=Option.bind_eq_some_iff.1 h;refine Ck gC (fun s H=> ∃DC:List Int,Hj=(DC)∧s=[u,u,u,u,u,u,u,v9,u,u,u,u,u,u,u,u,u,u,u,u,u,u,u,u,u,u,u,u,u,u,u,u,u,u,u,u,u,u,u,u,u,u,u]∧aE H (⟨v9,1,DC.map (AV.int .u8)⟩::F)) (fun FU D5=> ?_) (fun s H hq=> ?_)
  ·refine BF fun FN D4=> ?_;refine Cg gC Ih (fun x s H=>match x with|(Dv,Dz)=>s=[.str a0,.int .i64 a1,u,u,u,u,.int .i64 Dy,v9,u,u,u,u,u,u,u,u,u,u,u,u,u,u,.int .i64 (DN.length:Int),.int .i64 Dz,u,u,u,u,u,u,u,u,u,u,u,u,u,u,u,u,u,u,u]∧aE H (⟨v9,1,Dv.map (AV.int .u8)⟩::F)) ⟨rfl,hS⟩ (fun x Ln s H h Ii hi Hf Ez=> ?_)
   obtain ⟨Dv,Dz⟩:=x;try dsimp only at hi
   obtain ⟨rfl,hS⟩:=hi;simp only [Gg] at h;refine BE fun FW DT=> ?_;refine BX gC ?_;try simp only [W,EE,Nat.reduceAdd]
   refine BL DT ?_;refine BE fun Hm EB=> ?_;refine BJ ?_;simp only [W];refine BW h (fun hc h=> ?_) (fun hc h=> ?_)
   ·refine BG ?_;refine BL EB ?_;refine BE fun Hg ES=> ?_;refine BF fun Jy GC=> ?_;refine BE fun Hn Ee=> ?_;refine BX gC ?_;try simp only [W,Nat.reduceAdd]
    refine BL Ee ?_;refine CC gC [(14,[])] (by kernel_rfl) rfl (by kernel_rfl) ?_
    try simp only [W,EE,reduceIte,Nat.reduceAdd,iJ,lu,Nat.reduceEqDiff]
    refine w_num _ h fun D_ Lo h=> ?_;try simp only [W,EE]
    refine w_num _ h fun Ea Lp h=> ?_;try simp only [W,EE]
    refine B9 h fun EC Ij h=> ?_;try simp only [W,EE]
    refine Ca 0 hS rfl rfl rfl rfl rfl h (fun Es JN JO JP Fx h Fy=> ?_) Fw.ne;obtain ⟨JQ,Ik,Il⟩:=hS.elem 0 rfl Fy Fx;try simp only [W]
    refine Cb (a:= .int .u8 (EC.toNat:Int)) (y' :=(EC.toNat:Int)) 0 hS rfl Fy Fx rfl rfl rfl rfl rfl rfl rfl fun H hS=> ?_
    try simp only [W]
    refine BP GC ?_;refine BL ES ?_;refine BX gC ?_;try simp only [W,EE,Nat.reduceAdd]
    exact Ch Ez h ⟨rfl,hS⟩
   ·refine BI ?_;refine BN EB ?_;try obtain rfl:=Option.some.inj h
    obtain rfl:=Ii _ rfl;have h:(some (Dv):Option ((List Int)))=some (Dv):=rfl;refine Ci Ez ?_;refine BQ D4 ?_;exact Cl D5 ⟨_,(Option.some.inj h).symm,rfl,hS⟩
  ·obtain ⟨DC,Dr,rfl,hS⟩:=hq;obtain rfl:=Dr.symm;replace h:=g24;try dsimp only at h
   refine BL DL ?_;refine BE fun Lq Im=> ?_;refine BX gC ?_;try simp only [W,EE,Nat.reduceAdd]
   refine Cq rfl rfl rfl rfl rfl rfl rfl (hS.hM 0 rfl Fw) (hS.zK 0 rfl) ?_;try simp only [W]
   refine BL Im ?_;refine BH ?_;refine BT Dm rfl rfl ?_;try obtain rfl:=Option.some.inj h
   exact hP _ (hS.Cy 1 [] (by decide))
theorem Lr {a0:Int} {a1:Int} {a2:Int} {i1:Nat} {w1:Nat} {i2:Nat} {w2:Nat} {r:(Int)} (h:GU a0 a1 a2=some r) {F:List It} {H:J} (FT:⟨.ptr i1 w1 0 0,1,[.int .i64 a1]⟩∈F) (kr:⟨.ptr i2 w2 0 0,1,[.int .i64 a2]⟩∈F) (hS:aE H (F)) {P:AV→J→Prop} (hP: ∀H',aE H' (F)→P (.int .i64 r) H'):au C 86 [.int .i64 a0,.ptr i1 w1 0 0,.ptr i2 w2 0 0] H P:=by
 refine B0 gC (res:=[.tmp 4]) (n:=14) rfl rfl rfl rfl fun K0 Dm=> ?_;simp only [W,Nat.reduceSub,Nat.reduceAdd,List.replicate];unfold GU at h;refine BE fun K1 Dp=> ?_;refine BX gC ?_;try simp only [W,Nat.reduceAdd]
 refine BL Dp ?_;refine BE fun K2 zu=> ?_;refine BZ gC (by kernel_rfl) ?_
 try simp only [W,EE,Nat.reduceAdd,hS.Cw FT]
 refine w_num _ h fun x3 pR h=> ?_;try simp only [W,EE,hS.Cw FT,hS.Cw kr]
 refine w_num _ h fun Dx Ap h=> ?_;try simp only [W,EE]
 refine BL zu ?_;refine BH ?_;refine BS Dm rfl ?_;try obtain rfl:=Option.some.inj h
 exact hP _ hS
theorem Io {a0:List UInt8} {a1:Int} {r:(List UInt8×Bool)} (h:EJ a0 a1=some r) {F:List It} {H:J} (hS:aE H (F)) {P:AV→J→Prop} (hP: ∀H',aE H' (F)→P (.ay [.str r.1,.bool r.2]) H'):au C 23 [.str a0,.int .i64 a1] H P:=by
 refine B0 gC (res:=[.tmp 4,.tmp 5]) (n:=19) rfl rfl rfl rfl fun K0 Dm=> ?_;simp only [W,Nat.reduceSub,Nat.reduceAdd,List.replicate];unfold EJ at h;refine BE fun K1 Dp=> ?_;refine BX gC ?_;try simp only [W,Nat.reduceAdd]
 refine B5 hS rfl rfl rfl rfl fun Lh Li H hS=> ?_;try simp only [W]
 refine BL Dp ?_;refine BE fun K4 Ec=> ?_;refine BE fun K5 DM=> ?_;refine BX gC ?_;try simp only [W,EE,Nat.reduceAdd,hS.var 0 rfl]
 refine Cf h fun DH Ey h=> ?_;refine If Ey hS fun H hS=> ?_;try simp only [W]
 refine BL DM ?_;refine BJ ?_;simp only [W];refine BW h (fun hc h=> ?_) (fun hc h=> ?_)
 ·refine BE fun K7 DQ=> ?_;refine BX gC ?_;try simp only [W,Nat.reduceAdd]
  refine BL DQ ?_;refine BH ?_;refine BM Ec ?_;refine BT Dm rfl rfl ?_;try obtain rfl:=Option.some.inj h
  exact hP _ (hS.Cy 1 [] (by decide))
 ·refine BG ?_;refine BL Ec ?_;refine BE fun K8 DG=> ?_;refine BX gC ?_;try simp only [W,EE,Nat.reduceAdd,hS.var 0 rfl]
  refine w_num _ h fun Ej Pa h=> ?_;try simp only [W]
  refine B6 hS rfl rfl fun Pb Pc H hS=> ?_;try simp only [W]
  refine B7 (a:= .int .i64 Ej) (y' := .int .i64 Ej) 0 hS rfl rfl rfl rfl rfl rfl rfl rfl fun H hS=> ?_
  try simp only [W]
  refine BL DG ?_;refine BE fun EQ DL=> ?_;refine BX gC ?_;try simp only [W,Nat.reduceAdd]
  refine Cf h fun EY Ls h=> ?_;refine JJ Ls (fun h _ n hL _ hS _ hP=>Lr h (Cz hL (List.mem_of_getElem? (i:=0) rfl)) (Cz hL (List.mem_of_getElem? (i:=1) rfl)) hS hP) hS fun H hS=> ?_;try simp only [W]
  refine BL DL ?_;refine BH ?_;refine BT Dm rfl rfl ?_;try obtain rfl:=Option.some.inj h
  exact hP _ (hS.Cy 2 [] (by decide))
theorem JR {a0:List Int} {r:(Int)} (h:EZ a0=some r) {F:List It} {H:J} (hS:aE H (F)) {P:AV→J→Prop} (hP: ∀H',aE H' (F)→P (.int .i64 r) H'):au C 24 [.fz (a0.map (AV.int .u8))] H P:=by
 refine B0 gC (res:=[.tmp 2]) (n:=20) rfl rfl rfl rfl fun K0 Dm=> ?_;simp only [W,Nat.reduceSub,Nat.reduceAdd,List.replicate];unfold EZ at h;refine BE fun K1 Dp=> ?_;refine BX gC ?_;try simp only [W,Nat.reduceAdd]
 refine BL Dp ?_;refine BE fun K2 zu=> ?_;refine BX gC ?_;try simp only [W,Nat.reduceAdd]
 refine BL zu ?_;refine BE fun K3 DE=> ?_;refine BE fun K4 Ec=> ?_;refine BX gC ?_;try simp only [W,EE,Nat.reduceAdd]
 refine BL Ec ?_;obtain ⟨Ip,Iq,g15⟩:=Option.bind_eq_some_iff.1 h;refine Ck gC (fun s H=> ∃Dy:Int,Ip=(Dy)∧s=[u,u,u,.int .i64 Dy,u,u,u,u,u,u,u,u,u,u,u,u,u,u,u,u]∧aE H (F)) (fun FL Ed=> ?_) (fun s H hq=> ?_)
 ·refine BF fun GA Ew=> ?_;refine Cg gC Iq (fun x s H=>match x with|(Dt,FI)=>s=[u,u,u,.int .i64 Dt,u,u,.fz (a0.map (AV.int .u8)),.int .i64 (a0.length:Int),.int .i64 FI,u,u,u,u,u,u,u,u,u,u,u]∧aE H (F)) ⟨rfl,hS⟩ (fun x Lt s H h Ho hi EQ DL=> ?_)
  obtain ⟨Dt,FI⟩:=x;try dsimp only at hi
  obtain ⟨rfl,hS⟩:=hi;simp only [HM] at h;refine BE fun Hd EM=> ?_;refine BX gC ?_;try simp only [W,EE,Nat.reduceAdd]
  refine BL EM ?_;refine BE fun FM DX=> ?_;refine BJ ?_;simp only [W];refine BW h (fun hc h=> ?_) (fun hc h=> ?_)
  ·refine BG ?_;refine BL DX ?_;refine BE fun He EG=> ?_;refine BF fun FU D5=> ?_;refine BE fun FN D4=> ?_;refine BX gC ?_;try simp only [W,EE,Nat.reduceAdd]
   refine B_ rfl rfl rfl (fun _=>rfl) h fun Fe Pd h=> ?_;try simp only [W,EE]
   refine BL D4 ?_;refine BX gC ?_;try simp only [W,EE,Nat.reduceAdd]
   rw [B2 _ _ rfl,Option.map_some,sT];try simp only [W]
   refine BP D5 ?_;refine BL EG ?_;refine BX gC ?_;try simp only [W,EE,Nat.reduceAdd]
   exact Ch DL h ⟨rfl,hS⟩
  ·refine BI ?_;refine BN DX ?_;try obtain rfl:=Option.some.inj h
   obtain rfl:=Ho _ rfl;have h:(some (Dt):Option (Int))=some (Dt):=rfl;refine Ci DL ?_;refine BQ Ew ?_;exact Cl Ed ⟨_,(Option.some.inj h).symm,rfl,hS⟩
 ·obtain ⟨Dy,Dr,rfl,hS⟩:=hq;obtain rfl:=Dr.symm;replace h:=g15;try dsimp only at h
  refine BL DE ?_;refine BE fun FX Ef=> ?_;refine BX gC ?_;try simp only [W,Nat.reduceAdd]
  refine BL Ef ?_;refine BH ?_;refine BS Dm rfl ?_;try obtain rfl:=Option.some.inj h
  exact hP _ hS
theorem JS {a0:Int} {a1:Int} {a2:Int} {r:(Bool)} (h:FJ a0 a1 a2=some r) {F:List It} {H:J} (hS:aE H (F)) {P:AV→J→Prop} (hP: ∀H',aE H' (F)→P (.bool r) H'):au C 87 [.int .i64 a0,.int .i64 a1,.int .i64 a2] H P:=by
 refine B0 gC (res:=[.tmp 6]) (n:=21) rfl rfl rfl rfl fun K0 Dm=> ?_;simp only [W,Nat.reduceSub,Nat.reduceAdd,List.replicate];unfold FJ at h;refine BE fun K1 Dp=> ?_;refine BX gC ?_;try simp only [W,Nat.reduceAdd]
 refine BL Dp ?_;refine BE fun K2 zu=> ?_;refine BX gC ?_;try simp only [W,Nat.reduceAdd]
 refine Cf h fun b3 kA h=> ?_;refine GD kA hS fun H hS=> ?_;try simp only [W]
 refine CA h (fun hc h=> ?_) (fun hc h=> ?_)
 ·try simp only [W,hc]
  refine Cf h fun DB EH h=> ?_;refine GD EH hS fun H hS=> ?_;try simp only [W,reduceIte]
  refine CA h (fun hc h=> ?_) (fun hc h=> ?_)
  ·try simp only [W,EE,hc]
   refine Cf h fun Ei H_ h=> ?_;refine GD H_ hS fun H hS=> ?_;try simp only [W,reduceIte]
   refine BL zu ?_;refine BH ?_;refine BS Dm rfl ?_;try obtain rfl:=Option.some.inj h
   exact hP _ hS
  ·try simp only [W,hc]
   refine BL zu ?_;refine BH ?_;refine BS Dm rfl ?_;try obtain rfl:=Option.some.inj h
   exact hP _ hS
 ·try simp only [W,hc]
  refine BL zu ?_;refine BH ?_;refine BS Dm rfl ?_;try obtain rfl:=Option.some.inj h
  exact hP _ hS
theorem JT {a0:List UInt8} {a1:Int} {a2:Int} {r:(List UInt8×Bool)} (h:E0 a0 a1 a2=some r) {F:List It} {H:J} (hS:aE H (F)) {P:AV→J→Prop} (hP: ∀H',aE H' (F)→P (.ay [.str r.1,.bool r.2]) H'):au C 25 [.str a0,.int .i64 a1,.int .i64 a2] H P:=by
 refine B0 gC (res:=[.tmp 6,.tmp 7]) (n:=33) rfl rfl rfl rfl fun K0 Dm=> ?_;simp only [W,Nat.reduceSub,Nat.reduceAdd,List.replicate];unfold E0 at h;refine BE fun K1 Dp=> ?_;refine BX gC ?_;try simp only [W,Nat.reduceAdd]
 refine BL Dp ?_;refine BE fun K2 zu=> ?_;refine BE fun K3 DE=> ?_;refine BX gC ?_;try simp only [W,EE,Nat.reduceAdd]
 refine Cf h fun DB EH h=> ?_;refine JS EH hS fun H hS=> ?_;try simp only [W]
 refine BL DE ?_;refine BJ ?_;simp only [W];refine BW h (fun hc h=> ?_) (fun hc h=> ?_)
 ·refine BE fun K5 DM=> ?_;refine BX gC ?_;try simp only [W,Nat.reduceAdd]
  refine BL DM ?_;refine BH ?_;refine BM zu ?_;refine BT Dm rfl rfl ?_;try obtain rfl:=Option.some.inj h
  exact hP _ hS
 ·refine BG ?_;refine BL zu ?_;refine BE fun K6 EA=> ?_;refine BX gC ?_;try simp only [W,EE,Nat.reduceAdd]
  refine Cp hS rfl rfl rfl rfl rfl rfl rfl h fun Hp H Dy Ir hb h hS=> ?_;try simp only [W]
  refine BL EA ?_;refine BE fun FL Ed=> ?_;refine BE fun GA Ew=> ?_;refine BX gC ?_;try simp only [W,Nat.reduceAdd]
  refine BL Ew ?_;obtain ⟨H7,Lu,g22⟩:=Option.bind_eq_some_iff.1 h;refine Ck gC (fun s H=> ∃Dv:List Int,H7=(Dv)∧s=[u,u,u,u,u,u,u,u,Hp,u,u,u,u,u,u,u,u,u,u,u,u,u,u,u,u,u,u,u,u,u,u,u,u]∧aE H (⟨Hp,1,Dv.map (AV.int .u8)⟩::F)) (fun FM DX=> ?_) (fun s H hq=> ?_)
  ·refine BF fun He EG=> ?_;refine Cg gC Lu (fun x s H=>match x with|(D2,DV)=>s=[u,.int .i64 a1,u,u,u,u,u,u,Hp,u,u,u,u,u,u,u,u,u,.int .i64 a2,.int .i64 DV,u,u,u,u,u,u,u,u,u,u,u,u,u]∧aE H (⟨Hp,1,D2.map (AV.int .u8)⟩::F)) ⟨rfl,hS⟩ (fun x Hq s H h Lv hi FU D5=> ?_)
   obtain ⟨D2,DV⟩:=x;try dsimp only at hi
   obtain ⟨rfl,hS⟩:=hi;simp only [GV] at h;refine BE fun Hk EO=> ?_;refine BX gC ?_;try simp only [W,EE,Nat.reduceAdd]
   refine BL EO ?_;refine BE fun FX Ef=> ?_;refine BJ ?_;simp only [W];refine BW h (fun hc h=> ?_) (fun hc h=> ?_)
   ·refine BG ?_;refine BL Ef ?_;refine BE fun FW DT=> ?_;refine BF fun Hm EB=> ?_;refine BE fun Hg ES=> ?_;refine BX gC ?_;try simp only [W,Nat.reduceAdd]
    refine BL ES ?_;refine BX gC ?_;try simp only [W,EE,Nat.reduceAdd]
    refine Ca 0 hS rfl rfl rfl rfl rfl h (fun GW Pe Pf Pg Lw h Ly=> ?_) Ir.ne;obtain ⟨Ph,Lz,LA⟩:=hS.elem 0 rfl Ly Lw;try simp only [W,EE,Lz,LA]
    refine Ca 0 hS rfl rfl rfl rfl rfl h (fun Pj Pk Pl Pm JU h JV=> ?_) Ir.ne;obtain ⟨Pn,Po,Pp⟩:=hS.elem 0 rfl JV JU;try simp only [W]
    refine Cb (a:= .int .u8 (zU .u8 GW 255)) (y' :=(zU .u8 GW 255)) 0 hS rfl JV JU rfl rfl rfl rfl rfl rfl rfl fun H hS=> ?_
    try simp only [W]
    refine BP EB ?_;refine BL DT ?_;refine BX gC ?_;try simp only [W,EE,Nat.reduceAdd]
    exact Ch D5 h ⟨rfl,hS⟩
   ·refine BI ?_;refine BN Ef ?_;try obtain rfl:=Option.some.inj h
    obtain rfl:=Lv _ rfl;have h:(some (D2):Option ((List Int)))=some (D2):=rfl;refine Ci D5 ?_;refine BQ EG ?_;exact Cl DX ⟨_,(Option.some.inj h).symm,rfl,hS⟩
  ·obtain ⟨Dv,Dr,rfl,hS⟩:=hq;obtain rfl:=Dr.symm;replace h:=g22;try dsimp only at h
   refine BL Ed ?_;refine BE fun Pq LB=> ?_;refine BX gC ?_;try simp only [W,EE,Nat.reduceAdd]
   refine Cq rfl rfl rfl rfl rfl rfl rfl (hS.hM 0 rfl Ir) (hS.zK 0 rfl) ?_;try simp only [W]
   refine BL LB ?_;refine BH ?_;refine BT Dm rfl rfl ?_;try obtain rfl:=Option.some.inj h
   exact hP _ (hS.Cy 1 [] (by decide))
theorem LC {a0 r:List Int} (h:slices_Sort_int a0=some r) {F:List It} {H:J} {m0:AV} (hS:aE H (⟨m0,1,a0.map (AV.int .i64)⟩::F)) (Is:bL m0) {P:AV→J→Prop} (hP: ∀H',aE H' (⟨m0,1,r.map (AV.int .i64)⟩::F)→P (.ay []) H'):au C 88 [m0] H P:=
 Dk (I:=Fq) rfl (by simp [Fq,lz]) h hS Is hP
theorem LD {a0 r:List Int} (h:slices_Compact_int a0=some r) {F:List It} {H:J} {m0:AV} (hS:aE H (⟨m0,1,a0.map (AV.int .i64)⟩::F)) (Is:bL m0) {P:AV→J→Prop} (hP: ∀v0:AV,bL v0→ ∀H',aE H' (⟨v0,1,r.map (AV.int .i64)⟩::F)→P v0 H'):au C 89 [m0] H P:=
 Dl (I:=Fq) rfl (by simp [Fq,kids]) h hS Is hP
theorem JW {a0:Int} {a1:Int} {a2:Int} {a3:Int} {r:(List Int×Bool)} (h:E1 a0 a1 a2 a3=some r) {F:List It} {H:J} (hS:aE H (F)) {P:AV→J→Prop} (hP: ∀Iu:AV,bL Iu→ ∀H',aE H' (⟨Iu,1,r.1.map (AV.int .i64)⟩::F)→P (.ay [Iu,.bool r.2]) H'):au C 26 [.int .i64 a0,.int .i64 a1,.int .i64 a2,.int .i64 a3] H P:=by
 refine B0 gC (res:=[.tmp 8,.tmp 9]) (n:=41) rfl rfl rfl rfl fun K0 Dm=> ?_;simp only [W,Nat.reduceSub,Nat.reduceAdd,List.replicate];unfold E1 at h;refine BE fun K1 Dp=> ?_;refine BX gC ?_;try simp only [W,Nat.reduceAdd]
 refine BL Dp ?_;refine BE fun K2 zu=> ?_;refine BE fun K3 DE=> ?_;obtain ⟨Fz,h,g6⟩:=Option.bind_eq_some_iff.1 h;refine Ck gC (fun s H=> ∃Dx:Bool,Fz=(Dx)∧s=[u,.int .i64 a1,.int .i64 a2,.int .i64 a3,u,u,u,u,u,u,u,u,u,u,u,u,u,u,u,u,u,u,.bool Dx,u,u,u,u,u,u,u,u,u,u,u,u,u,u,u,u,u,u]∧aE H (F)) (fun K7 DQ=> ?_) (fun s H hq=> ?_)
 ·refine BE fun K8 DG=> ?_;refine BX gC ?_;try simp only [W,Nat.reduceAdd]
  refine Cf h fun DO Fs h=> ?_;refine If Fs hS fun H hS=> ?_;try simp only [W]
  refine CA h (fun hc h=> ?_) (fun hc h=> ?_)
  ·try simp only [W,hc]
   refine BL DG ?_;refine BK ?_;exact Cl DQ ⟨_,(Option.some.inj h).symm,rfl,hS⟩
  ·try simp only [W,hc]
   refine Cf h fun DK E6 h=> ?_;refine JS E6 hS fun H hS=> ?_;try simp only [W,reduceIte,Bool.false_eq_true]
   refine BL DG ?_;refine BK ?_;exact Cl DQ ⟨_,(Option.some.inj h).symm,rfl,hS⟩
 ·obtain ⟨Dx,Dr,rfl,hS⟩:=hq;obtain rfl:=Dr.symm;replace h:=g6;try dsimp only at h
  refine BL DE ?_;refine BJ ?_;simp only [W];refine BW h (fun hc h=> ?_) (fun hc h=> ?_)
  ·refine BE fun GA Ew=> ?_;refine BX gC ?_;try simp only [W,Nat.reduceAdd]
   refine BL Ew ?_;refine BH ?_;refine BM zu ?_;refine BT Dm rfl rfl ?_;try obtain rfl:=Option.some.inj h
   exact hP _ zI _ (hS.Cu 1)
  ·refine BG ?_;refine BL zu ?_;refine BE fun EQ DL=> ?_;refine BX gC ?_;try simp only [W,Nat.reduceAdd]
   refine Cd rfl rfl ?_;try simp only [W]
   refine BL DL ?_;refine BE fun E7 DS=> ?_;refine BE fun Hc EL=> ?_;refine BX gC ?_;try simp only [W,Nat.reduceAdd]
   refine BL EL ?_;obtain ⟨Hq,Iv,Fb⟩:=Option.bind_eq_some_iff.1 h;refine Ck gC (fun s H=> ∃Du:List Int,Hq=(Du)∧ ∃v20:AV,bL v20∧s=[u,u,u,u,u,u,u,u,u,u,v20,u,u,u,u,u,u,u,u,u,u,u,u,u,u,u,u,u,u,u,u,u,u,u,u,u,u,u,u,u,u]∧aE H (⟨v20,1,Du.map (AV.int .i64)⟩::F)) (fun Hk EO=> ?_) (fun s H hq=> ?_)
   ·refine BF fun FX Ef=> ?_;refine Cg gC Iv (fun x s H=>match x with|(Dz,D1)=> ∃Hr:AV,bL Hr∧s=[u,.int .i64 a1,.int .i64 a2,u,u,u,u,u,u,u,Hr,u,u,u,u,u,u,u,u,u,u,u,u,u,.int .i64 a3,.int .i64 D1,u,u,u,u,u,u,u,u,u,u,u,u,u,u,u]∧aE H (⟨Hr,1,Dz.map (AV.int .i64)⟩::F)) ⟨_,zJ,rfl,(hS.Cv 1)⟩ (fun x Iw s H h Ix hi FW DT=> ?_)
    obtain ⟨Dz,D1⟩:=x;try dsimp only at hi
    obtain ⟨Hr,JX,rfl,hS⟩:=hi;simp only [GX] at h;refine BE fun Hn Ee=> ?_;refine BX gC ?_;try simp only [W,EE,Nat.reduceAdd]
    refine BL Ee ?_;refine BE fun Hl D6=> ?_;refine BJ ?_;simp only [W];refine BW h (fun hc h=> ?_) (fun hc h=> ?_)
    ·refine BG ?_;refine BL D6 ?_;refine BE fun Hs EU=> ?_;refine BF fun JY GF=> ?_;refine BE fun LF Iy=> ?_;refine BX gC ?_;try simp only [W,Nat.reduceAdd]
     refine BL Iy ?_;refine BX gC ?_;try simp only [W,EE,Nat.reduceAdd]
     refine w_num _ h fun D3 Pr h=> ?_;try simp only [W]
     refine Ce (el:=([D3]:List Int).map (AV.int .i64)) hS rfl rfl rfl rfl rfl rfl rfl fun v35 H Iz hS=> ?_;try simp only [W,EE]
     refine Ct (l:=Dz) (c:=(AV.int .i64)) 1 hS rfl JX rfl rfl rfl (hS.hM 0 rfl Iz) (fun _=>rfl) rfl h fun Ps H D0 LG hm h hS=> ?_;try simp only [W]
     refine BP GF ?_;refine BL EU ?_;refine BX gC ?_;try simp only [W,EE,Nat.reduceAdd]
     exact Ch DT h ⟨_,LG,rfl,(hS.Cy 2 [1] (by decide))⟩
    ·refine BI ?_;refine BN D6 ?_;try obtain rfl:=Option.some.inj h
     obtain rfl:=Ix _ rfl;have h:(some (Dz):Option ((List Int)))=some (Dz):=rfl;refine Ci DT ?_;refine BQ Ef ?_;exact Cl EO ⟨_,(Option.some.inj h).symm,_,JX,rfl,hS⟩
   ·obtain ⟨Du,Dr,v20,JZ,rfl,hS⟩:=hq;obtain rfl:=Dr.symm;replace h:=Fb;try dsimp only at h
    refine BL DS ?_;refine BE fun JB FQ=> ?_;refine BX gC ?_;try simp only [W,Nat.reduceAdd]
    refine Cf h fun I9 LH h=> ?_;refine LC LH hS JZ fun H hS=> ?_;try simp only [W]
    refine BL FQ ?_;refine BE fun Pt LI=> ?_;refine BX gC ?_;try simp only [W,Nat.reduceAdd]
    refine Cf h fun I_ LJ h=> ?_;refine LD LJ hS JZ fun v46 LK H hS=> ?_;try simp only [W]
    refine BL LI ?_;refine BH ?_;refine BT Dm rfl rfl ?_;try obtain rfl:=Option.some.inj h
    exact hP _ LK _ hS
theorem LL {a0:List Int} {a1:Int} {r:(Bool)} (h:Gi a0 a1=some r) {F:List It} {H:J} (hS:aE H (F)) {P:AV→J→Prop} (hP: ∀H',aE H' (F)→P (.bool r) H'):au C 27 [.fz (a0.map (AV.int .i64)),.int .i64 a1] H P:=by
 refine B0 gC (res:=[.tmp 4]) (n:=17) rfl rfl rfl rfl fun K0 Dm=> ?_;simp only [W,Nat.reduceSub,Nat.reduceAdd,List.replicate];unfold Gi at h;refine BE fun K1 Dp=> ?_;refine BX gC ?_;try simp only [W,Nat.reduceAdd]
 refine BL Dp ?_;refine BE fun K2 zu=> ?_;refine BE fun K3 DE=> ?_;refine BX gC ?_;try simp only [W,EE,Nat.reduceAdd]
 refine BL DE ?_;obtain ⟨Fz,LM,g12⟩:=Option.bind_eq_some_iff.1 h;refine Ck gC (fun s H=>Fz=LR.next ()∧s=[u,u,u,u,u,u,u,u,u,u,u,u,u,u,u,u,u]∧aE H (F)) (fun K7 DQ=> ?_) (fun s H hq=> ?_)
 ·refine BF fun K8 DG=> ?_;refine Cg gC LM (fun x s H=>s=[u,.int .i64 a1,u,u,u,u,u,.fz (a0.map (AV.int .i64)),.int .i64 (a0.length:Int),.int .i64 x,u,u,u,u,u,u,u]∧aE H (F)) ⟨rfl,hS⟩ (fun Dx JK s H h J0 hi K9 Ev=> ?_)
  skip
  try dsimp only at hi
  obtain ⟨rfl,hS⟩:=hi;simp only [GY] at h;refine BE fun E7 DS=> ?_;refine BX gC ?_;try simp only [W,EE,Nat.reduceAdd]
  refine BL DS ?_;refine BE fun Hc EL=> ?_;refine BJ ?_;simp only [W];refine BW h (fun hc h=> ?_) (fun hc h=> ?_)
  ·refine BG ?_;refine BL EL ?_;refine BE fun H4 ER=> ?_;refine BF fun Hd EM=> ?_;refine BE fun FM DX=> ?_;refine BX gC ?_;try simp only [W,EE,Nat.reduceAdd]
   refine B_ rfl rfl rfl (fun _=>rfl) h fun Ja Pu h=> ?_;try simp only [W,EE]
   refine BL DX ?_;refine BE fun FU D5=> ?_;refine BX gC ?_;try simp only [W,EE,Nat.reduceAdd]
   refine BL D5 ?_;refine BJ ?_;simp only [W];refine BW h (fun hc h=> ?_) (fun hc h=> ?_)
   ·refine BE fun FN D4=> ?_;refine BX gC ?_;try simp only [W,Nat.reduceAdd]
    refine BL D4 ?_;refine BH ?_;refine BR EM ?_;refine BM ER ?_;try obtain rfl:=Option.some.inj h
    obtain rfl:=J0 _ rfl;have h:(some (LR.done true):Option (LR Unit (Bool)))=some (LR.done true):=rfl;refine Cj Ev ?_;refine BR DG ?_;try obtain rfl:=Option.some.inj h
    obtain rfl:=Option.some.inj g12;have h:(some true:Option (Bool))=some true:=rfl;refine Cm DQ ?_;refine BM zu ?_;refine BS Dm rfl ?_;try obtain rfl:=Option.some.inj h
    exact hP _ hS
   ·refine BG ?_;refine BP EM ?_;refine BL ER ?_;refine BX gC ?_;try simp only [W,EE,Nat.reduceAdd]
    exact Ch Ev h ⟨rfl,hS⟩
  ·refine BI ?_;refine BN EL ?_;try obtain rfl:=Option.some.inj h
   obtain rfl:=J0 _ rfl;have h:(some (LR.next ()):Option (LR Unit (Bool)))=some (LR.next ()):=rfl
   refine Ci Ev ?_;refine BQ DG ?_;exact Cl DQ ⟨(Option.some.inj h).symm,rfl,hS⟩
 ·obtain ⟨rfl,rfl,hS⟩:=hq;replace h:=g12;try dsimp only at h
  refine BL zu ?_;refine BE fun Hg ES=> ?_;refine BX gC ?_;try simp only [W,Nat.reduceAdd]
  refine BL ES ?_;refine BH ?_;refine BS Dm rfl ?_;try obtain rfl:=Option.some.inj h
  exact hP _ hS
theorem LN {a0:List Int} {r:(List UInt8×Int)} (h:Gj a0=some r) {F:List It} {H:J} (hS:aE H (F)) {P:AV→J→Prop} (hP: ∀H',aE H' (F)→P (.ay [.str r.1,.int .i64 r.2]) H'):au C 28 [.fz (a0.map (AV.int .u8))] H P:=by
 refine B0 gC (res:=[.tmp 2,.tmp 3]) (n:=8) rfl rfl rfl rfl fun K0 Dm=> ?_;simp only [W,Nat.reduceSub,Nat.reduceAdd,List.replicate];unfold Gj at h;refine BE fun K1 Dp=> ?_;refine BX gC ?_;try simp only [W,Nat.reduceAdd]
 refine BL Dp ?_;refine BE fun K2 zu=> ?_;refine BX gC ?_;try simp only [W,Nat.reduceAdd]
 refine Cf h fun b3 kA h=> ?_;obtain ⟨DB,Ei⟩:=b3;try dsimp only at h
 refine JF kA hS fun H hS=> ?_;try simp only [W]
 refine BL zu ?_;refine BH ?_;refine BT Dm rfl rfl ?_;try obtain rfl:=Option.some.inj h
 exact hP _ hS
theorem LO {a0:List UInt8} {a1:Int} {r:(List UInt8×Bool)} (h:Gk a0 a1=some r) {F:List It} {H:J} (hS:aE H (F)) {P:AV→J→Prop} (hP: ∀H',aE H' (F)→P (.ay [.str r.1,.bool r.2]) H'):au C 29 [.str a0,.int .i64 a1] H P:=by
 refine B0 gC (res:=[.tmp 4,.tmp 5]) (n:=43) rfl rfl rfl rfl fun K0 Dm=> ?_;simp only [W,Nat.reduceSub,Nat.reduceAdd,List.replicate];unfold Gk at h;refine BE fun K1 Dp=> ?_;refine BX gC ?_;try simp only [W,Nat.reduceAdd]
 refine BL Dp ?_;refine BE fun K2 zu=> ?_;refine BE fun K3 DE=> ?_;refine BX gC ?_;try simp only [W,EE,Nat.reduceAdd]
 refine Cf h fun DB EH h=> ?_;refine Ig EH hS fun H hS=> ?_;try simp only [W]
 refine BL DE ?_;refine BJ ?_;simp only [W];refine BW h (fun hc h=> ?_) (fun hc h=> ?_)
 ·refine BE fun K5 DM=> ?_;refine BX gC ?_;try simp only [W,Nat.reduceAdd]
  refine BL DM ?_;refine BH ?_;refine BM zu ?_;refine BT Dm rfl rfl ?_;try obtain rfl:=Option.some.inj h
  exact hP _ hS
 ·refine BG ?_;refine BL zu ?_;refine BE fun K6 EA=> ?_;refine BX gC ?_;try simp only [W,EE,Nat.reduceAdd]
  refine w_num _ h fun Dy Ll h=> ?_;try simp only [W]
  refine BL EA ?_;refine BE fun K8 DG=> ?_;refine BX gC ?_;try simp only [W,EE,Nat.reduceAdd]
  refine Cs (c:=(AV.int .u8)) hS rfl rfl rfl rfl rfl rfl h fun v9 H DN Fw hm h hS=> ?_;try simp only [W]
  refine BL DG ?_;refine BE fun EQ DL=> ?_;refine BE fun E7 DS=> ?_;refine BX gC ?_;try simp only [W,EE,Nat.reduceAdd]
  refine Cc 0 hS rfl Fw rfl ?_;try simp only [W]
  refine BL DS ?_;obtain ⟨Hj,Ih,g24⟩:=Option.bind_eq_some_iff.1 h;refine Ck gC (fun s H=> ∃DC:List Int,Hj=(DC)∧s=[u,u,u,u,u,u,u,v9,u,u,u,u,u,u,u,u,u,u,u,u,u,u,u,u,u,u,u,u,u,u,u,u,u,u,u,u,u,u,u,u,u,u,u]∧aE H (⟨v9,1,DC.map (AV.int .u8)⟩::F)) (fun FU D5=> ?_) (fun s H hq=> ?_)
  ·refine BF fun FN D4=> ?_;refine Cg gC Ih (fun x s H=>match x with|(Dv,Dz)=>s=[.str a0,.int .i64 a1,u,u,u,u,.int .i64 Dy,v9,u,u,u,u,u,u,u,u,u,u,u,u,u,u,.int .i64 (DN.length:Int),.int .i64 Dz,u,u,u,u,u,u,u,u,u,u,u,u,u,u,u,u,u,u,u]∧aE H (⟨v9,1,Dv.map (AV.int .u8)⟩::F)) ⟨rfl,hS⟩ (fun x Ln s H h Ii hi Hf Ez=> ?_)
   obtain ⟨Dv,Dz⟩:=x;try dsimp only at hi
   obtain ⟨rfl,hS⟩:=hi;simp only [GZ] at h;refine BE fun FW DT=> ?_;refine BX gC ?_;try simp only [W,EE,Nat.reduceAdd]
   refine BL DT ?_;refine BE fun Hm EB=> ?_;refine BJ ?_;simp only [W];refine BW h (fun hc h=> ?_) (fun hc h=> ?_)
   ·refine BG ?_;refine BL EB ?_;refine BE fun Hg ES=> ?_;refine BF fun Jy GC=> ?_;refine BE fun Hn Ee=> ?_;refine BX gC ?_;try simp only [W,Nat.reduceAdd]
    refine BL Ee ?_;refine CC gC [(14,[])] (by kernel_rfl) rfl (by kernel_rfl) ?_
    try simp only [W,EE,reduceIte,Nat.reduceAdd,iJ,lu,Nat.reduceEqDiff]
    refine w_num _ h fun D_ Lo h=> ?_;try simp only [W,EE]
    refine w_num _ h fun Ea Lp h=> ?_;try simp only [W,EE]
    refine B9 h fun EC Ij h=> ?_;try simp only [W,EE]
    refine Ca 0 hS rfl rfl rfl rfl rfl h (fun Es JN JO JP Fx h Fy=> ?_) Fw.ne;obtain ⟨JQ,Ik,Il⟩:=hS.elem 0 rfl Fy Fx;try simp only [W]
    refine Cb (a:= .int .u8 (EC.toNat:Int)) (y' :=(EC.toNat:Int)) 0 hS rfl Fy Fx rfl rfl rfl rfl rfl rfl rfl fun H hS=> ?_
    try simp only [W]
    refine BP GC ?_;refine BL ES ?_;refine BX gC ?_;try simp only [W,EE,Nat.reduceAdd]
    exact Ch Ez h ⟨rfl,hS⟩
   ·refine BI ?_;refine BN EB ?_;try obtain rfl:=Option.some.inj h
    obtain rfl:=Ii _ rfl;have h:(some (Dv):Option ((List Int)))=some (Dv):=rfl;refine Ci Ez ?_;refine BQ D4 ?_;exact Cl D5 ⟨_,(Option.some.inj h).symm,rfl,hS⟩
  ·obtain ⟨DC,Dr,rfl,hS⟩:=hq;obtain rfl:=Dr.symm;replace h:=g24;try dsimp only at h
   refine BL DL ?_;refine BE fun Lq Im=> ?_;refine BX gC ?_;try simp only [W,EE,Nat.reduceAdd]
   refine Cq rfl rfl rfl rfl rfl rfl rfl (hS.hM 0 rfl Fw) (hS.zK 0 rfl) ?_;try simp only [W]
   refine BL Im ?_;refine BH ?_;refine BT Dm rfl rfl ?_;try obtain rfl:=Option.some.inj h
   exact hP _ (hS.Cy 1 [] (by decide))
theorem LP {a0:List Int} {r:(List UInt8×Int×Int)} (h:Gl a0=some r) {F:List It} {H:J} (hS:aE H (F)) {P:AV→J→Prop} (hP: ∀H',aE H' (F)→P (.ay [.str r.1,.int .i64 r.2.1,.int .i64 r.2.2]) H'):au C 30 [.fz (a0.map (AV.int .u8))] H P:=by
 refine B0 gC (res:=[.tmp 2,.tmp 3,.tmp 4]) (n:=25) rfl rfl rfl rfl fun K0 Dm=> ?_;simp only [W,Nat.reduceSub,Nat.reduceAdd,List.replicate];unfold Gl at h;refine BE fun K1 Dp=> ?_;refine BX gC ?_;try simp only [W,Nat.reduceAdd]
 refine BL Dp ?_;refine BE fun K2 zu=> ?_;refine BX gC ?_;try simp only [W,EE,Nat.reduceAdd]
 refine CB rfl rfl rfl rfl rfl ?_;try simp only [W]
 refine B5 hS rfl rfl rfl rfl fun JG JH H hS=> ?_;try simp only [W]
 refine BL zu ?_;refine BE fun K5 DM=> ?_;refine BX gC ?_;try simp only [W,Nat.reduceAdd]
 refine Cf h fun DH Ey h=> ?_;obtain ⟨Dn,Dq,DO⟩:=DH;try dsimp only at h
 refine H9 Ey hS fun H hS=> ?_;try simp only [W]
 refine BL DM ?_;refine BE fun FL Ed=> ?_;refine BX gC ?_;try simp only [W,EE,Nat.reduceAdd]
 refine Cf h fun Dw Fv h=> ?_;obtain ⟨Er,EY⟩:=Dw;try dsimp only at h
 refine E8 Fv hS fun H hS=> ?_;try simp only [W,EE]
 refine Cf h fun Ft Fu h=> ?_;obtain ⟨Eo,Ep⟩:=Ft;try dsimp only at h
 refine E8 Fu hS fun H hS=> ?_;try simp only [W]
 refine BL Ed ?_;refine BH ?_;refine BU Dm rfl rfl rfl ?_;try obtain rfl:=Option.some.inj h
 exact hP _ (hS.Cy 1 [] (by decide))
theorem LQ {a0:List UInt8} {a1:Int} {a2:Int} {r:(List UInt8×Bool)} (h:Gm a0 a1 a2=some r) {F:List It} {H:J} (hS:aE H (F)) {P:AV→J→Prop} (hP: ∀H',aE H' (F)→P (.ay [.str r.1,.bool r.2]) H'):au C 31 [.str a0,.int .i64 a1,.int .i64 a2] H P:=by
 refine B0 gC (res:=[.tmp 6,.tmp 7]) (n:=47) rfl rfl rfl rfl fun K0 Dm=> ?_;simp only [W,Nat.reduceSub,Nat.reduceAdd,List.replicate];unfold Gm at h;refine BE fun K1 Dp=> ?_;refine BX gC ?_;try simp only [W,Nat.reduceAdd]
 refine BL Dp ?_;refine BE fun K2 zu=> ?_;refine BE fun K3 DE=> ?_;obtain ⟨Fz,h,g6⟩:=Option.bind_eq_some_iff.1 h;refine Ck gC (fun s H=> ∃Dx:Bool,Fz=(Dx)∧s=[.str a0,.int .i64 a1,.int .i64 a2,u,u,u,u,u,u,u,u,u,u,u,u,u,u,u,u,u,u,u,u,u,u,u,u,u,.bool Dx,u,u,u,u,u,u,u,u,u,u,u,u,u,u,u,u,u,u]∧aE H (F)) (fun K7 DQ=> ?_) (fun s H hq=> ?_)
 ·refine BE fun K8 DG=> ?_;refine BX gC ?_;try simp only [W,EE,Nat.reduceAdd]
  refine CA h (fun hc h=> ?_) (fun hc h=> ?_)
  ·try simp only [W,hc]
   refine BL DG ?_;refine BK ?_;exact Cl DQ ⟨_,(Option.some.inj h).symm,rfl,hS⟩
  ·try simp only [W,EE,hc]
   refine Cf h fun DO Fs h=> ?_;refine FV Fs hS fun H hS=> ?_;try simp only [W,reduceIte,Bool.false_eq_true]
   refine CA h (fun hc h=> ?_) (fun hc h=> ?_)
   ·try simp only [W,hc]
    refine BL DG ?_;refine BK ?_;exact Cl DQ ⟨_,(Option.some.inj h).symm,rfl,hS⟩
   ·try simp only [W,EE,hc]
    refine Cf h fun DK E6 h=> ?_;refine FV E6 hS fun H hS=> ?_;try simp only [W,reduceIte,Bool.false_eq_true]
    refine BL DG ?_;refine BK ?_;exact Cl DQ ⟨_,(Option.some.inj h).symm,rfl,hS⟩
 ·obtain ⟨Dx,Dr,rfl,hS⟩:=hq;obtain rfl:=Dr.symm;replace h:=g6;try dsimp only at h
  refine BL DE ?_;refine BJ ?_;simp only [W];refine BW h (fun hc h=> ?_) (fun hc h=> ?_)
  ·refine BE fun GA Ew=> ?_;refine BX gC ?_;try simp only [W,Nat.reduceAdd]
   refine BL Ew ?_;refine BH ?_;refine BM zu ?_;refine BT Dm rfl rfl ?_;try obtain rfl:=Option.some.inj h
   exact hP _ hS
  ·refine BG ?_;refine BL zu ?_;refine BE fun EQ DL=> ?_;refine BX gC ?_;try simp only [W,EE,Nat.reduceAdd]
   refine Cp hS rfl rfl rfl rfl rfl rfl rfl h fun Ht H DV IA hb h hS=> ?_;try simp only [W]
   refine BL DL ?_;refine BE fun Hd EM=> ?_;refine BE fun FM DX=> ?_;refine BX gC ?_;try simp only [W,Nat.reduceAdd]
   refine BL DX ?_;obtain ⟨Hq,Iv,Fb⟩:=Option.bind_eq_some_iff.1 h;refine Ck gC (fun s H=> ∃ED:List Int,Hq=(ED)∧s=[u,u,u,u,u,u,u,u,Ht,u,u,u,u,u,u,u,u,u,u,u,u,u,u,u,u,u,u,u,u,u,u,u,u,u,u,u,u,u,u,u,u,u,u,u,u,u,u]∧aE H (⟨Ht,1,ED.map (AV.int .u8)⟩::F)) (fun Hk EO=> ?_) (fun s H hq=> ?_)
   ·refine BF fun FX Ef=> ?_;refine Cg gC Iv (fun x s H=>match x with|(D1,Du)=>s=[u,.int .i64 a1,.int .i64 a2,u,u,u,u,u,Ht,.int .i64 Du,u,u,u,u,u,u,u,u,u,u,u,u,u,u,u,u,u,u,u,u,u,u,u,u,u,u,u,u,u,u,u,u,u,u,u,u,u]∧aE H (⟨Ht,1,D1.map (AV.int .u8)⟩::F)) ⟨rfl,hS⟩ (fun x Iw s H h Ix hi FW DT=> ?_)
    obtain ⟨D1,Du⟩:=x;try dsimp only at hi
    obtain ⟨rfl,hS⟩:=hi;simp only [G0] at h;refine BE fun Hn Ee=> ?_;refine BE fun Hl D6=> ?_;refine BX gC ?_;try simp only [W,EE,Nat.reduceAdd]
    refine BL D6 ?_;refine BJ ?_;simp only [W];refine BW h (fun hc h=> ?_) (fun hc h=> ?_)
    ·refine BG ?_;refine BL Ee ?_;refine BE fun Hs EU=> ?_;refine BF fun JY GF=> ?_;refine BX gC ?_;try simp only [W,EE,Nat.reduceAdd]
     refine Ca 0 hS rfl rfl rfl rfl rfl h (fun Es JN JO JP Fx h Fy=> ?_) IA.ne;obtain ⟨JQ,Ik,Il⟩:=hS.elem 0 rfl Fy Fx;try simp only [W,EE,Ik,Il]
     refine Ca 0 hS rfl rfl rfl rfl rfl h (fun Pv Pw Px Py J1 h J2=> ?_) IA.ne;obtain ⟨Pz,PA,PB⟩:=hS.elem 0 rfl J2 J1;try simp only [W]
     refine Cb (a:= .int .u8 (zU .u8 Es 255)) (y' :=(zU .u8 Es 255)) 0 hS rfl J2 J1 rfl rfl rfl rfl rfl rfl rfl fun H hS=> ?_
     try simp only [W]
     refine BP GF ?_;refine BL EU ?_;refine BX gC ?_;try simp only [W,EE,Nat.reduceAdd]
     exact Ch DT h ⟨rfl,hS⟩
    ·refine BI ?_;refine BN Ee ?_;try obtain rfl:=Option.some.inj h
     obtain rfl:=Ix _ rfl;have h:(some (D1):Option ((List Int)))=some (D1):=rfl;refine Ci DT ?_;refine BQ Ef ?_;exact Cl EO ⟨_,(Option.some.inj h).symm,rfl,hS⟩
   ·obtain ⟨ED,Dr,rfl,hS⟩:=hq;obtain rfl:=Dr.symm;replace h:=Fb;try dsimp only at h
    refine BL EM ?_;refine BE fun LS IB=> ?_;refine BX gC ?_;try simp only [W,EE,Nat.reduceAdd]
    refine Cq rfl rfl rfl rfl rfl rfl rfl (hS.hM 0 rfl IA) (hS.zK 0 rfl) ?_;try simp only [W]
    refine BL IB ?_;refine BH ?_;refine BT Dm rfl rfl ?_;try obtain rfl:=Option.some.inj h
    exact hP _ (hS.Cy 1 [] (by decide))
theorem LU {a0:List Int} {r:(Int×Int×Int×Int)} (h:Gn a0=some r) {F:List It} {H:J} (hS:aE H (F)) {P:AV→J→Prop} (hP: ∀H',aE H' (F)→P (.ay [.int .i64 r.1,.int .i64 r.2.1,.int .i64 r.2.2.1,.int .i64 r.2.2.2]) H'):au C 32 [.fz (a0.map (AV.int .u8))] H P:=by
 refine B0 gC (res:=[.tmp 2,.tmp 3,.tmp 4,.tmp 5]) (n:=27) rfl rfl rfl rfl fun K0 Dm=> ?_;simp only [W,Nat.reduceSub,Nat.reduceAdd,List.replicate];unfold Gn at h;refine BE fun K1 Dp=> ?_;refine BX gC ?_;try simp only [W,Nat.reduceAdd]
 refine BL Dp ?_;refine BE fun K2 zu=> ?_;refine BX gC ?_;try simp only [W,EE,Nat.reduceAdd]
 refine CB rfl rfl rfl rfl rfl ?_;try simp only [W]
 refine B5 hS rfl rfl rfl rfl fun JG JH H hS=> ?_;try simp only [W]
 refine BL zu ?_;refine BE fun K5 DM=> ?_;refine BX gC ?_;try simp only [W,Nat.reduceAdd]
 refine Cf h fun DH Ey h=> ?_;obtain ⟨Dn,Dq,DO⟩:=DH;try dsimp only at h
 refine H9 Ey hS fun H hS=> ?_;try simp only [W]
 refine BL DM ?_;refine BE fun FL Ed=> ?_;refine BX gC ?_;try simp only [W,EE,Nat.reduceAdd]
 refine Cf h fun Dw Fv h=> ?_;obtain ⟨Er,EY⟩:=Dw;try dsimp only at h
 refine E8 Fv hS fun H hS=> ?_;try simp only [W]
 refine Cf h fun Ft Fu h=> ?_;obtain ⟨Eo,Ep⟩:=Ft;try dsimp only at h
 refine E8 Fu hS fun H hS=> ?_;try simp only [W]
 refine BL Ed ?_;refine BH ?_;refine BV Dm rfl rfl rfl rfl ?_;try obtain rfl:=Option.some.inj h
 exact hP _ (hS.Cy 1 [] (by decide))
theorem LV {a0:Int} {a1:Int} {a2:Int} {a3:Int} {r:(List Int×Bool)} (h:Gr a0 a1 a2 a3=some r) {F:List It} {H:J} (hS:aE H (F)) {P:AV→J→Prop} (hP: ∀v85:AV,bL v85→ ∀H',aE H' (⟨v85,1,r.1.map (AV.int .i64)⟩::F)→P (.ay [v85,.bool r.2]) H'):au C 33 [.int .i64 a0,.int .i64 a1,.int .i64 a2,.int .i64 a3] H P:=by
 refine B0 gC (res:=[.tmp 8,.tmp 9]) (n:=59) rfl rfl rfl rfl fun K0 Dm=> ?_;simp only [W,Nat.reduceSub,Nat.reduceAdd,List.replicate];unfold Gr at h;refine BE fun K1 Dp=> ?_;refine BX gC ?_;try simp only [W,Nat.reduceAdd]
 refine BL Dp ?_;refine BE fun K2 zu=> ?_;refine BE fun K3 DE=> ?_;obtain ⟨Fz,h,g6⟩:=Option.bind_eq_some_iff.1 h;refine Ck gC (fun s H=> ∃Dx:Bool,Fz=(Dx)∧s=[u,.int .i64 a1,.int .i64 a2,.int .i64 a3,u,u,u,u,u,u,u,u,u,u,u,u,u,u,u,u,u,u,u,u,u,u,u,u,u,u,u,.bool Dx,u,u,u,u,u,u,u,u,u,u,u,u,u,u,u,u,u,u,u,u,u,u,u,u,u,u,u]∧aE H (F)) (fun K7 DQ=> ?_) (fun s H hq=> ?_)
 ·refine BE fun K8 DG=> ?_;refine BX gC ?_;try simp only [W,Nat.reduceAdd]
  refine Cf h fun DO Fs h=> ?_;refine Ig Fs hS fun H hS=> ?_;try simp only [W]
  refine CA h (fun hc h=> ?_) (fun hc h=> ?_)
  ·try simp only [W,hc]
   refine BL DG ?_;refine BK ?_;exact Cl DQ ⟨_,(Option.some.inj h).symm,rfl,hS⟩
  ·try simp only [W,hc]
   refine Cf h fun DK E6 h=> ?_;refine FV E6 hS fun H hS=> ?_;try simp only [W,reduceIte,Bool.false_eq_true]
   refine CA h (fun hc h=> ?_) (fun hc h=> ?_)
   ·try simp only [W,hc]
    refine BL DG ?_;refine BK ?_;exact Cl DQ ⟨_,(Option.some.inj h).symm,rfl,hS⟩
   ·try simp only [W,EE,hc]
    refine Cf h fun Dw Fv h=> ?_;refine FV Fv hS fun H hS=> ?_;try simp only [W,reduceIte,Bool.false_eq_true]
    refine BL DG ?_;refine BK ?_;exact Cl DQ ⟨_,(Option.some.inj h).symm,rfl,hS⟩
 ·obtain ⟨Dx,Dr,rfl,hS⟩:=hq;obtain rfl:=Dr.symm;replace h:=g6;try dsimp only at h
  refine BL DE ?_;refine BJ ?_;simp only [W];refine BW h (fun hc h=> ?_) (fun hc h=> ?_)
  ·refine BE fun EQ DL=> ?_;refine BX gC ?_;try simp only [W,Nat.reduceAdd]
   refine BL DL ?_;refine BH ?_;refine BM zu ?_;refine BT Dm rfl rfl ?_;try obtain rfl:=Option.some.inj h
   exact hP _ zI _ (hS.Cu 1)
  ·refine BG ?_;refine BL zu ?_;refine BE fun E7 DS=> ?_;refine BX gC ?_;try simp only [W,Nat.reduceAdd]
   refine BL DS ?_;refine BE fun Hc EL=> ?_;refine BE fun H4 ER=> ?_;refine BX gC ?_;try simp only [W,Nat.reduceAdd]
   refine BL ER ?_;obtain ⟨LW,LX,LY⟩:=Option.bind_eq_some_iff.1 h;refine Ck gC (fun s H=> ∃ED:List Int,LW=(ED)∧ ∃v21:AV,bL v21∧s=[u,u,u,u,u,u,u,u,u,u,v21,u,u,u,u,u,u,u,u,u,u,u,u,u,u,u,u,u,u,u,u,u,u,u,u,u,u,u,u,u,u,u,u,u,u,u,u,u,u,u,u,u,u,u,u,u,u,u,u]∧aE H (⟨v21,1,ED.map (AV.int .i64)⟩::F)) (fun FX Ef=> ?_) (fun s H hq=> ?_)
   ·refine BF fun FW DT=> ?_;refine Cg gC LX (fun x s H=>match x with|(DC,Du)=> ∃v17:AV,bL v17∧s=[u,.int .i64 a1,.int .i64 a2,.int .i64 a3,u,u,u,u,u,u,v17,.int .i64 Du,u,u,u,u,u,u,u,u,u,u,u,u,u,u,u,u,u,u,u,u,u,u,u,u,u,u,u,u,u,u,u,u,u,u,u,u,u,u,u,u,u,u,u,u,u,u,u]∧aE H (⟨v17,1,DC.map (AV.int .i64)⟩::F)) ⟨_,zI,rfl,(hS.Cu 1)⟩ (fun x PC s H h LZ hi Hm EB=> ?_)
    obtain ⟨DC,Du⟩:=x;try dsimp only at hi
    obtain ⟨v17,IC,rfl,hS⟩:=hi;simp only [G5] at h;refine BE fun Hl D6=> ?_;refine BE fun Hs EU=> ?_;refine BX gC ?_;try simp only [W,EE,Nat.reduceAdd]
    refine BL EU ?_;refine BJ ?_;simp only [W];refine BW h (fun hc h=> ?_) (fun hc h=> ?_)
    ·refine BG ?_;refine BL D6 ?_;refine BE fun JY GF=> ?_;obtain ⟨L3,h,L4⟩:=Option.bind_eq_some_iff.1 h;refine Ck gC (fun s H=> ∃D3:List Int,L3=(D3)∧ ∃v35:AV,bL v35∧s=[u,.int .i64 a1,.int .i64 a2,.int .i64 a3,u,u,u,u,u,u,v35,.int .i64 Du,u,u,u,u,u,u,u,u,u,u,u,u,u,u,u,u,u,u,u,u,u,u,u,u,u,u,u,u,u,u,u,u,u,u,u,u,u,u,u,u,u,u,u,u,u,u,u]∧aE H (⟨v35,1,D3.map (AV.int .i64)⟩::F)) (fun PD L5=> ?_) (fun s H hq=> ?_)
     ·refine BF fun LF Iy=> ?_;refine BE fun LS IB=> ?_;refine BX gC ?_;try simp only [W,Nat.reduceAdd]
      refine BL IB ?_;refine BE fun Jz FO=> ?_;refine BE fun JA FP=> ?_;refine BX gC ?_;try simp only [W,Nat.reduceAdd]
      refine BL FP ?_;obtain ⟨L6,L7,L8⟩:=Option.bind_eq_some_iff.1 h;refine Ck gC (fun s H=> ∃Gq:Bool,L6=(Gq)∧s=[u,.int .i64 a1,.int .i64 a2,.int .i64 a3,u,u,u,u,u,u,v17,.int .i64 Du,.bool Gq,u,u,u,u,u,u,u,u,u,u,u,u,u,u,u,u,u,u,u,u,u,u,u,u,u,u,u,u,u,u,u,u,u,u,u,u,u,u,u,u,u,u,u,u,u,u]∧aE H (⟨v17,1,DC.map (AV.int .i64)⟩::F)) (fun K_ Hh=> ?_) (fun s H hq=> ?_)
      ·refine BF fun JC Fa=> ?_;refine Cg gC L7 (fun x s H=>match x with|(Fk,E2)=>s=[u,.int .i64 a1,.int .i64 a2,.int .i64 a3,u,u,u,u,u,u,v17,.int .i64 Du,.bool Fk,.int .i64 E2,u,u,u,u,u,u,u,u,u,u,u,u,u,u,u,u,u,u,u,u,u,u,u,u,u,u,u,u,u,u,u,u,u,u,u,u,u,u,u,u,u,u,u,u,u]∧aE H (⟨v17,1,DC.map (AV.int .i64)⟩::F)) ⟨rfl,hS⟩ (fun x PE s H h L9 hi JD ET=> ?_)
       obtain ⟨Fk,E2⟩:=x;try dsimp only at hi
       obtain ⟨rfl,hS⟩:=hi;simp only [G3] at h;refine BE fun L_ Hu=> ?_;refine BE fun PF Ma=> ?_;refine BX gC ?_;try simp only [W,EE,Nat.reduceAdd]
       refine BL Ma ?_;refine BJ ?_;simp only [W];refine BW h (fun hc h=> ?_) (fun hc h=> ?_)
       ·refine BG ?_;refine BL Hu ?_;refine BE fun PG Mb=> ?_;obtain ⟨Mc,h,Md⟩:=Option.bind_eq_some_iff.1 h;refine Ck gC (fun s H=> ∃Gp:Bool,Mc=(Gp)∧s=[u,.int .i64 a1,.int .i64 a2,.int .i64 a3,u,u,u,u,u,u,v17,.int .i64 Du,.bool Gp,.int .i64 E2,u,u,u,u,u,u,u,u,u,u,u,u,u,u,u,u,u,u,u,u,u,u,u,u,u,u,u,u,u,u,u,u,u,u,u,u,u,u,u,u,u,u,u,u,u]∧aE H (⟨v17,1,DC.map (AV.int .i64)⟩::F)) (fun PH Me=> ?_) (fun s H hq=> ?_)
        ·refine BF fun Mf ID=> ?_;obtain ⟨Mg,h,Mh⟩:=Option.bind_eq_some_iff.1 h;refine Ck gC (fun s H=> ∃Fl:Bool,Mg=(Fl)∧s=[u,.int .i64 a1,.int .i64 a2,.int .i64 a3,u,u,u,u,u,u,v17,.int .i64 Du,.bool Fl,.int .i64 E2,u,u,u,u,u,u,u,u,u,u,u,u,u,u,u,u,u,u,u,u,u,u,u,u,u,u,u,u,u,u,u,u,u,u,u,u,u,u,u,u,u,u,u,u,u]∧aE H (⟨v17,1,DC.map (AV.int .i64)⟩::F)) (fun PI J3=> ?_) (fun s H hq=> ?_)
         ·refine BE fun PJ J4=> ?_;refine BX gC ?_;try simp only [W,Nat.reduceAdd]
          refine CA h (fun hc h=> ?_) (fun hc h=> ?_)
          ·try simp only [W,hc]
           refine BL J4 ?_;refine BK ?_;exact Cl J3 ⟨_,(Option.some.inj h).symm,rfl,hS⟩
          ·try simp only [W,EE,hc]
           refine w_num _ h fun G4 PK h=> ?_;try simp only [W,EE,reduceIte,Bool.false_eq_true]
           refine BL J4 ?_;refine BK ?_;exact Cl J3 ⟨_,(Option.some.inj h).symm,rfl,hS⟩
         ·obtain ⟨Fl,Dr,rfl,hS⟩:=hq;obtain rfl:=Dr.symm;replace h:=Mh;try dsimp only at h
          refine BO ID ?_;exact Cl Me ⟨_,(Option.some.inj h).symm,rfl,hS⟩
        ·obtain ⟨Gp,Dr,rfl,hS⟩:=hq;obtain rfl:=Dr.symm;replace h:=Md;try dsimp only at h
         refine BL Mb ?_;refine BX gC ?_;try simp only [W,EE,Nat.reduceAdd]
         exact Ch ET h ⟨rfl,hS⟩
       ·refine BI ?_;refine BN Hu ?_;try obtain rfl:=Option.some.inj h
        obtain rfl:=L9 _ rfl;have h:(some (Fk):Option (Bool))=some (Fk):=rfl;refine Ci ET ?_;refine BQ Fa ?_;exact Cl Hh ⟨_,(Option.some.inj h).symm,rfl,hS⟩
      ·obtain ⟨Gq,Dr,rfl,hS⟩:=hq;obtain rfl:=Dr.symm;replace h:=L8;try dsimp only at h
       refine BL FO ?_;refine BE fun PM Mi=> ?_;refine BX gC ?_;try simp only [W,Nat.reduceAdd]
       refine BL Mi ?_;obtain ⟨Mj,h,Mk⟩:=Option.bind_eq_some_iff.1 h;refine Ck gC (fun s H=> ∃Fm:List Int,Mj=(Fm)∧ ∃Hv:AV,bL Hv∧s=[u,.int .i64 a1,.int .i64 a2,.int .i64 a3,u,u,u,u,u,u,Hv,.int .i64 Du,u,u,u,u,u,u,u,u,u,u,u,u,u,u,u,u,u,u,u,u,u,u,u,u,u,u,u,u,u,u,u,u,u,u,u,u,u,u,u,u,u,u,u,u,u,u,u]∧aE H (⟨Hv,1,Fm.map (AV.int .i64)⟩::F)) (fun PN J5=> ?_) (fun s H hq=> ?_)
       ·refine BE fun PO J6=> ?_;refine BJ ?_;simp only [W];refine BW h (fun hc h=> ?_) (fun hc h=> ?_)
        ·refine BX gC ?_;try simp only [W,Nat.reduceAdd]
         refine Ce (el:=([Du]:List Int).map (AV.int .i64)) hS rfl rfl rfl rfl rfl rfl rfl fun v77 H Ml hS=> ?_;try simp only [W,EE]
         refine Ct (l:=DC) (c:=(AV.int .i64)) 1 hS rfl IC rfl rfl rfl (hS.hM 0 rfl Ml) (fun _=>rfl) rfl h fun v80 H Et Mm hm h hS=> ?_;try simp only [W]
         refine BL J6 ?_;refine BK ?_;exact Cl J5 ⟨_,(Option.some.inj h).symm,_,Mm,rfl,(hS.Cy 2 [1] (by decide))⟩
        ·refine BG ?_;refine BL J6 ?_;refine BK ?_;exact Cl J5 ⟨_,(Option.some.inj h).symm,_,IC,rfl,hS⟩
       ·obtain ⟨Fm,Dr,Hv,Mn,rfl,hS⟩:=hq;obtain rfl:=Dr.symm;replace h:=Mk;try dsimp only at h
        refine BO Iy ?_;exact Cl L5 ⟨_,(Option.some.inj h).symm,_,Mn,rfl,hS⟩
     ·obtain ⟨D3,Dr,v35,Iz,rfl,hS⟩:=hq;obtain rfl:=Dr.symm;replace h:=L4;try dsimp only at h
      refine BL GF ?_;refine BX gC ?_;try simp only [W,EE,Nat.reduceAdd]
      exact Ch EB h ⟨_,Iz,rfl,hS⟩
    ·refine BI ?_;refine BN D6 ?_;try obtain rfl:=Option.some.inj h
     obtain rfl:=LZ _ rfl;have h:(some (DC):Option ((List Int)))=some (DC):=rfl;refine Ci EB ?_;refine BQ DT ?_;exact Cl Ef ⟨_,(Option.some.inj h).symm,_,IC,rfl,hS⟩
   ·obtain ⟨ED,Dr,v21,Mo,rfl,hS⟩:=hq;obtain rfl:=Dr.symm;replace h:=LY;try dsimp only at h
    refine BL EL ?_;refine BE fun Mp IE=> ?_;refine BX gC ?_;try simp only [W,Nat.reduceAdd]
    refine BL IE ?_;refine BH ?_;refine BT Dm rfl rfl ?_;try obtain rfl:=Option.some.inj h
    exact hP _ Mo _ hS
theorem Mq {a0:List Int} {a1:List Int} {r:(Bool)} (h:Gt a0 a1=some r) {F:List It} {H:J} (hS:aE H (F)) {P:AV→J→Prop} (hP: ∀H',aE H' (F)→P (.bool r) H'):au C 18 [.fz (a0.map (AV.int .i64)),.fz (a1.map (AV.int .i64))] H P:=by
 refine B0 gC (res:=[.tmp 4]) (n:=26) rfl rfl rfl rfl fun K0 Dm=> ?_;simp only [W,Nat.reduceSub,Nat.reduceAdd,List.replicate];unfold Gt at h;refine BE fun K1 Dp=> ?_;refine BX gC ?_;try simp only [W,Nat.reduceAdd]
 refine BL Dp ?_;refine BE fun K2 zu=> ?_;refine BE fun K3 DE=> ?_;refine BX gC ?_;try simp only [W,EE,Nat.reduceAdd]
 refine BL DE ?_;refine BJ ?_;simp only [W];refine BW h (fun hc h=> ?_) (fun hc h=> ?_)
 ·refine BE fun K4 Ec=> ?_;refine BX gC ?_;try simp only [W,Nat.reduceAdd]
  refine BL Ec ?_;refine BH ?_;refine BM zu ?_;refine BS Dm rfl ?_;try obtain rfl:=Option.some.inj h
  exact hP _ hS
 ·refine BG ?_;refine BL zu ?_;refine BE fun K5 DM=> ?_;refine BE fun K6 EA=> ?_;refine BX gC ?_;try simp only [W,EE,Nat.reduceAdd]
  refine BL EA ?_;obtain ⟨Ip,Iq,g15⟩:=Option.bind_eq_some_iff.1 h;refine Ck gC (fun s H=>Ip=LR.next ()∧s=[u,u,u,u,u,u,u,u,u,u,u,u,u,u,u,u,u,u,u,u,u,u,u,u,u,u]∧aE H (F)) (fun FL Ed=> ?_) (fun s H hq=> ?_)
  ·refine BF fun GA Ew=> ?_;refine Cg gC Iq (fun x s H=>s=[.fz (a0.map (AV.int .i64)),.fz (a1.map (AV.int .i64)),u,u,u,u,u,u,u,u,u,u,.int .i64 (a0.length:Int),.int .i64 x,u,u,u,u,u,u,u,u,u,u,u,u]∧aE H (F)) ⟨rfl,hS⟩ (fun Dy Lt s H h Ho hi EQ DL=> ?_)
   skip
   try dsimp only at hi
   obtain ⟨rfl,hS⟩:=hi;simp only [Gs] at h;refine BE fun Hd EM=> ?_;refine BX gC ?_;try simp only [W,EE,Nat.reduceAdd]
   refine BL EM ?_;refine BE fun FM DX=> ?_;refine BJ ?_;simp only [W];refine BW h (fun hc h=> ?_) (fun hc h=> ?_)
   ·refine BG ?_;refine BL DX ?_;refine BE fun He EG=> ?_;refine BF fun FU D5=> ?_;refine BE fun FN D4=> ?_;refine BX gC ?_;try simp only [W,Nat.reduceAdd]
    refine BL D4 ?_;refine BE fun Hf Ez=> ?_;refine BZ gC (by kernel_rfl) ?_
    try simp only [W,EE,Nat.reduceAdd]
    refine B_ rfl rfl rfl (fun _=>rfl) h fun Jb PP h=> ?_;try simp only [W,EE]
    refine B_ rfl rfl rfl (fun _=>rfl) h fun Ga Jx h=> ?_;try simp only [W,EE]
    refine BL Ez ?_;refine BJ ?_;simp only [W];refine BW h (fun hc h=> ?_) (fun hc h=> ?_)
    ·refine BE fun FX Ef=> ?_;refine BX gC ?_;try simp only [W,Nat.reduceAdd]
     refine BL Ef ?_;refine BH ?_;refine BR D5 ?_;refine BM EG ?_;try obtain rfl:=Option.some.inj h
     obtain rfl:=Ho _ rfl;have h:(some (LR.done false):Option (LR Unit (Bool)))=some (LR.done false):=rfl;refine Cj DL ?_;refine BR Ew ?_;try obtain rfl:=Option.some.inj h
     obtain rfl:=Option.some.inj g15;have h:(some false:Option (Bool))=some false:=rfl;refine Cm Ed ?_;refine BM DM ?_;refine BS Dm rfl ?_;try obtain rfl:=Option.some.inj h
     exact hP _ hS
    ·refine BG ?_;refine BP D5 ?_;refine BL EG ?_;refine BX gC ?_;try simp only [W,EE,Nat.reduceAdd]
     exact Ch DL h ⟨rfl,hS⟩
   ·refine BI ?_;refine BN DX ?_;try obtain rfl:=Option.some.inj h
    obtain rfl:=Ho _ rfl;have h:(some (LR.next ()):Option (LR Unit (Bool)))=some (LR.next ()):=rfl
    refine Ci DL ?_;refine BQ Ew ?_;exact Cl Ed ⟨(Option.some.inj h).symm,rfl,hS⟩
  ·obtain ⟨rfl,rfl,hS⟩:=hq;replace h:=g15;try dsimp only at h
   refine BL DM ?_;refine BE fun Hs EU=> ?_;refine BX gC ?_;try simp only [W,Nat.reduceAdd]
   refine BL EU ?_;refine BH ?_;refine BS Dm rfl ?_;try obtain rfl:=Option.some.inj h
   exact hP _ hS
theorem Mr {a0:List Int} {a1:List Int} {r:(Bool)} (h:Gy a0 a1=some r) {F:List It} {H:J} (hS:aE H (F)) {P:AV→J→Prop} (hP: ∀H',aE H' (F)→P (.bool r) H'):au C 4 [.fz (a0.map (AV.int .u8)),.fz (a1.map (AV.int .u8))] H P:=by
 refine B0 gC (res:=[.tmp 4]) (n:=280) rfl rfl rfl rfl fun K0 Dm=> ?_;simp only [W,Nat.reduceSub,Nat.reduceAdd,List.replicate];unfold Gy at h;refine BE fun K1 Dp=> ?_;refine BX gC ?_;try simp only [W,Nat.reduceAdd]
 refine BL Dp ?_;refine BE fun K2 zu=> ?_;refine BE fun K3 DE=> ?_;refine BX gC ?_;try simp only [W,EE,Nat.reduceAdd]
 refine BL DE ?_;refine BJ ?_;simp only [W];refine BW h (fun hc h=> ?_) (fun hc h=> ?_)
 ·refine BE fun K4 Ec=> ?_;refine BX gC ?_;try simp only [W,Nat.reduceAdd]
  refine BL Ec ?_;refine BH ?_;refine BM zu ?_;refine BS Dm rfl ?_;try obtain rfl:=Option.some.inj h
  exact hP _ hS
 ·refine BG ?_;refine BL zu ?_;refine BE fun K5 DM=> ?_;refine BX gC ?_;try simp only [W,Nat.reduceAdd]
  refine Cf h fun DH Ey h=> ?_;obtain ⟨Dn,Dq⟩:=DH;try dsimp only at h
  refine JF Ey hS fun H hS=> ?_;try simp only [W]
  refine BL DM ?_;refine BE fun K9 Ev=> ?_;refine BX gC ?_;try simp only [W,Nat.reduceAdd]
  refine Cf h fun DK E6 h=> ?_;obtain ⟨Dw,Er⟩:=DK;try dsimp only at h
  refine Lg E6 hS fun H hS=> ?_;try simp only [W]
  refine BL Ev ?_;refine BE fun E7 DS=> ?_;refine BX gC ?_;try simp only [W,Nat.reduceAdd]
  refine Cf h fun Ft Fu h=> ?_;obtain ⟨Eo,Ep⟩:=Ft;try dsimp only at h
  refine Lk Fu hS fun H hS=> ?_;try simp only [W]
  refine BL DS ?_;refine BE fun FM DX=> ?_;refine BE fun He EG=> ?_;obtain ⟨Ms,h,g21⟩:=Option.bind_eq_some_iff.1 h;refine Ck gC (fun s H=> ∃Du:Bool,Ms=(Du)∧s=(u:: .fz (a1.map (AV.int .u8))::u::u::u:: .str Dn:: .int .i64 Dq:: .str Dw:: .bool Er::u::u::u::u::u::u::u::u::u::u::u::u::u::u::u::u::u::u::u::u::u::u::u::u::u::u::u::u::u::u::u::u::u::u::u::u::u::u::u::u::u::u::u::u::u::u::u::u::u::u::u::u::u::u::u::u::u::u::u::u::u::u::u::u::u::u::u:: .bool Du::u::u::u::u::u::u::u::u::u::u::u::u::u::u::u::u::u::u::u::u::u::u::u::u::u::u::u::u::u::u::u::u::u::u::u::u::u::u::u::u::u::u::u::u::u::u::u::u::u::u::u::u::u::u::u::u::u::u::u::u::u::u::u::u::u::u::u::u::u::u::u::u::u::u::u::u::u::u::u::u::u::u::u::u::u::u::u::u::u::u::u::u::u::u::u::u::u::u::u::u::u::u::u::u::u::u::u::u::u::u::u::u::u::u::u::u::u::u::u::u::u::u::u::u::u::u::u::u::u::u::u::u::u::u::u::u::u::u::u::u::u::u::u::u::u::u::u::u::u::u::u::u::u::u::u::u::u::u::u::u::u::u::u::u::u::u::u::u::u::u::u::u::u::u::u::u::u::u::u::u::u::u::u::u::u::u::u::u::u::u::u::u::u::u::u::u::u::u::u::u::u::u::u::[])∧aE H (F)) (fun H8 E_=> ?_) (fun s H hq=> ?_)
  ·refine BE fun Hk EO=> ?_;refine BX gC ?_;try simp only [W,EE,Nat.reduceAdd]
   rw [B4 _ _ _ _ (h:=rfl) rfl,sT];try simp only [W]
   refine CA h (fun hc h=> ?_) (fun hc h=> ?_)
   ·try simp only [W,hc]
    refine BL EO ?_;refine CT (s' :=(u:: .fz (a1.map (AV.int .u8))::u::u::u:: .str Dn:: .int .i64 Dq:: .str Dw:: .bool Er::u::u::u::u::u::u::u::u::u::u::u::u::u::u::u::u::u::u::u::u::u::u::u::u::u::u::u::u::u::u::u::u::u::u::u::u::u::u::u::u::u::u::u::u::u::u::u::u::u::u::u::u::u::u::u::u::u::u::u::u::u::u::u::u::u::u::u:: .bool true::u::u::u::u::u::u::u::u::u::u::u::u::u::u::u::u::u::u::u::u::u::u::u::u::u::u::u::u::u::u::u::u::u::u::u::u::u::u::u::u::u::u::u::u::u::u::u::u::u::u::u::u::u::u::u::u::u::u::u::u::u::u::u::u::u::u::u::u::u::u::u::u::u::u::u::u::u::u::u::u::u::u::u::u::u::u::u::u::u::u::u::u::u::u::u::u::u::u::u::u::u::u::u::u::u::u::u::u::u::u::u::u::u::u::u::u::u::u::u::u::u::u::u::u::u::u::u::u::u::u::u::u::u::u::u::u::u::u::u::u::u::u::u::u::u::u::u::u::u::u::u::u::u::u::u::u::u::u::u::u::u::u::u::u::u::u::u::u::u::u::u::u::u::u::u::u::u::u::u::u::u::u::u::u::u::u::u::u::u::u::u::u::u::u::u::u::u::u::u::u::u::u::u::[])) rfl ?_
    exact Cl E_ ⟨_,(Option.some.inj h).symm,rfl,hS⟩
   ·try simp only [W,EE,reduceIte,Bool.false_eq_true,hc]
    refine BL EO ?_;refine CT (s' :=(u:: .fz (a1.map (AV.int .u8))::u::u::u:: .str Dn:: .int .i64 Dq:: .str Dw:: .bool Er::u::u::u::u::u::u::u::u::u::u::u::u::u::u::u::u::u::u::u::u::u::u::u::u::u::u::u::u::u::u::u::u::u::u::u::u::u::u::u::u::u::u::u::u::u::u::u::u::u::u::u::u::u::u::u::u::u::u::u::u::u::u::u::u::u::u::u:: .bool (!(Dw==Eo))::u::u::u::u::u::u::u::u::u::u::u::u::u::u::u::u::u::u::u::u::u::u::u::u::u::u::u::u::u::u::u::u::u::u::u::u::u::u::u::u::u::u::u::u::u::u::u::u::u::u::u::u::u::u::u::u::u::u::u::u::u::u::u::u::u::u::u::u::u::u::u::u::u::u::u::u::u::u::u::u::u::u::u::u::u::u::u::u::u::u::u::u::u::u::u::u::u::u::u::u::u::u::u::u::u::u::u::u::u::u::u::u::u::u::u::u::u::u::u::u::u::u::u::u::u::u::u::u::u::u::u::u::u::u::u::u::u::u::u::u::u::u::u::u::u::u::u::u::u::u::u::u::u::u::u::u::u::u::u::u::u::u::u::u::u::u::u::u::u::u::u::u::u::u::u::u::u::u::u::u::u::u::u::u::u::u::u::u::u::u::u::u::u::u::u::u::u::u::u::u::u::u::u::[])) rfl ?_
    exact Cl E_ ⟨_,(Option.some.inj h).symm,rfl,hS⟩
  ·obtain ⟨Du,Dr,rfl,hS⟩:=hq;obtain rfl:=Dr.symm;replace h:=g21;try dsimp only at h
   refine BL EG ?_;refine BJ ?_;simp only [W];refine BW h (fun hc h=> ?_) (fun hc h=> ?_)
   ·refine BE fun FX Ef=> ?_;refine BX gC ?_;try simp only [W,Nat.reduceAdd]
    refine BL Ef ?_;refine BH ?_;refine BM DX ?_;refine BS Dm rfl ?_;try obtain rfl:=Option.some.inj h
    exact hP _ hS
   ·refine BG ?_;refine BL DX ?_;refine BE fun FW DT=> ?_;refine BE fun Hm EB=> ?_;refine BX gC ?_;try simp only [W,Nat.reduceAdd]
    refine BL EB ?_;obtain ⟨Iw,h,Fb⟩:=Option.bind_eq_some_iff.1 h;refine Ck gC (fun s H=>Iw=LR.next ()∧s=(u:: .fz (a1.map (AV.int .u8))::u::u::u::u::u::u::u::u::u::u::u::u::u::u::u::u::u::u::u::u::u::u::u::u::u::u::u::u::u::u::u::u::u::u::u::u::u::u::u::u::u::u::u::u::u::u::u::u::u::u::u::u::u::u::u::u::u::u::u::u::u::u::u::u::u::u::u::u::u::u::u::u::u::u::u::u::u::u::u::u::u::u::u::u::u::u::u::u::u::u::u::u::u::u::u::u::u::u::u::u::u::u::u::u::u::u::u::u::u::u::u::u::u::u::u::u::u::u::u::u::u::u::u::u::u::u::u::u::u::u::u::u::u::u::u::u::u::u::u::u::u::u::u::u::u::u::u::u::u::u::u::u::u::u::u::u::u::u::u::u::u::u::u::u::u::u::u::u::u::u::u::u::u::u::u::u::u::u::u::u::u::u::u::u::u::u::u::u::u::u::u::u::u::u::u::u::u::u::u::u::u::u::u::u::u::u::u::u::u::u::u::u::u::u::u::u::u::u::u::u::u::u::u::u::u::u::u::u::u::u::u::u::u::u::u::u::u::u::u::u::u::u::u::u::u::u::u::u::u::u::u::u::u::u::u::u::u::u::u::u::u::u::u::u::u::u::u::u::u::u::u::u::u::u::u::u::u::u::[])∧aE H (F)) (fun Hn Ee=> ?_) (fun s H hq=> ?_)
    ·refine BE fun Hl D6=> ?_;refine BJ ?_;simp only [W];refine BW h (fun hc h=> ?_) (fun hc h=> ?_)
     ·refine BE fun Hs EU=> ?_;refine BX gC ?_;try simp only [W,Nat.reduceAdd]
      refine Cf h fun EC Ij h=> ?_;obtain ⟨Es,G8⟩:=EC;try dsimp only at h
      refine Io Ij hS fun H hS=> ?_;try simp only [W]
      refine BL EU ?_;refine BE fun PQ J7=> ?_;refine BE fun PR Mt=> ?_;obtain ⟨Ib,h,Mu⟩:=Option.bind_eq_some_iff.1 h;refine Ck gC (fun s H=> ∃D0:Bool,Ib=(D0)∧s=(u:: .fz (a1.map (AV.int .u8))::u::u::u:: .str Dn:: .int .i64 Dq:: .str Dw::u::u::u::u::u::u::u::u::u::u::u::u::u::u::u::u::u::u::u::u::u::u::u::u::u::u::u::u::u::u::u::u::u::u::u::u::u::u::u::u::u::u::u::u::u::u::u::u::u::u::u::u::u::u::u::u::u::u::u::u::u::u::u::u::u::u::u::u::u::u::u::u::u::u::u::u::u::u::u::u::u::u:: .bool D0::u::u::u::u::u::u::u::u::u::u::u::u::u::u::u::u::u::u::u::u::u::u::u::u::u::u::u::u::u::u::u::u::u::u::u::u::u::u::u::u::u::u::u::u::u::u::u::u::u::u::u::u::u::u::u::u::u::u::u::u::u::u::u::u::u::u::u::u::u::u::u::u::u::u::u::u::u::u::u::u::u::u::u::u::u::u::u::u::u::u::u::u::u::u::u::u::u::u::u::u::u::u::u::u::u::u::u::u::u::u::u::u::u::u::u::u::u::u::u::u::u::u::u::u::u::u::u::u::u::u::u::u::u::u::u::u::u::u::u::u::u::u::u::u::u::u::u::u::u::u::u::u::u::u::u::u::u::u::u::u::u::u::u::u::u::u::u::u::u::u::u::u::u::u::u::u::u::u::u::u::u::u::u::u::u::u::u::u::u::[])∧aE H (F)) (fun Jz FO=> ?_) (fun s H hq=> ?_)
      ·refine BE fun JA FP=> ?_;refine BX gC ?_;try simp only [W,Nat.reduceAdd]
       refine CA h (fun hc h=> ?_) (fun hc h=> ?_)
       ·try simp only [W,hc]
        refine BL FP ?_;refine CT (s' :=(u:: .fz (a1.map (AV.int .u8))::u::u::u:: .str Dn:: .int .i64 Dq:: .str Dw::u::u::u::u::u::u::u::u::u::u::u::u::u::u::u::u::u::u::u::u::u::u::u::u::u::u::u::u::u::u::u::u::u::u::u::u::u::u::u::u::u::u::u::u::u::u::u::u::u::u::u::u::u::u::u::u::u::u::u::u::u::u::u::u::u::u::u::u::u::u::u::u::u::u::u::u::u::u::u::u::u::u:: .bool true::u::u::u::u::u::u::u::u::u::u::u::u::u::u::u::u::u::u::u::u::u::u::u::u::u::u::u::u::u::u::u::u::u::u::u::u::u::u::u::u::u::u::u::u::u::u::u::u::u::u::u::u::u::u::u::u::u::u::u::u::u::u::u::u::u::u::u::u::u::u::u::u::u::u::u::u::u::u::u::u::u::u::u::u::u::u::u::u::u::u::u::u::u::u::u::u::u::u::u::u::u::u::u::u::u::u::u::u::u::u::u::u::u::u::u::u::u::u::u::u::u::u::u::u::u::u::u::u::u::u::u::u::u::u::u::u::u::u::u::u::u::u::u::u::u::u::u::u::u::u::u::u::u::u::u::u::u::u::u::u::u::u::u::u::u::u::u::u::u::u::u::u::u::u::u::u::u::u::u::u::u::u::u::u::u::u::u::u::u::[])) rfl ?_
        exact Cl FO ⟨_,(Option.some.inj h).symm,rfl,hS⟩
       ·try simp only [W,EE,reduceIte,Bool.false_eq_true,hc]
        refine BL FP ?_;refine CT (s' :=(u:: .fz (a1.map (AV.int .u8))::u::u::u:: .str Dn:: .int .i64 Dq:: .str Dw::u::u::u::u::u::u::u::u::u::u::u::u::u::u::u::u::u::u::u::u::u::u::u::u::u::u::u::u::u::u::u::u::u::u::u::u::u::u::u::u::u::u::u::u::u::u::u::u::u::u::u::u::u::u::u::u::u::u::u::u::u::u::u::u::u::u::u::u::u::u::u::u::u::u::u::u::u::u::u::u::u::u:: .bool (!(Es==Dn))::u::u::u::u::u::u::u::u::u::u::u::u::u::u::u::u::u::u::u::u::u::u::u::u::u::u::u::u::u::u::u::u::u::u::u::u::u::u::u::u::u::u::u::u::u::u::u::u::u::u::u::u::u::u::u::u::u::u::u::u::u::u::u::u::u::u::u::u::u::u::u::u::u::u::u::u::u::u::u::u::u::u::u::u::u::u::u::u::u::u::u::u::u::u::u::u::u::u::u::u::u::u::u::u::u::u::u::u::u::u::u::u::u::u::u::u::u::u::u::u::u::u::u::u::u::u::u::u::u::u::u::u::u::u::u::u::u::u::u::u::u::u::u::u::u::u::u::u::u::u::u::u::u::u::u::u::u::u::u::u::u::u::u::u::u::u::u::u::u::u::u::u::u::u::u::u::u::u::u::u::u::u::u::u::u::u::u::u::u::[])) rfl ?_
        exact Cl FO ⟨_,(Option.some.inj h).symm,rfl,hS⟩
      ·obtain ⟨D0,Dr,rfl,hS⟩:=hq;obtain rfl:=Dr.symm;replace h:=Mu;try dsimp only at h
       refine BL Mt ?_;refine BJ ?_;simp only [W];refine BW h (fun hc h=> ?_) (fun hc h=> ?_)
       ·refine BE fun JB FQ=> ?_;refine BX gC ?_;try simp only [W,Nat.reduceAdd]
        refine BL FQ ?_;refine BH ?_;refine BM J7 ?_;refine BM D6 ?_;try obtain rfl:=Option.some.inj h
        obtain rfl:=Option.some.inj Fb;have h:(some false:Option (Bool))=some false:=rfl;refine Cm Ee ?_;refine BM DT ?_;refine BS Dm rfl ?_;try obtain rfl:=Option.some.inj h
        exact hP _ hS
       ·refine BG ?_;refine BL J7 ?_;refine BE fun PS Mw=> ?_;refine BX gC ?_;try simp only [W,EE,Nat.reduceAdd]
        refine BL Mw ?_;obtain ⟨Mx,h,IF⟩:=Option.bind_eq_some_iff.1 h;refine Ck gC (fun s H=>Mx=LR.next ()∧s=(u:: .fz (a1.map (AV.int .u8))::u::u::u::u::u::u::u::u::u::u::u::u::u::u::u::u::u::u::u::u::u::u::u::u::u::u::u::u::u::u::u::u::u::u::u::u::u::u::u::u::u::u::u::u::u::u::u::u::u::u::u::u::u::u::u::u::u::u::u::u::u::u::u::u::u::u::u::u::u::u::u::u::u::u::u::u::u::u::u::u::u::u::u::u::u::u::u::u::u::u::u::u::u::u::u::u::u::u::u::u::u::u::u::u::u::u::u::u::u::u::u::u::u::u::u::u::u::u::u::u::u::u::u::u::u::u::u::u::u::u::u::u::u::u::u::u::u::u::u::u::u::u::u::u::u::u::u::u::u::u::u::u::u::u::u::u::u::u::u::u::u::u::u::u::u::u::u::u::u::u::u::u::u::u::u::u::u::u::u::u::u::u::u::u::u::u::u::u::u::u::u::u::u::u::u::u::u::u::u::u::u::u::u::u::u::u::u::u::u::u::u::u::u::u::u::u::u::u::u::u::u::u::u::u::u::u::u::u::u::u::u::u::u::u::u::u::u::u::u::u::u::u::u::u::u::u::u::u::u::u::u::u::u::u::u::u::u::u::u::u::u::u::u::u::u::u::u::u::u::u::u::u::u::u::u::u::u::u::[])∧aE H (F)) (fun JC Fa=> ?_) (fun s H hq=> ?_)
        ·refine BE fun JD ET=> ?_;refine BJ ?_;simp only [W];refine BW h (fun hc h=> ?_) (fun hc h=> ?_)
         ·refine BE fun La Ic=> ?_;refine BX gC ?_;try simp only [W,Nat.reduceAdd]
          refine Cf h fun FK Ie h=> ?_;refine JR Ie hS fun H hS=> ?_;try simp only [W,EE]
          refine w_num _ h fun Eb PT h=> ?_;try simp only [W]
          refine BL Ic ?_;refine BE fun L_ Hu=> ?_;refine BX gC ?_;try simp only [W,Nat.reduceAdd]
          refine Cf h fun Gz Hi h=> ?_;refine JR Hi hS fun H hS=> ?_;try simp only [W,EE]
          rw [B1 _ _ _ rfl,Option.map_some,sT];try simp only [W,EE]
          refine w_num _ h fun Fp PU h=> ?_;try simp only [W]
          refine BL Hu ?_;refine BE fun Mf ID=> ?_;refine BE fun PV My=> ?_;refine BX gC ?_;try simp only [W,EE,Nat.reduceAdd]
          refine BL My ?_;obtain ⟨Mz,h,MA⟩:=Option.bind_eq_some_iff.1 h;refine Ck gC (fun s H=> ∃Eu:Int,Mz=(Eu)∧s=(u:: .fz (a1.map (AV.int .u8))::u::u::u:: .str Dn:: .int .i64 Dq:: .str Dw::u::u::u::u::u:: .int .i64 Eb:: .int .i64 Eu::u::u::u::u::u::u::u::u::u::u::u::u::u::u::u::u::u::u::u::u::u::u::u::u::u::u::u::u::u::u::u::u::u::u::u::u::u::u::u::u::u::u::u::u::u::u::u::u::u::u::u::u::u::u::u::u::u::u::u::u::u::u::u::u::u::u::u::u::u::u::u::u::u::u::u::u::u::u::u::u::u::u::u::u::u::u::u::u::u::u::u::u::u::u::u::u::u::u::u::u::u::u::u::u::u::u::u::u::u::u::u::u::u::u::u::u::u::u::u::u::u::u::u::u::u::u::u::u::u::u::u::u::u::u::u::u::u::u::u::u::u::u::u::u::u::u::u::u::u::u::u::u::u::u::u::u::u::u::u::u::u::u::u::u::u::u::u::u::u::u::u::u::u::u::u::u::u::u::u::u::u::u::u::u::u::u::u::u::u::u::u::u::u::u::u::u::u::u::u::u::u::u::u::u::u::u::u::u::u::u::u::u::u::u::u::u::u::u::u::u::u::u::u::u::u::u::u::u::u::u::u::u::u::u::u::u::u::u::u::u::u::u::u::u::u::u::u::u::u::u::u::u::u::u::u::u::u::u::u::u::u::u::u::u::u::[])∧aE H (F)) (fun PW J8=> ?_) (fun s H hq=> ?_)
          ·refine BE fun PY J9=> ?_;refine BJ ?_;simp only [W];refine BW h (fun hc h=> ?_) (fun hc h=> ?_)
           ·refine BX gC ?_;try simp only [W,EE,Nat.reduceAdd]
            refine BL J9 ?_;refine CT (s' :=(u:: .fz (a1.map (AV.int .u8))::u::u::u:: .str Dn:: .int .i64 Dq:: .str Dw::u::u::u::u::u:: .int .i64 Eb:: .int .i64 (IntKind.i64.wrap ((Dn.length:Int)-Eb))::u::u::u::u::u::u::u::u::u::u::u::u::u::u::u::u::u::u::u::u::u::u::u::u::u::u::u::u::u::u::u::u::u::u::u::u::u::u::u::u::u::u::u::u::u::u::u::u::u::u::u::u::u::u::u::u::u::u::u::u::u::u::u::u::u::u::u::u::u::u::u::u::u::u::u::u::u::u::u::u::u::u::u::u::u::u::u::u::u::u::u::u::u::u::u::u::u::u::u::u::u::u::u::u::u::u::u::u::u::u::u::u::u::u::u::u::u::u::u::u::u::u::u::u::u::u::u::u::u::u::u::u::u::u::u::u::u::u::u::u::u::u::u::u::u::u::u::u::u::u::u::u::u::u::u::u::u::u::u::u::u::u::u::u::u::u::u::u::u::u::u::u::u::u::u::u::u::u::u::u::u::u::u::u::u::u::u::u::u::u::u::u::u::u::u::u::u::u::u::u::u::u::u::u::u::u::u::u::u::u::u::u::u::u::u::u::u::u::u::u::u::u::u::u::u::u::u::u::u::u::u::u::u::u::u::u::u::u::u::u::u::u::u::u::u::u::u::u::u::u::u::u::u::u::u::u::u::u::u::u::u::u::u::u::u::[])) rfl ?_
            exact Cl J8 ⟨_,(Option.some.inj h).symm,rfl,hS⟩
           ·refine BG ?_;refine BL J9 ?_;refine CT (s' :=(u:: .fz (a1.map (AV.int .u8))::u::u::u:: .str Dn:: .int .i64 Dq:: .str Dw::u::u::u::u::u:: .int .i64 Eb:: .int .i64 Fp::u::u::u::u::u::u::u::u::u::u::u::u::u::u::u::u::u::u::u::u::u::u::u::u::u::u::u::u::u::u::u::u::u::u::u::u::u::u::u::u::u::u::u::u::u::u::u::u::u::u::u::u::u::u::u::u::u::u::u::u::u::u::u::u::u::u::u::u::u::u::u::u::u::u::u::u::u::u::u::u::u::u::u::u::u::u::u::u::u::u::u::u::u::u::u::u::u::u::u::u::u::u::u::u::u::u::u::u::u::u::u::u::u::u::u::u::u::u::u::u::u::u::u::u::u::u::u::u::u::u::u::u::u::u::u::u::u::u::u::u::u::u::u::u::u::u::u::u::u::u::u::u::u::u::u::u::u::u::u::u::u::u::u::u::u::u::u::u::u::u::u::u::u::u::u::u::u::u::u::u::u::u::u::u::u::u::u::u::u::u::u::u::u::u::u::u::u::u::u::u::u::u::u::u::u::u::u::u::u::u::u::u::u::u::u::u::u::u::u::u::u::u::u::u::u::u::u::u::u::u::u::u::u::u::u::u::u::u::u::u::u::u::u::u::u::u::u::u::u::u::u::u::u::u::u::u::u::u::u::u::u::u::u::u::u::[])) rfl ?_
            exact Cl J8 ⟨_,(Option.some.inj h).symm,rfl,hS⟩
          ·obtain ⟨Eu,Dr,rfl,hS⟩:=hq;obtain rfl:=Dr.symm;replace h:=MA;try dsimp only at h
           refine BL ID ?_;refine BE fun PZ MB=> ?_;refine BX gC ?_;try simp only [W,Nat.reduceAdd]
           refine Cf h fun MC MD h=> ?_;obtain ⟨G9,G_⟩:=MC;try dsimp only at h
           refine JT MD hS fun H hS=> ?_;try simp only [W]
           refine BL MB ?_;refine BE fun P0 ME=> ?_;refine BX gC ?_;try simp only [W,Nat.reduceAdd]
           refine Cf h fun MF MH h=> ?_;obtain ⟨DI,Ha⟩:=MF;try dsimp only at h
           refine Io MH hS fun H hS=> ?_;try simp only [W]
           refine BL ME ?_;refine BE fun P1 MI=> ?_;refine BX gC ?_;try simp only [W,EE,Nat.reduceAdd]
           refine Cf h fun MJ MK h=> ?_;obtain ⟨DW,Hb⟩:=MJ;try dsimp only at h
           refine JW MK hS fun v75 J_ H hS=> ?_;try simp only [W]
           refine BL MI ?_;refine BE fun P2 Ka=> ?_;refine BE fun P3 ML=> ?_;obtain ⟨MN,h,MO⟩:=Option.bind_eq_some_iff.1 h;refine Ck gC (fun s H=> ∃Et:Bool,MN=(Et)∧s=(u:: .fz (a1.map (AV.int .u8))::u::u::u:: .str Dn:: .int .i64 Dq::u::u::u::u::u::u::u::u::u::u:: .str DI::u::v75::u::u::u::u::u::u::u::u::u::u::u::u::u::u::u::u::u::u::u::u::u::u::u::u::u::u::u::u::u::u::u::u::u::u::u::u::u::u::u::u::u::u::u::u::u::u::u::u::u::u::u::u::u::u::u::u::u::u::u::u::u::u::u::u::u::u::u::u::u::u::u::u::u::u::u::u::u::u::u::u::u::u::u::u::u::u::u::u::u::u::u::u::u::u::u::u::u::u::u::u::u::u::u::u::u::u::u::u::u::u::u::u::u::u::u::u::u::u::u::u::u::u::u::u::u::u::u::u::u::u::u::u:: .bool Et::u::u::u::u::u::u::u::u::u::u::u::u::u::u::u::u::u::u::u::u::u::u::u::u::u::u::u::u::u::u::u::u::u::u::u::u::u::u::u::u::u::u::u::u::u::u::u::u::u::u::u::u::u::u::u::u::u::u::u::u::u::u::u::u::u::u::u::u::u::u::u::u::u::u::u::u::u::u::u::u::u::u::u::u::u::u::u::u::u::u::u::u::u::u::u::u::u::u::u::u::u::u::u::u::u::u::u::u::u::u::u::u::u::u::u::u::u::u::u::u::u::u::u::u::u::u::u::[])∧aE H (⟨v75,1,DW.map (AV.int .i64)⟩::F)) (fun P4 Hw=> ?_) (fun s H hq=> ?_)
           ·refine BE fun P5 Hy=> ?_;refine BX gC ?_;try simp only [W,Nat.reduceAdd]
            refine CA h (fun hc h=> ?_) (fun hc h=> ?_)
            ·try simp only [W,hc]
             refine BL Hy ?_;refine CT (s' :=(u:: .fz (a1.map (AV.int .u8))::u::u::u:: .str Dn:: .int .i64 Dq::u::u::u::u::u::u::u::u::u::u:: .str DI::u::v75::u::u::u::u::u::u::u::u::u::u::u::u::u::u::u::u::u::u::u::u::u::u::u::u::u::u::u::u::u::u::u::u::u::u::u::u::u::u::u::u::u::u::u::u::u::u::u::u::u::u::u::u::u::u::u::u::u::u::u::u::u::u::u::u::u::u::u::u::u::u::u::u::u::u::u::u::u::u::u::u::u::u::u::u::u::u::u::u::u::u::u::u::u::u::u::u::u::u::u::u::u::u::u::u::u::u::u::u::u::u::u::u::u::u::u::u::u::u::u::u::u::u::u::u::u::u::u::u::u::u::u::u:: .bool true::u::u::u::u::u::u::u::u::u::u::u::u::u::u::u::u::u::u::u::u::u::u::u::u::u::u::u::u::u::u::u::u::u::u::u::u::u::u::u::u::u::u::u::u::u::u::u::u::u::u::u::u::u::u::u::u::u::u::u::u::u::u::u::u::u::u::u::u::u::u::u::u::u::u::u::u::u::u::u::u::u::u::u::u::u::u::u::u::u::u::u::u::u::u::u::u::u::u::u::u::u::u::u::u::u::u::u::u::u::u::u::u::u::u::u::u::u::u::u::u::u::u::u::u::u::u::u::[])) rfl ?_
             exact Cl Hw ⟨_,(Option.some.inj h).symm,rfl,hS⟩
            ·try simp only [W,reduceIte,Bool.false_eq_true,hc]
             refine CA h (fun hc h=> ?_) (fun hc h=> ?_)
             ·try simp only [W,hc]
              refine BL Hy ?_;refine CT (s' :=(u:: .fz (a1.map (AV.int .u8))::u::u::u:: .str Dn:: .int .i64 Dq::u::u::u::u::u::u::u::u::u::u:: .str DI::u::v75::u::u::u::u::u::u::u::u::u::u::u::u::u::u::u::u::u::u::u::u::u::u::u::u::u::u::u::u::u::u::u::u::u::u::u::u::u::u::u::u::u::u::u::u::u::u::u::u::u::u::u::u::u::u::u::u::u::u::u::u::u::u::u::u::u::u::u::u::u::u::u::u::u::u::u::u::u::u::u::u::u::u::u::u::u::u::u::u::u::u::u::u::u::u::u::u::u::u::u::u::u::u::u::u::u::u::u::u::u::u::u::u::u::u::u::u::u::u::u::u::u::u::u::u::u::u::u::u::u::u::u::u:: .bool true::u::u::u::u::u::u::u::u::u::u::u::u::u::u::u::u::u::u::u::u::u::u::u::u::u::u::u::u::u::u::u::u::u::u::u::u::u::u::u::u::u::u::u::u::u::u::u::u::u::u::u::u::u::u::u::u::u::u::u::u::u::u::u::u::u::u::u::u::u::u::u::u::u::u::u::u::u::u::u::u::u::u::u::u::u::u::u::u::u::u::u::u::u::u::u::u::u::u::u::u::u::u::u::u::u::u::u::u::u::u::u::u::u::u::u::u::u::u::u::u::u::u::u::u::u::u::u::[])) rfl ?_
              exact Cl Hw ⟨_,(Option.some.inj h).symm,rfl,hS⟩
             ·try simp only [W,reduceIte,Bool.false_eq_true,hc]
              refine CA h (fun hc h=> ?_) (fun hc h=> ?_)
              ·try simp only [W,hc]
               refine BL Hy ?_;refine CT (s' :=(u:: .fz (a1.map (AV.int .u8))::u::u::u:: .str Dn:: .int .i64 Dq::u::u::u::u::u::u::u::u::u::u:: .str DI::u::v75::u::u::u::u::u::u::u::u::u::u::u::u::u::u::u::u::u::u::u::u::u::u::u::u::u::u::u::u::u::u::u::u::u::u::u::u::u::u::u::u::u::u::u::u::u::u::u::u::u::u::u::u::u::u::u::u::u::u::u::u::u::u::u::u::u::u::u::u::u::u::u::u::u::u::u::u::u::u::u::u::u::u::u::u::u::u::u::u::u::u::u::u::u::u::u::u::u::u::u::u::u::u::u::u::u::u::u::u::u::u::u::u::u::u::u::u::u::u::u::u::u::u::u::u::u::u::u::u::u::u::u::u:: .bool true::u::u::u::u::u::u::u::u::u::u::u::u::u::u::u::u::u::u::u::u::u::u::u::u::u::u::u::u::u::u::u::u::u::u::u::u::u::u::u::u::u::u::u::u::u::u::u::u::u::u::u::u::u::u::u::u::u::u::u::u::u::u::u::u::u::u::u::u::u::u::u::u::u::u::u::u::u::u::u::u::u::u::u::u::u::u::u::u::u::u::u::u::u::u::u::u::u::u::u::u::u::u::u::u::u::u::u::u::u::u::u::u::u::u::u::u::u::u::u::u::u::u::u::u::u::u::u::[])) rfl ?_
               exact Cl Hw ⟨_,(Option.some.inj h).symm,rfl,hS⟩
              ·try simp only [W,EE,hc]
               refine Cc 0 hS rfl J_ rfl ?_;try simp only [W,EE,reduceIte,Bool.false_eq_true]
               refine BL Hy ?_;refine CT (s' :=(u:: .fz (a1.map (AV.int .u8))::u::u::u:: .str Dn:: .int .i64 Dq::u::u::u::u::u::u::u::u::u::u:: .str DI::u::v75::u::u::u::u::u::u::u::u::u::u::u::u::u::u::u::u::u::u::u::u::u::u::u::u::u::u::u::u::u::u::u::u::u::u::u::u::u::u::u::u::u::u::u::u::u::u::u::u::u::u::u::u::u::u::u::u::u::u::u::u::u::u::u::u::u::u::u::u::u::u::u::u::u::u::u::u::u::u::u::u::u::u::u::u::u::u::u::u::u::u::u::u::u::u::u::u::u::u::u::u::u::u::u::u::u::u::u::u::u::u::u::u::u::u::u::u::u::u::u::u::u::u::u::u::u::u::u::u::u::u::u::u:: .bool ((DW.length:Int) !=Eu)::u::u::u::u::u::u::u::u::u::u::u::u::u::u::u::u::u::u::u::u::u::u::u::u::u::u::u::u::u::u::u::u::u::u::u::u::u::u::u::u::u::u::u::u::u::u::u::u::u::u::u::u::u::u::u::u::u::u::u::u::u::u::u::u::u::u::u::u::u::u::u::u::u::u::u::u::u::u::u::u::u::u::u::u::u::u::u::u::u::u::u::u::u::u::u::u::u::u::u::u::u::u::u::u::u::u::u::u::u::u::u::u::u::u::u::u::u::u::u::u::u::u::u::u::u::u::u::[])) rfl ?_
               exact Cl Hw ⟨_,(Option.some.inj h).symm,rfl,hS⟩
           ·obtain ⟨Et,Dr,rfl,hS⟩:=hq;obtain rfl:=Dr.symm;replace h:=MO;try dsimp only at h
            refine BL ML ?_;refine BJ ?_;simp only [W];refine BW h (fun hc h=> ?_) (fun hc h=> ?_)
            ·refine BE fun Mp IE=> ?_;refine BX gC ?_;try simp only [W,Nat.reduceAdd]
             refine BL IE ?_;refine BH ?_;refine BM Ka ?_;refine BM ET ?_;try obtain rfl:=Option.some.inj h
             obtain rfl:=Option.some.inj IF;have h:(some (LR.done false):Option (LR Unit (Bool)))=some (LR.done false):=rfl;refine Cm Fa ?_;refine BM D6 ?_;try obtain rfl:=Option.some.inj h
             obtain rfl:=Option.some.inj Fb;have h:(some false:Option (Bool))=some false:=rfl;refine Cm Ee ?_;refine BM DT ?_;refine BS Dm rfl ?_;try obtain rfl:=Option.some.inj h
             exact hP _ (hS.Cy 1 [] (by decide))
            ·refine BG ?_;refine BL Ka ?_;refine BE fun P6 MP=> ?_;refine BX gC ?_;try simp only [W,EE,Nat.reduceAdd]
             refine w_num _ h fun DP P7 h=> ?_;try simp only [W]
             refine BL MP ?_;refine BE fun P8 MQ=> ?_;refine BX gC ?_;try simp only [W,Nat.reduceAdd]
             refine BL MQ ?_;obtain ⟨MR,MS,Kb⟩:=Option.bind_eq_some_iff.1 h;refine Ck gC (fun s H=>MR=LR.next ()∧s=(u:: .fz (a1.map (AV.int .u8))::u::u::u::u::u::u::u::u::u::u::u::u::u::u::u::u::u::u::u::u::u::u::u::u::u::u::u::u::u::u::u::u::u::u::u::u::u::u::u::u::u::u::u::u::u::u::u::u::u::u::u::u::u::u::u::u::u::u::u::u::u::u::u::u::u::u::u::u::u::u::u::u::u::u::u::u::u::u::u::u::u::u::u::u::u::u::u::u::u::u::u::u::u::u::u::u::u::u::u::u::u::u::u::u::u::u::u::u::u::u::u::u::u::u::u::u::u::u::u::u::u::u::u::u::u::u::u::u::u::u::u::u::u::u::u::u::u::u::u::u::u::u::u::u::u::u::u::u::u::u::u::u::u::u::u::u::u::u::u::u::u::u::u::u::u::u::u::u::u::u::u::u::u::u::u::u::u::u::u::u::u::u::u::u::u::u::u::u::u::u::u::u::u::u::u::u::u::u::u::u::u::u::u::u::u::u::u::u::u::u::u::u::u::u::u::u::u::u::u::u::u::u::u::u::u::u::u::u::u::u::u::u::u::u::u::u::u::u::u::u::u::u::u::u::u::u::u::u::u::u::u::u::u::u::u::u::u::u::u::u::u::u::u::u::u::u::u::u::u::u::u::u::u::u::u::u::u::u::[])∧aE H (F)) (fun P9 Kc=> ?_) (fun s H hq=> ?_)
             ·refine BF fun P_ Kd=> ?_;refine Cg gC MS (fun x s H=>s=(u:: .fz (a1.map (AV.int .u8))::u::u::u:: .str Dn:: .int .i64 Dq::u::u::u::u::u::u::u::u::u::u:: .str DI::u::v75::u:: .int .i64 DP:: .int .i64 x::u::u::u::u::u::u::u::u::u::u::u::u::u::u::u::u::u::u::u::u::u::u::u::u::u::u::u::u::u::u::u::u::u::u::u::u::u::u::u::u::u::u::u::u::u::u::u::u::u::u::u::u::u::u::u::u::u::u::u::u::u::u::u::u::u::u::u::u::u::u::u::u::u::u::u::u::u::u::u::u::u::u::u::u::u::u::u::u::u::u::u::u::u::u::u::u::u::u::u::u::u::u::u::u::u::u::u::u::u::u::u::u::u::u::u::u::u::u::u::u::u::u::u::u::u::u::u::u::u::u::u::u::u::u::u::u::u::u::u::u::u::u::u::u::u::u::u::u::u::u::u::u::u::u::u::u::u::u::u::u::u::u::u::u::u::u::u::u::u::u::u::u::u::u::u::u::u::u::u::u::u::u::u::u::u::u::u::u::u::u::u::u::u::u::u::u::u::u::u::u::u::u::u::u::u::u::u::u::u::u::u::u::u::u::u::u::u::u::u::u::u::u::u::u::u::u::u::u::u::u::u::u::u::u::u::u::u::u::u::u::u::u::u::u::u::u::u::u::u::u::u::u::u::u::u::u::u::[])∧aE H (⟨v75,1,DW.map (AV.int .i64)⟩::F)) ⟨rfl,hS⟩ (fun DR Qa s H h Ke hi Qb IG=> ?_)
              skip
              try dsimp only at hi
              obtain ⟨rfl,hS⟩:=hi;simp only [Gw] at h;refine BE fun Qc Kf=> ?_;refine BE fun Qd MT=> ?_;refine BX gC ?_;try simp only [W,EE,Nat.reduceAdd]
              refine BL MT ?_;refine BJ ?_;simp only [W];refine BW h (fun hc h=> ?_) (fun hc h=> ?_)
              ·refine BG ?_;refine BL Kf ?_;refine BE fun Qe Kg=> ?_;refine BF fun Qf Kh=> ?_;refine BE fun Qg MU=> ?_;refine BX gC ?_;try simp only [W,Nat.reduceAdd]
               refine BL MU ?_;refine BE fun Qh MV=> ?_;refine BE fun Qi MW=> ?_;refine BX gC ?_;try simp only [W,EE,Nat.reduceAdd]
               refine BL MW ?_;obtain ⟨MX,MY,MZ⟩:=Option.bind_eq_some_iff.1 h;refine Ck gC (fun s H=> ∃Fo:Int,MX=(Fo)∧s=(u:: .fz (a1.map (AV.int .u8))::u::u::u:: .str Dn:: .int .i64 Dq::u::u::u::u::u::u::u::u::u::u:: .str DI::u::v75::u:: .int .i64 DP:: .int .i64 DR:: .int .i64 Fo::u::u::u::u::u::u::u::u::u::u::u::u::u::u::u::u::u::u::u::u::u::u::u::u::u::u::u::u::u::u::u::u::u::u::u::u::u::u::u::u::u::u::u::u::u::u::u::u::u::u::u::u::u::u::u::u::u::u::u::u::u::u::u::u::u::u::u::u::u::u::u::u::u::u::u::u::u::u::u::u::u::u::u::u::u::u::u::u::u::u::u::u::u::u::u::u::u::u::u::u::u::u::u::u::u::u::u::u::u::u::u::u::u::u::u::u::u::u::u::u::u::u::u::u::u::u::u::u::u::u::u::u::u::u::u::u::u::u::u::u::u::u::u::u::u::u::u::u::u::u::u::u::u::u::u::u::u::u::u::u::u::u::u::u::u::u::u::u::u::u::u::u::u::u::u::u::u::u::u::u::u::u::u::u::u::u::u::u::u::u::u::u::u::u::u::u::u::u::u::u::u::u::u::u::u::u::u::u::u::u::u::u::u::u::u::u::u::u::u::u::u::u::u::u::u::u::u::u::u::u::u::u::u::u::u::u::u::u::u::u::u::u::u::u::u::u::u::u::u::u::u::u::u::u::u::u::[])∧aE H (⟨v75,1,DW.map (AV.int .i64)⟩::F)) (fun Qj M0=> ?_) (fun s H hq=> ?_)
               ·refine BF fun Qk M1=> ?_;refine Cg gC MY (fun x s H=>match x with|(EK,EF)=>s=(u:: .fz (a1.map (AV.int .u8))::u::u::u:: .str Dn:: .int .i64 Dq::u::u::u::u::u::u::u::u::u::u:: .str DI::u::v75::u:: .int .i64 DP:: .int .i64 DR:: .int .i64 EK:: .int .i64 EF::u::u::u::u::u::u::u::u::u::u::u::u::u::u::u::u::u::u::u::u::u::u::u::u::u::u::u::u::u::u::u::u::u::u::u::u::u::u::u::u::u::u::u::u::u::u::u::u::u::u::u::u::u::u::u::u::u::u::u::u::u::u::u::u::u::u::u::u::u::u::u::u::u::u::u::u::u::u::u::u::u::u::u::u::u::u::u::u::u::u::u::u::u::u::u::u::u::u::u::u::u::u::u::u::u::u::u::u::u::u::u::u::u::u::u::u::u::u::u::u::u::u::u::u::u::u::u::u::u::u::u::u::u::u::u::u::u::u::u::u::u::u::u::u::u::u::u::u::u::u::u::u::u::u::u::u::u::u::u::u::u::u::u::u::u::u::u::u::u::u::u::u::u::u::u::u::u::u::u::u::u::u::u::u::u::u::u::u::u::u::u::u::u::u::u::u::u::u::u::u::u::u::u::u::u::u::u::u::u::u::u::u::u::u::u::u::u::u::u::u::u::u::u::u::u::u::u::u::u::u::u::u::u::u::u::u::u::u::u::u::u::u::u::u::u::u::u::u::u::u::u::u::u::u::u::[])∧aE H (⟨v75,1,DW.map (AV.int .i64)⟩::F)) ⟨rfl,hS⟩ (fun x Ql s H h M2 hi Qm Ki=> ?_)
                obtain ⟨EK,EF⟩:=x;try dsimp only at hi
                obtain ⟨rfl,hS⟩:=hi;simp only [G6] at h;refine BE fun Qn Kj=> ?_;refine BE fun Qo M3=> ?_;refine BX gC ?_;try simp only [W,EE,Nat.reduceAdd]
                refine BL M3 ?_;refine BJ ?_;simp only [W];refine BW h (fun hc h=> ?_) (fun hc h=> ?_)
                ·refine BG ?_;refine BL Kj ?_;refine BE fun Qp M4=> ?_;obtain ⟨M5,h,M6⟩:=Option.bind_eq_some_iff.1 h;refine Ck gC (fun s H=> ∃Gv:Int,M5=(Gv)∧s=(u:: .fz (a1.map (AV.int .u8))::u::u::u:: .str Dn:: .int .i64 Dq::u::u::u::u::u::u::u::u::u::u:: .str DI::u::v75::u:: .int .i64 DP:: .int .i64 DR:: .int .i64 Gv:: .int .i64 EF::u::u::u::u::u::u::u::u::u::u::u::u::u::u::u::u::u::u::u::u::u::u::u::u::u::u::u::u::u::u::u::u::u::u::u::u::u::u::u::u::u::u::u::u::u::u::u::u::u::u::u::u::u::u::u::u::u::u::u::u::u::u::u::u::u::u::u::u::u::u::u::u::u::u::u::u::u::u::u::u::u::u::u::u::u::u::u::u::u::u::u::u::u::u::u::u::u::u::u::u::u::u::u::u::u::u::u::u::u::u::u::u::u::u::u::u::u::u::u::u::u::u::u::u::u::u::u::u::u::u::u::u::u::u::u::u::u::u::u::u::u::u::u::u::u::u::u::u::u::u::u::u::u::u::u::u::u::u::u::u::u::u::u::u::u::u::u::u::u::u::u::u::u::u::u::u::u::u::u::u::u::u::u::u::u::u::u::u::u::u::u::u::u::u::u::u::u::u::u::u::u::u::u::u::u::u::u::u::u::u::u::u::u::u::u::u::u::u::u::u::u::u::u::u::u::u::u::u::u::u::u::u::u::u::u::u::u::u::u::u::u::u::u::u::u::u::u::u::u::u::u::u::u::u::u::[])∧aE H (⟨v75,1,DW.map (AV.int .i64)⟩::F)) (fun Qq M7=> ?_) (fun s H hq=> ?_)
                 ·refine BF fun Qr M8=> ?_;refine BE fun Qs M9=> ?_;refine BZ gC (by kernel_rfl) ?_
                  try simp only [W,EE,Nat.reduceAdd]
                  refine B9 h fun Jc Qt h=> ?_;try simp only [W,EE]
                  refine B9 h fun Jd Qu h=> ?_;try simp only [W,EE]
                  refine BL M9 ?_;obtain ⟨M_,h,Na⟩:=Option.bind_eq_some_iff.1 h;refine Ck gC (fun s H=> ∃Gu:Int,M_=(Gu)∧s=(u:: .fz (a1.map (AV.int .u8))::u::u::u:: .str Dn:: .int .i64 Dq::u::u::u::u::u::u::u::u::u::u:: .str DI::u::v75::u:: .int .i64 DP:: .int .i64 DR:: .int .i64 Gu:: .int .i64 EF::u::u::u::u::u::u::u::u::u::u::u::u::u::u::u::u::u::u::u::u::u::u::u::u::u::u::u::u::u::u::u::u::u::u::u::u::u::u::u::u::u::u::u::u::u::u::u::u::u::u::u::u::u::u::u::u::u::u::u::u::u::u::u::u::u::u::u::u::u::u::u::u::u::u::u::u::u::u::u::u::u::u::u::u::u::u::u::u::u::u::u::u::u::u::u::u::u::u::u::u::u::u::u::u::u::u::u::u::u::u::u::u::u::u::u::u::u::u::u::u::u::u::u::u::u::u::u::u::u::u::u::u::u::u::u::u::u::u::u::u::u::u::u::u::u::u::u::u::u::u::u::u::u::u::u::u::u::u::u::u::u::u::u::u::u::u::u::u::u::u::u::u::u::u::u::u::u::u::u::u::u::u::u::u::u::u::u::u::u::u::u::u::u::u::u::u::u::u::u::u::u::u::u::u::u::u::u::u::u::u::u::u::u::u::u::u::u::u::u::u::u::u::u::u::u::u::u::u::u::u::u::u::u::u::u::u::u::u::u::u::u::u::u::u::u::u::u::u::u::u::u::u::u::u::u::[])∧aE H (⟨v75,1,DW.map (AV.int .i64)⟩::F)) (fun Qv Kk=> ?_) (fun s H hq=> ?_)
                  ·refine BE fun Qw Kl=> ?_;refine BJ ?_;simp only [W];refine BW h (fun hc h=> ?_) (fun hc h=> ?_)
                   ·refine BX gC ?_;try simp only [W,EE,Nat.reduceAdd]
                    refine BL Kl ?_;refine CT (s' :=(u:: .fz (a1.map (AV.int .u8))::u::u::u:: .str Dn:: .int .i64 Dq::u::u::u::u::u::u::u::u::u::u:: .str DI::u::v75::u:: .int .i64 DP:: .int .i64 DR:: .int .i64 (IntKind.i64.wrap (EK+1)):: .int .i64 EF::u::u::u::u::u::u::u::u::u::u::u::u::u::u::u::u::u::u::u::u::u::u::u::u::u::u::u::u::u::u::u::u::u::u::u::u::u::u::u::u::u::u::u::u::u::u::u::u::u::u::u::u::u::u::u::u::u::u::u::u::u::u::u::u::u::u::u::u::u::u::u::u::u::u::u::u::u::u::u::u::u::u::u::u::u::u::u::u::u::u::u::u::u::u::u::u::u::u::u::u::u::u::u::u::u::u::u::u::u::u::u::u::u::u::u::u::u::u::u::u::u::u::u::u::u::u::u::u::u::u::u::u::u::u::u::u::u::u::u::u::u::u::u::u::u::u::u::u::u::u::u::u::u::u::u::u::u::u::u::u::u::u::u::u::u::u::u::u::u::u::u::u::u::u::u::u::u::u::u::u::u::u::u::u::u::u::u::u::u::u::u::u::u::u::u::u::u::u::u::u::u::u::u::u::u::u::u::u::u::u::u::u::u::u::u::u::u::u::u::u::u::u::u::u::u::u::u::u::u::u::u::u::u::u::u::u::u::u::u::u::u::u::u::u::u::u::u::u::u::u::u::u::u::u::u::[])) rfl ?_
                    exact Cl Kk ⟨_,(Option.some.inj h).symm,rfl,hS⟩
                   ·refine BG ?_;refine BL Kl ?_;refine CT (s' :=(u:: .fz (a1.map (AV.int .u8))::u::u::u:: .str Dn:: .int .i64 Dq::u::u::u::u::u::u::u::u::u::u:: .str DI::u::v75::u:: .int .i64 DP:: .int .i64 DR:: .int .i64 EK:: .int .i64 EF::u::u::u::u::u::u::u::u::u::u::u::u::u::u::u::u::u::u::u::u::u::u::u::u::u::u::u::u::u::u::u::u::u::u::u::u::u::u::u::u::u::u::u::u::u::u::u::u::u::u::u::u::u::u::u::u::u::u::u::u::u::u::u::u::u::u::u::u::u::u::u::u::u::u::u::u::u::u::u::u::u::u::u::u::u::u::u::u::u::u::u::u::u::u::u::u::u::u::u::u::u::u::u::u::u::u::u::u::u::u::u::u::u::u::u::u::u::u::u::u::u::u::u::u::u::u::u::u::u::u::u::u::u::u::u::u::u::u::u::u::u::u::u::u::u::u::u::u::u::u::u::u::u::u::u::u::u::u::u::u::u::u::u::u::u::u::u::u::u::u::u::u::u::u::u::u::u::u::u::u::u::u::u::u::u::u::u::u::u::u::u::u::u::u::u::u::u::u::u::u::u::u::u::u::u::u::u::u::u::u::u::u::u::u::u::u::u::u::u::u::u::u::u::u::u::u::u::u::u::u::u::u::u::u::u::u::u::u::u::u::u::u::u::u::u::u::u::u::u::u::u::u::u::u::u::[])) rfl ?_
                    exact Cl Kk ⟨_,(Option.some.inj h).symm,rfl,hS⟩
                  ·obtain ⟨Gu,Dr,rfl,hS⟩:=hq;obtain rfl:=Dr.symm;replace h:=Na;try dsimp only at h
                   refine BO M8 ?_;exact Cl M7 ⟨_,(Option.some.inj h).symm,rfl,hS⟩
                 ·obtain ⟨Gv,Dr,rfl,hS⟩:=hq;obtain rfl:=Dr.symm;replace h:=M6;try dsimp only at h
                  refine BL M4 ?_;refine BX gC ?_;try simp only [W,EE,Nat.reduceAdd]
                  exact Ch Ki h ⟨rfl,hS⟩
                ·refine BI ?_;refine BN Kj ?_;try obtain rfl:=Option.some.inj h
                 obtain rfl:=M2 _ rfl;have h:(some (EK):Option (Int))=some (EK):=rfl;refine Ci Ki ?_;refine BQ M1 ?_;exact Cl M0 ⟨_,(Option.some.inj h).symm,rfl,hS⟩
               ·obtain ⟨Fo,Dr,rfl,hS⟩:=hq;obtain rfl:=Dr.symm;replace h:=MZ;try dsimp only at h
                refine BL MV ?_;refine BE fun Qx Nb=> ?_;obtain ⟨Nc,h,Nd⟩:=Option.bind_eq_some_iff.1 h;refine Ck gC (fun s H=> ∃Gx:Bool,Nc=(Gx)∧s=(u:: .fz (a1.map (AV.int .u8))::u::u::u:: .str Dn:: .int .i64 Dq::u::u::u::u::u::u::u::u::u::u:: .str DI::u::v75::u:: .int .i64 DP:: .int .i64 DR::u::u::u::u::u::u::u::u::u::u::u::u::u::u::u::u::u::u::u::u::u::u::u::u::u::u::u::u::u::u::u::u::u::u::u::u::u::u::u::u::u::u::u::u::u::u::u::u::u::u::u::u::u::u::u::u::u::u::u::u::u::u::u::u::u::u::u::u::u::u::u::u::u::u::u::u::u::u::u::u::u::u::u::u::u::u::u::u::u::u::u::u::u::u::u::u::u::u::u::u::u::u::u::u::u::u::u::u::u::u::u::u::u::u::u::u::u::u::u::u::u::u::u::u::u::u::u::u::u::u::u::u::u::u::u::u::u::u::u::u::u::u::u::u::u::u::u::u::u::u::u::u::u::u::u::u::u::u::u::u::u::u::u::u::u::u::u::u:: .bool Gx::u::u::u::u::u::u::u::u::u::u::u::u::u::u::u::u::u::u::u::u::u::u::u::u::u::u::u::u::u::u::u::u::u::u::u::u::u::u::u::u::u::u::u::u::u::u::u::u::u::u::u::u::u::u::u::u::u::u::u::u::u::u::u::u::u::u::u::u::u::u::u::u::u::u::u::u::u::u::u::u::u::u::u::u::u::u::u::u::[])∧aE H (⟨v75,1,DW.map (AV.int .i64)⟩::F)) (fun Qy Km=> ?_) (fun s H hq=> ?_)
                ·refine BE fun Qz Kn=> ?_;refine BX gC ?_;try simp only [W,EE,Nat.reduceAdd]
                 refine CA h (fun hc h=> ?_) (fun hc h=> ?_)
                 ·try simp only [W,hc]
                  refine BL Kn ?_;refine CT (s' :=(u:: .fz (a1.map (AV.int .u8))::u::u::u:: .str Dn:: .int .i64 Dq::u::u::u::u::u::u::u::u::u::u:: .str DI::u::v75::u:: .int .i64 DP:: .int .i64 DR::u::u::u::u::u::u::u::u::u::u::u::u::u::u::u::u::u::u::u::u::u::u::u::u::u::u::u::u::u::u::u::u::u::u::u::u::u::u::u::u::u::u::u::u::u::u::u::u::u::u::u::u::u::u::u::u::u::u::u::u::u::u::u::u::u::u::u::u::u::u::u::u::u::u::u::u::u::u::u::u::u::u::u::u::u::u::u::u::u::u::u::u::u::u::u::u::u::u::u::u::u::u::u::u::u::u::u::u::u::u::u::u::u::u::u::u::u::u::u::u::u::u::u::u::u::u::u::u::u::u::u::u::u::u::u::u::u::u::u::u::u::u::u::u::u::u::u::u::u::u::u::u::u::u::u::u::u::u::u::u::u::u::u::u::u::u::u::u:: .bool true::u::u::u::u::u::u::u::u::u::u::u::u::u::u::u::u::u::u::u::u::u::u::u::u::u::u::u::u::u::u::u::u::u::u::u::u::u::u::u::u::u::u::u::u::u::u::u::u::u::u::u::u::u::u::u::u::u::u::u::u::u::u::u::u::u::u::u::u::u::u::u::u::u::u::u::u::u::u::u::u::u::u::u::u::u::u::u::u::[])) rfl ?_
                  exact Cl Km ⟨_,(Option.some.inj h).symm,rfl,hS⟩
                 ·try simp only [W,EE,hc]
                  refine CJ (cR:=[[.sc]]) (ys:=[.fz (DW.map (AV.int .i64)),.int .i64 DR]) h rfl (CF (CD hS 0 rfl J_ (fun _=>rfl)) (CF rfl CE)) fun G7 Nf h=>⟨.bool G7,LL Nf (aE.nil _) fun H hS=>CI rfl (CH rfl (CG rfl)),⟨rfl,rfl,fun _=>rfl⟩,?_⟩;try simp only [W,EE]
                  rw [B4 _ _ _ _ (h:=rfl) rfl,sT];try simp only [W,reduceIte,Bool.false_eq_true]
                  refine BL Kn ?_;refine CT (s' :=(u:: .fz (a1.map (AV.int .u8))::u::u::u:: .str Dn:: .int .i64 Dq::u::u::u::u::u::u::u::u::u::u:: .str DI::u::v75::u:: .int .i64 DP:: .int .i64 DR::u::u::u::u::u::u::u::u::u::u::u::u::u::u::u::u::u::u::u::u::u::u::u::u::u::u::u::u::u::u::u::u::u::u::u::u::u::u::u::u::u::u::u::u::u::u::u::u::u::u::u::u::u::u::u::u::u::u::u::u::u::u::u::u::u::u::u::u::u::u::u::u::u::u::u::u::u::u::u::u::u::u::u::u::u::u::u::u::u::u::u::u::u::u::u::u::u::u::u::u::u::u::u::u::u::u::u::u::u::u::u::u::u::u::u::u::u::u::u::u::u::u::u::u::u::u::u::u::u::u::u::u::u::u::u::u::u::u::u::u::u::u::u::u::u::u::u::u::u::u::u::u::u::u::u::u::u::u::u::u::u::u::u::u::u::u::u::u:: .bool (!((Fo==1)==G7))::u::u::u::u::u::u::u::u::u::u::u::u::u::u::u::u::u::u::u::u::u::u::u::u::u::u::u::u::u::u::u::u::u::u::u::u::u::u::u::u::u::u::u::u::u::u::u::u::u::u::u::u::u::u::u::u::u::u::u::u::u::u::u::u::u::u::u::u::u::u::u::u::u::u::u::u::u::u::u::u::u::u::u::u::u::u::u::u::[])) rfl ?_
                  exact Cl Km ⟨_,(Option.some.inj h).symm,rfl,hS⟩
                ·obtain ⟨Gx,Dr,rfl,hS⟩:=hq;obtain rfl:=Dr.symm;replace h:=Nd;try dsimp only at h
                 refine BL Nb ?_;refine BJ ?_;simp only [W];refine BW h (fun hc h=> ?_) (fun hc h=> ?_)
                 ·refine BE fun QA Ng=> ?_;refine BX gC ?_;try simp only [W,Nat.reduceAdd]
                  refine BL Ng ?_;refine BH ?_;refine BR Kh ?_;refine BM Kg ?_;try obtain rfl:=Option.some.inj h
                  obtain rfl:=Ke _ rfl;have h:(some (LR.done (LR.done (LR.done false))):Option (LR Unit (LR Unit (LR Unit (Bool)))))=some (LR.done (LR.done (LR.done false))):=rfl;refine Cj IG ?_;refine BR Kd ?_;try obtain rfl:=Option.some.inj h
                  obtain rfl:=Option.some.inj Kb;have h:(some (LR.done (LR.done false)):Option (LR Unit (LR Unit (Bool))))=some (LR.done (LR.done false)):=rfl;refine Cm Kc ?_;refine BM ET ?_;try obtain rfl:=Option.some.inj h
                  obtain rfl:=Option.some.inj IF;have h:(some (LR.done false):Option (LR Unit (Bool)))=some (LR.done false):=rfl;refine Cm Fa ?_;refine BM D6 ?_;try obtain rfl:=Option.some.inj h
                  obtain rfl:=Option.some.inj Fb;have h:(some false:Option (Bool))=some false:=rfl;refine Cm Ee ?_;refine BM DT ?_;refine BS Dm rfl ?_;try obtain rfl:=Option.some.inj h
                  exact hP _ (hS.Cy 1 [] (by decide))
                 ·refine BG ?_;refine BP Kh ?_;refine BL Kg ?_;refine BX gC ?_;try simp only [W,EE,Nat.reduceAdd]
                  exact Ch IG h ⟨rfl,hS⟩
              ·refine BI ?_;refine BN Kf ?_;try obtain rfl:=Option.some.inj h
               obtain rfl:=Ke _ rfl;have h:(some (LR.next ()):Option (LR Unit (LR Unit (LR Unit (Bool)))))=some (LR.next ()):=rfl
               refine Ci IG ?_;refine BQ Kd ?_;exact Cl Kc ⟨(Option.some.inj h).symm,rfl,(hS.Cy 1 [] (by decide))⟩
             ·obtain ⟨rfl,rfl,hS⟩:=hq;replace h:=Kb;try dsimp only at h
              refine BL ET ?_;refine CT (s' :=(u:: .fz (a1.map (AV.int .u8))::u::u::u::u::u::u::u::u::u::u::u::u::u::u::u::u::u::u::u::u::u::u::u::u::u::u::u::u::u::u::u::u::u::u::u::u::u::u::u::u::u::u::u::u::u::u::u::u::u::u::u::u::u::u::u::u::u::u::u::u::u::u::u::u::u::u::u::u::u::u::u::u::u::u::u::u::u::u::u::u::u::u::u::u::u::u::u::u::u::u::u::u::u::u::u::u::u::u::u::u::u::u::u::u::u::u::u::u::u::u::u::u::u::u::u::u::u::u::u::u::u::u::u::u::u::u::u::u::u::u::u::u::u::u::u::u::u::u::u::u::u::u::u::u::u::u::u::u::u::u::u::u::u::u::u::u::u::u::u::u::u::u::u::u::u::u::u::u::u::u::u::u::u::u::u::u::u::u::u::u::u::u::u::u::u::u::u::u::u::u::u::u::u::u::u::u::u::u::u::u::u::u::u::u::u::u::u::u::u::u::u::u::u::u::u::u::u::u::u::u::u::u::u::u::u::u::u::u::u::u::u::u::u::u::u::u::u::u::u::u::u::u::u::u::u::u::u::u::u::u::u::u::u::u::u::u::u::u::u::u::u::u::u::u::u::u::u::u::u::u::u::u::u::u::u::u::u::u::[])) rfl ?_
              exact Cl Fa ⟨(Option.some.inj h).symm,rfl,hS⟩
         ·refine BG ?_;refine BL ET ?_;refine CT (s' :=(u:: .fz (a1.map (AV.int .u8))::u::u::u::u::u::u::u::u::u::u::u::u::u::u::u::u::u::u::u::u::u::u::u::u::u::u::u::u::u::u::u::u::u::u::u::u::u::u::u::u::u::u::u::u::u::u::u::u::u::u::u::u::u::u::u::u::u::u::u::u::u::u::u::u::u::u::u::u::u::u::u::u::u::u::u::u::u::u::u::u::u::u::u::u::u::u::u::u::u::u::u::u::u::u::u::u::u::u::u::u::u::u::u::u::u::u::u::u::u::u::u::u::u::u::u::u::u::u::u::u::u::u::u::u::u::u::u::u::u::u::u::u::u::u::u::u::u::u::u::u::u::u::u::u::u::u::u::u::u::u::u::u::u::u::u::u::u::u::u::u::u::u::u::u::u::u::u::u::u::u::u::u::u::u::u::u::u::u::u::u::u::u::u::u::u::u::u::u::u::u::u::u::u::u::u::u::u::u::u::u::u::u::u::u::u::u::u::u::u::u::u::u::u::u::u::u::u::u::u::u::u::u::u::u::u::u::u::u::u::u::u::u::u::u::u::u::u::u::u::u::u::u::u::u::u::u::u::u::u::u::u::u::u::u::u::u::u::u::u::u::u::u::u::u::u::u::u::u::u::u::u::u::u::u::u::u::u::u::[])) rfl ?_
          exact Cl Fa ⟨(Option.some.inj h).symm,rfl,hS⟩
        ·obtain ⟨rfl,rfl,hS⟩:=hq;replace h:=IF;try dsimp only at h
         refine BL D6 ?_;refine CT (s' :=(u:: .fz (a1.map (AV.int .u8))::u::u::u::u::u::u::u::u::u::u::u::u::u::u::u::u::u::u::u::u::u::u::u::u::u::u::u::u::u::u::u::u::u::u::u::u::u::u::u::u::u::u::u::u::u::u::u::u::u::u::u::u::u::u::u::u::u::u::u::u::u::u::u::u::u::u::u::u::u::u::u::u::u::u::u::u::u::u::u::u::u::u::u::u::u::u::u::u::u::u::u::u::u::u::u::u::u::u::u::u::u::u::u::u::u::u::u::u::u::u::u::u::u::u::u::u::u::u::u::u::u::u::u::u::u::u::u::u::u::u::u::u::u::u::u::u::u::u::u::u::u::u::u::u::u::u::u::u::u::u::u::u::u::u::u::u::u::u::u::u::u::u::u::u::u::u::u::u::u::u::u::u::u::u::u::u::u::u::u::u::u::u::u::u::u::u::u::u::u::u::u::u::u::u::u::u::u::u::u::u::u::u::u::u::u::u::u::u::u::u::u::u::u::u::u::u::u::u::u::u::u::u::u::u::u::u::u::u::u::u::u::u::u::u::u::u::u::u::u::u::u::u::u::u::u::u::u::u::u::u::u::u::u::u::u::u::u::u::u::u::u::u::u::u::u::u::u::u::u::u::u::u::u::u::u::u::u::u::[])) rfl ?_
         exact Cl Ee ⟨(Option.some.inj h).symm,rfl,hS⟩
     ·refine BG ?_;refine BL D6 ?_;refine CT (s' :=(u:: .fz (a1.map (AV.int .u8))::u::u::u::u::u::u::u::u::u::u::u::u::u::u::u::u::u::u::u::u::u::u::u::u::u::u::u::u::u::u::u::u::u::u::u::u::u::u::u::u::u::u::u::u::u::u::u::u::u::u::u::u::u::u::u::u::u::u::u::u::u::u::u::u::u::u::u::u::u::u::u::u::u::u::u::u::u::u::u::u::u::u::u::u::u::u::u::u::u::u::u::u::u::u::u::u::u::u::u::u::u::u::u::u::u::u::u::u::u::u::u::u::u::u::u::u::u::u::u::u::u::u::u::u::u::u::u::u::u::u::u::u::u::u::u::u::u::u::u::u::u::u::u::u::u::u::u::u::u::u::u::u::u::u::u::u::u::u::u::u::u::u::u::u::u::u::u::u::u::u::u::u::u::u::u::u::u::u::u::u::u::u::u::u::u::u::u::u::u::u::u::u::u::u::u::u::u::u::u::u::u::u::u::u::u::u::u::u::u::u::u::u::u::u::u::u::u::u::u::u::u::u::u::u::u::u::u::u::u::u::u::u::u::u::u::u::u::u::u::u::u::u::u::u::u::u::u::u::u::u::u::u::u::u::u::u::u::u::u::u::u::u::u::u::u::u::u::u::u::u::u::u::u::u::u::u::u::u::[])) rfl ?_
      exact Cl Ee ⟨(Option.some.inj h).symm,rfl,hS⟩
    ·obtain ⟨rfl,rfl,hS⟩:=hq;replace h:=Fb;try dsimp only at h
     refine BL DT ?_;refine BE fun QB Nh=> ?_;refine BX gC ?_;try simp only [W,Nat.reduceAdd]
     refine Cf h fun Ni Nj h=> ?_;obtain ⟨HN,HO⟩:=Ni;try dsimp only at h
     refine LN Nj hS fun H hS=> ?_;try simp only [W]
     refine BL Nh ?_;refine BE fun QC Nk=> ?_;refine BX gC ?_;try simp only [W,Nat.reduceAdd]
     refine Cf h fun Nl Nn h=> ?_;obtain ⟨Je,Jf⟩:=Nl;try dsimp only at h
     refine Io Nn hS fun H hS=> ?_;try simp only [W]
     refine BL Nk ?_;refine BE fun QD Np=> ?_;refine BX gC ?_;try simp only [W,Nat.reduceAdd]
     refine Cf h fun Nq Nr h=> ?_;obtain ⟨Jg,Jh⟩:=Nq;try dsimp only at h
     refine LO Nr hS fun H hS=> ?_;try simp only [W]
     refine BL Np ?_;refine BE fun QE Ns=> ?_;refine BX gC ?_;try simp only [W,Nat.reduceAdd]
     refine Cf h fun Nt Nu h=> ?_;obtain ⟨HP,HQ,HR⟩:=Nt;try dsimp only at h
     refine LP Nu hS fun H hS=> ?_;try simp only [W]
     refine BL Ns ?_;refine BE fun QF Nv=> ?_;refine BX gC ?_;try simp only [W,Nat.reduceAdd]
     refine Cf h fun Nw Nx h=> ?_;obtain ⟨Ji,Jj⟩:=Nw;try dsimp only at h
     refine JT Nx hS fun H hS=> ?_;try simp only [W]
     refine BL Nv ?_;refine BE fun QH Ny=> ?_;refine BX gC ?_;try simp only [W,Nat.reduceAdd]
     refine Cf h fun Nz NA h=> ?_;obtain ⟨Jk,Jl⟩:=Nz;try dsimp only at h
     refine LQ NA hS fun H hS=> ?_;try simp only [W]
     refine BL Ny ?_;refine BE fun QI NB=> ?_;refine BX gC ?_;try simp only [W,Nat.reduceAdd]
     refine Cf h fun NC ND h=> ?_;obtain ⟨HS,HT,HU,HV⟩:=NC;try dsimp only at h
     refine LU ND hS fun H hS=> ?_;try simp only [W]
     refine BL NB ?_;refine BE fun QJ NE=> ?_;refine BX gC ?_;try simp only [W,Nat.reduceAdd]
     refine Cf h fun NF NG h=> ?_;obtain ⟨HW,Jm⟩:=NF;try dsimp only at h
     refine JW NG hS fun QK NH H hS=> ?_;try simp only [W]
     refine BL NE ?_;refine BE fun QL NI=> ?_;refine BX gC ?_;try simp only [W,Nat.reduceAdd]
     refine Cf h fun NJ NK h=> ?_;obtain ⟨HX,Jn⟩:=NJ;try dsimp only at h
     refine LV NK hS fun v196 NL H hS=> ?_;try simp only [W]
     refine BL NI ?_;refine BE fun QM FY=> ?_;refine BX gC ?_;try simp only [W,EE,Nat.reduceAdd]
     rw [B3 _ _ _ _ (h:=rfl) rfl,sT];try simp only [W]
     refine CA h (fun hc h=> ?_) (fun hc h=> ?_)
     ·try simp only [W,EE,reduceIte,hc]
      refine CA h (fun hc h=> ?_) (fun hc h=> ?_)
      ·try simp only [W,EE,hc]
       rw [B3 _ _ _ _ (h:=rfl) rfl,sT];try simp only [W,reduceIte]
       refine CA h (fun hc h=> ?_) (fun hc h=> ?_)
       ·try simp only [W,EE,reduceIte,hc]
        refine CA h (fun hc h=> ?_) (fun hc h=> ?_)
        ·try simp only [W,EE,hc]
         rw [B3 _ _ _ _ (h:=rfl) rfl,sT];try simp only [W,reduceIte]
         refine CA h (fun hc h=> ?_) (fun hc h=> ?_)
         ·try simp only [W,hc]
          refine CJ (cR:=[[.sc]]) (ys:=[.fz (HW.map (AV.int .i64)),.fz (HX.map (AV.int .i64))]) h rfl (CF (CD hS 1 rfl NH (fun _=>rfl)) (CF (CD hS 0 rfl NL (fun _=>rfl)) CE)) fun HY NM h=>⟨.bool HY,Mq NM (aE.nil _) fun H hS=>CI rfl (CH rfl (CG rfl)),⟨rfl,rfl,fun _=>rfl⟩,?_⟩;try simp only [W,reduceIte]
          refine BL FY ?_;refine BH ?_;refine BS Dm rfl ?_;try obtain rfl:=Option.some.inj h
          exact hP _ (hS.Cy 2 [] (by decide))
         ·try simp only [W,hc]
          refine BL FY ?_;refine BH ?_;refine BS Dm rfl ?_;try obtain rfl:=Option.some.inj h
          exact hP _ (hS.Cy 2 [] (by decide))
        ·try simp only [W,hc]
         refine BL FY ?_;refine BH ?_;refine BS Dm rfl ?_;try obtain rfl:=Option.some.inj h
         exact hP _ (hS.Cy 2 [] (by decide))
       ·try simp only [W,hc]
        refine BL FY ?_;refine BH ?_;refine BS Dm rfl ?_;try obtain rfl:=Option.some.inj h
        exact hP _ (hS.Cy 2 [] (by decide))
      ·try simp only [W,hc]
       refine BL FY ?_;refine BH ?_;refine BS Dm rfl ?_;try obtain rfl:=Option.some.inj h
       exact hP _ (hS.Cy 2 [] (by decide))
     ·try simp only [W,hc]
      refine BL FY ?_;refine BH ?_;refine BS Dm rfl ?_;try obtain rfl:=Option.some.inj h
      exact hP _ (hS.Cy 2 [] (by decide))
end Go.EI
