import Derived.Test.YtmmomohapflagaaViF
import Derived.Test.YtmmomohapflagaaProg
import Derived.Test.YtmmomohapflagaaVaE
import Derived.KernelRfl
open Go Go.VS
set_option maxRecDepth 8000
set_option maxHeartbeats 4000000
namespace Go.HC
def Uq (x:DJ):AV:= .agg [.fz (x.Ds.map (AV.int .i64)),.fz (x.Dq.map (zE (AV.int .i64))),.fz (x.Dw.map (AV.int .i64)),.fz (x.Dx.map (AV.int .i64)),.int .i64 x.Dr]
def Ur (x:Ev):AV:= .agg [.fz (x.Code.map (AV.int .u8)),.int .i64 x.Dr,.int .u64 x.D8]
def E:aM:=fun t=>match t with
 |3=>some {sz:=1,agg:=false,zero:=[AV.int IntKind.i64 0],bytes:=8,au:=UD.it IntKind.i64,j9:=true}
 |4=>some {sz:=1,agg:=false,zero:=[AV.bool false],bytes:=1,au:=UD.bl,j9:=true}
 |5=>some {sz:=1,agg:=false,zero:=[AV.int IntKind.u8 0],bytes:=1,au:=UD.it IntKind.u8,j9:=true}
 |22=>some {sz:=1,agg:=false,zero:=[AV.nil],bytes:=24,au:=UD.sl 5,j9:=true}
 |23=>some {sz:=1,agg:=false,zero:=[AV.nil],bytes:=24,au:=UD.sl 3,j9:=true}
 |24=>some {sz:=1,agg:=false,zero:=[AV.nil],bytes:=24,au:=UD.sl 23,j9:=true}
 |26=>some {sz:=5,agg:=true,zero:=[AV.nil,AV.nil,AV.nil,AV.nil,AV.int IntKind.i64 0],bytes:=104,au:=UD.st [(0,23),(1,24),(2,23),(3,23),(4,3)],j9:=true}
 |162=>some {sz:=1,agg:=false,zero:=[AV.undef],bytes:=8,au:=UD.ot,j9:=true}
 |163=>some {sz:=1,agg:=false,zero:=[AV.dr],bytes:=8,au:=UD.pt,j9:=true}
 |164=>some {sz:=1,agg:=false,zero:=[AV.int IntKind.u64 0],bytes:=8,au:=UD.it IntKind.u64,j9:=true}
 |166=>some {sz:=3,agg:=true,zero:=[AV.nil,AV.int IntKind.i64 0,AV.int IntKind.u64 0],bytes:=40,au:=UD.st [(0,22),(1,3),(2,164)],j9:=true}
 |_=>none
def gi:FuncId→ka:=fun f=>match f with
 |3=>{b5:=[[.sc]],m9:=[(4,[],[1]),(5,[],[1]),(22,[],[3]),(23,[],[3]),(25,[],[1]),(26,[],[1])],gM:=[(10,[],some [1,5,6,7,8,12,16,118]),(17,[],some [1,5,6,7,24,25,192]),(19,[],some [1,238])],wl:=[(119,[1])]}
 |14=>{b5:=[[.sl [.sc],.sl [.sl [.sc]],.sl [.sc],.sl [.sc],.sc]]}
 |15=>{b5:=[[.sl [.sc],.sl [.sl [.sc]],.sl [.sc],.sl [.sc],.sc],[.sl [.sc]],[.sc]]}
 |16=>{b5:=[[.sl [.sc],.sl [.sl [.sc]],.sl [.sc],.sl [.sc],.sc],[.sl [.sc]],[.sc]],m9:=[(6,[],[1])]}
 |17=>{b5:=[[.sc],[.sc]]}
 |18=>{b5:=[[.sc],[.sc]]}
 |19=>{b5:=[[.sc],[.sc]]}
 |20=>{b5:=[[.sc],[.sc]]}
 |21=>{b5:=[[.sc]],loops:=[(0,{bK:=[0,1,12,13]})],blocks:=[(0,[])]}
 |22=>{b5:=[[.sc]],loops:=[(0,{bK:=[2,3,46,47]})],blocks:=[(0,[])],gM:=[(1,[],some [2,3,43])]}
 |23=>{b5:=[[.sc]],loops:=[(0,{bK:=[1,43,44,45]})],blocks:=[(0,[])],gM:=[(2,[],some [1,41]),(7,[],some [1,4,5,43,44,45,56]),(9,[],some [1,43,44,45,85])]}
 |24=>{b5:=[[.sc]],loops:=[(0,{bK:=[3,6,7,8]})],blocks:=[(0,[3])]}
 |25=>{b5:=[[.sl [.sc],.sl [.sl [.sc]],.sl [.sc],.sl [.sc],.sc],[.sc],[.sc]],m9:=[(3,[3,6,7],[])],gg:=[(3,[0,1,4,2,3,5,6,7,8,9])]}
 |26=>{b5:=[[.sl [.sc],.sl [.sl [.sc]],.sl [.sc],.sl [.sc],.sc],[.sc]],m9:=[(4,[10,12],[])],gM:=[(1,[],some [1,2,3,6,34])]}
 |27=>{b5:=[[.sl [.sc],.sl [.sl [.sc]],.sl [.sc],.sl [.sc],.sc],[.sc]],m9:=[(4,[10,12],[])],gM:=[(1,[],some [1,2,3,6,36])]}
 |28=>{b5:=[[.sl [.sc]]]}
 |29=>{b5:=[[.sl [.sc],.sl [.sl [.sc]],.sl [.sc],.sl [.sc],.sc],[.sc]],m9:=[(4,[9],[1])]}
 |30=>{b5:=[[.sl [.sc],.sl [.sl [.sc]],.sl [.sc],.sl [.sc],.sc],[.sc]],m9:=[(4,[10],[])],gM:=[(2,[],some [0,2,4,14])]}
 |146=>{b5:=[[.sl [.sc],.sl [.sl [.sc]],.sl [.sc],.sl [.sc],.sc]]}
 |147=>{b5:=[[.sl [.sc],.sl [.sl [.sc]],.sl [.sc],.sl [.sc],.sc]],loops:=[(0,{bK:=[2,3,19,20,21]})],blocks:=[(0,[2,3])],m9:=[(1,[13],[2,5,8]),(5,[7,5],[3])]}
 |148=>{b5:=[[.sl [.sc]],[.sc]],loops:=[(0,{bK:=[0,4,5]})],blocks:=[(0,[0,4,5])],m9:=[(4,[16],[]),(7,[14],[])],gM:=[(5,[],some [0,4,5,75])],wl:=[(31,[0,4,5]),(131,[0,4,5])]}
 |149=>{b5:=[[.sc]],loops:=[(0,{bK:=[1,60,61,62]})],blocks:=[(0,[])],gM:=[(2,[],some [1,58]),(7,[],some [1,60,61,62,87])]}
 |150=>{b5:=[[.sl [.sc],.sl [.sl [.sc]],.sl [.sc],.sl [.sc],.sc],[.sl [.sc]]],loops:=[(0,{bK:=[1,2,4,5,6]})],blocks:=[(0,[1,2,4,5,6])],m9:=[(6,[12],[]),(8,[10],[]),(9,[10],[]),(14,[7],[])],gM:=[(7,[],some [1,2,4,5,6,49])],wl:=[(23,[1,2,4,5,6]),(80,[1,2,4,5,6])]}
 |151=>{b5:=[[.sl [.sc],.sl [.sl [.sc]],.sl [.sc],.sl [.sc],.sc]],loops:=[(0,{bK:=[2,3,22,23,24]})],blocks:=[(0,[2,3])],m9:=[(1,[16],[]),(5,[8,6],[])]}
 |152=>{b5:=[[.sc]],loops:=[(0,{bK:=[3,6,7,8]})],blocks:=[(0,[3])]}
 |153=>{b5:=[[.sc]],loops:=[(0,{bK:=[3,6,7,8]})],blocks:=[(0,[3])]}
 |154=>{b5:=[[.sl [.sc]]],loops:=[(0,{bK:=[0,3,9,10,11]}),(2,{bK:=[6,25,26,27]})],blocks:=[(1,[0,3,9,10,11]),(0,[0,3]),(2,[6])],wl:=[(20,[0,3,9,10,11])]}
 |155=>{b5:=[[.sc]],loops:=[(0,{bK:=[3,7,8,9]})],blocks:=[(0,[3])]}
 |156=>{b5:=[[.sc]]}
 |157=>{b5:=[[.sc]]}
 |158=>{b5:=[[.sc]]}
 |159=>{b5:=[[.sc]]}
 |160=>{b5:=[[.sc]]}
 |161=>{b5:=[[.sl [.sc],.sl [.sl [.sc]],.sl [.sc],.sl [.sc],.sc]],loops:=[(0,{bK:=[0,2,3,5]})],blocks:=[(1,[0,2,3,5]),(0,[0,2,3]),(2,[2,3])],m9:=[(1,[],[2]),(3,[],[1]),(7,[6,7,14],[9]),(10,[],[1]),(17,[3,5],[])],gg:=[(7,[0,1,2,3,4,6,5,7,8,9,10,11,12,13,14,15])],gM:=[(11,[],some [0,2,3,5,8,55])],wl:=[(18,[0,2,3]),(43,[0,2,3,5]),(55,[0,2,3,5]),(59,[2,3]),(65,[2,3]),(72,[2,3])]}
 |162=>{b5:=[[.sc]],wl:=[(11,[1,5])]}
 |163=>{b5:=[[.sc]]}
 |164=>{b5:=[[.sc]]}
 |165=>{b5:=[[.sl [.sc]]],loops:=[(0,{bK:=[0,3,4]})],blocks:=[(0,[0,3])],fz:=[(7,[(3,[([22],[.sl [.sc]])])])],wl:=[(19,[3])]}
 |166=>{b5:=[[.sl [.sc]]]}
 |167=>{b5:=[[.sc]],loops:=[(0,{bK:=[1,2,9,10,11]})],blocks:=[(0,[])]}
 |188=>{b5:=[[.sc]]}
 |279=>{b5:=[[.sl [.sc]]],wl:=[(6,[0,1]),(16,[0])]}
 |280=>{b5:=[[.sc]]}
 |281=>{b5:=[[.sc]],loops:=[(0,{bK:=[0,1,7,8]})],blocks:=[(0,[])]}
 |282=>{b5:=[[.sc]],wl:=[(13,[0,3])]}
 |_=>{}
noncomputable def code:FuncId→Option Func:=fun f=>match f with
 |3=>some Go.Proofs.Try.f3
 |14=>some Go.Proofs.Try.f14
 |15=>some Go.Proofs.Try.f15
 |16=>some Go.Proofs.Try.f16
 |17=>some Go.Proofs.Try.f17
 |18=>some Go.Proofs.Try.f18
 |19=>some Go.Proofs.Try.f19
 |20=>some Go.Proofs.Try.f20
 |21=>some Go.Proofs.Try.f21
 |22=>some Go.Proofs.Try.f22
 |23=>some Go.Proofs.Try.f23
 |24=>some Go.Proofs.Try.f24
 |25=>some Go.Proofs.Try.f25
 |26=>some Go.Proofs.Try.f26
 |27=>some Go.Proofs.Try.f27
 |28=>some Go.Proofs.Try.f28
 |29=>some Go.Proofs.Try.f29
 |30=>some Go.Proofs.Try.f30
 |146=>some Go.Proofs.Try.f146
 |147=>some Go.Proofs.Try.f147
 |148=>some Go.Proofs.Try.f148
 |149=>some Go.Proofs.Try.f149
 |150=>some Go.Proofs.Try.f150
 |151=>some Go.Proofs.Try.f151
 |152=>some Go.Proofs.Try.f152
 |153=>some Go.Proofs.Try.f153
 |154=>some Go.Proofs.Try.f154
 |155=>some Go.Proofs.Try.f155
 |156=>some Go.Proofs.Try.f156
 |157=>some Go.Proofs.Try.f157
 |158=>some Go.Proofs.Try.f158
 |159=>some Go.Proofs.Try.f159
 |160=>some Go.Proofs.Try.f160
 |161=>some Go.Proofs.Try.f161
 |162=>some Go.Proofs.Try.f162
 |163=>some Go.Proofs.Try.f163
 |164=>some Go.Proofs.Try.f164
 |165=>some Go.Proofs.Try.f165
 |167=>some Go.Proofs.Try.f167
 |188=>some Go.Proofs.Try.f188
 |279=>some Go.Proofs.Try.f279
 |280=>some Go.Proofs.Try.f280
 |281=>some Go.Proofs.Try.f281
 |282=>some Go.Proofs.Try.f282
 |_=>none
def LK:List (FuncId×Nat×Nat):=[(166,1,8)]
noncomputable def C:aH:=⟨E,gi,code,pC LK⟩
theorem gC:Good C:=Cy (ids:=LK) rfl
theorem RN:C.E=E:=rfl
theorem E3:E 3=some {sz:=1,agg:=false,zero:=[AV.int IntKind.i64 0],bytes:=8,au:=UD.it IntKind.i64,j9:=true}:=rfl
theorem E4:E 4=some {sz:=1,agg:=false,zero:=[AV.bool false],bytes:=1,au:=UD.bl,j9:=true}:=rfl
theorem E5:E 5=some {sz:=1,agg:=false,zero:=[AV.int IntKind.u8 0],bytes:=1,au:=UD.it IntKind.u8,j9:=true}:=rfl
theorem RO:E 22=some {sz:=1,agg:=false,zero:=[AV.nil],bytes:=24,au:=UD.sl 5,j9:=true}:=rfl
theorem RP:E 23=some {sz:=1,agg:=false,zero:=[AV.nil],bytes:=24,au:=UD.sl 3,j9:=true}:=rfl
theorem RQ:E 24=some {sz:=1,agg:=false,zero:=[AV.nil],bytes:=24,au:=UD.sl 23,j9:=true}:=rfl
theorem RR:E 26=some {sz:=5,agg:=true,zero:=[AV.nil,AV.nil,AV.nil,AV.nil,AV.int IntKind.i64 0],bytes:=104,au:=UD.st [(0,23),(1,24),(2,23),(3,23),(4,3)],j9:=true}:=rfl
theorem RS:E 162=some {sz:=1,agg:=false,zero:=[AV.undef],bytes:=8,au:=UD.ot,j9:=true}:=rfl
theorem RT:E 163=some {sz:=1,agg:=false,zero:=[AV.dr],bytes:=8,au:=UD.pt,j9:=true}:=rfl
theorem RU:E 164=some {sz:=1,agg:=false,zero:=[AV.int IntKind.u64 0],bytes:=8,au:=UD.it IntKind.u64,j9:=true}:=rfl
theorem RV:E 166=some {sz:=3,agg:=true,zero:=[AV.nil,AV.int IntKind.i64 0,AV.int IntKind.u64 0],bytes:=40,au:=UD.st [(0,22),(1,3),(2,164)],j9:=true}:=rfl
theorem EE:type_of% (And.intro @RN<|And.intro @E3<|And.intro @E4<|And.intro @E5<|And.intro @RO<|And.intro @RP<|And.intro @RQ<|And.intro @RR<|And.intro @RS<|And.intro @RT<|And.intro @RU @RV):=And.intro @RN<|And.intro @E3<|And.intro @E4<|And.intro @E5<|And.intro @RO<|And.intro @RP<|And.intro @RQ<|And.intro @RR<|And.intro @RS<|And.intro @RT<|And.intro @RU @RV
theorem RW (x:Ev):Ur x= .agg [.fz (x.Code.map (AV.int .u8)),.int .i64 x.Dr,.int .u64 x.D8]:=rfl
theorem RX (x:DJ):Uq x= .agg [.fz (x.Ds.map (AV.int .i64)),.fz (x.Dq.map (zE (AV.int .i64))),.fz (x.Dw.map (AV.int .i64)),.fz (x.Dx.map (AV.int .i64)),.int .i64 x.Dr]:=rfl
theorem EN:type_of% (And.intro @RW<|And.intro @RX<|And.intro @CC @uc):=And.intro @RW<|And.intro @RX<|And.intro @CC @uc
def Dv (a:AV) (_x:List Int):AV:=a
abbrev Du (x:List Int):List Int:=x
def EP (x:List Int):AV:= .own 1 ((Du x).map (AV.int .i64))
theorem H4 (a:AV) (x:List Int) (h:aJ a):(Dv a x).cells.length=1:=by
 first|rfl|(show a.cells.length=1;rw [h.cells];rfl)
theorem II (a:AV) (x:List Int) (H:J) (L:List It) (ha:aJ a) (hS:aq H (⟨a,1,(Du x).map (AV.int .i64)⟩::L)): ∃H',aR [.sl [.sc]] (Dv a x) H=some (EP x,H')∧aq H' L:=
 CM (fs:=[.sc]) (fun _ _=>by simp [aR,aP,dj]) ha hS
theorem IJ (x:List Int):cc (EP x)=true:=by
 simp [EP,cc,vK (c:=(AV.int .i64)) (fun _=>rfl)]
theorem IK (x:List Int) (H:J) (L:List It) (hS:aq H L): ∃a,aJ a∧(az (EP x) H).1=Dv a x∧aq (az (EP x) H).2 (⟨a,1,(Du x).map (AV.int .i64)⟩::L):=by
 obtain ⟨a,H1,h1,h2,h3⟩:=CW (c:=(AV.int .i64)) (n:=1) (fun _ _=>rfl) (fun _=>rfl) (Du x) H L hS;exact ⟨a,h1,by rw [show EP x= .own 1 ((Du x).map (AV.int .i64)) from rfl,h2];rfl,by rw [show EP x= .own 1 ((Du x).map (AV.int .i64)) from rfl,h2];exact h3⟩
theorem ab4 (x:List Int):bp (EP x)=(zE (AV.int .i64)) x:=by
 simp [EP,bp,uw (c:=(AV.int .i64)) (fun _=>rfl),zE]
theorem RY {a0:Ev} {i0:Nat} {w0:Nat} {r:(Int×Ev)} (h:Ll a0=some r) {F:List It} {H:J} (hS:aq H (⟨.ptr i0 w0 0 0,3,[.agg [.fz (a0.Code.map (AV.int .u8)),.int .i64 a0.Dr,.int .u64 a0.D8]]⟩::F)) {P:AV→J→Prop} (hP: ∀H',aq H' (⟨.ptr i0 w0 0 0,3,[.agg [.fz (r.2.Code.map (AV.int .u8)),.int .i64 r.2.Dr,.int .u64 r.2.D8]]⟩::F)→P (.int .i64 r.1) H'):aw C 282 [.ptr i0 w0 0 0] H P:=by
 refine Bn gC (res:=[.tmp 2]) (n:=62) rfl rfl rfl rfl fun K0 DQ=> ?_;simp only [W,Nat.reduceSub,Nat.reduceAdd,List.replicate];unfold Ll at h;refine AW fun K1 D5=> ?_;refine Bk gC ?_;try simp only [W,Nat.reduceAdd]
 refine A_ D5 ?_;refine AW fun K2 y7=> ?_;refine Bk gC ?_;try simp only [W,Nat.reduceAdd]
 refine A_ y7 ?_;refine AW fun K3 FV=> ?_;refine AW fun K4 Ez=> ?_;refine Bm gC (by kernel_rfl) ?_
 try simp only [W,EE,Nat.reduceAdd,Nat.reduceBEq,hS.var 0 rfl]
 refine A_ Ez ?_;obtain ⟨Us,h,g7⟩:=Option.bind_eq_some_iff.1 h;refine BG gC (fun s H=> ∃Et:Int,Us=(Et)∧s=(.ptr i0 w0 0 0::u::u:: .int .i64 Et::u::u::u::u::u::u::u::u::u::u::u::u::u::u::u::u::u::u::u::u::u::u::u::u::u::u::u::u::u::u::u::u::u::u::u::u::u::u::u::u::u::u::u::u::u::u::u::u::u::u::u::u::u::u::u::u::u::u::[])∧aq H (⟨.ptr i0 w0 0 0,3,[.agg [.fz (a0.Code.map (AV.int .u8)),.int .i64 a0.Dr,.int .u64 a0.D8]]⟩::F)) (fun K8 GP=> ?_) (fun s H hq=> ?_)
 ·refine AW fun K9 Gs=> ?_;refine A8 ?_;simp only [W];refine Bj h (fun hc h=> ?_) (fun hc h=> ?_)
  ·refine Bm gC (by kernel_rfl) ?_
   try simp only [W,EE,Nat.reduceAdd,Nat.reduceBEq,hS.var 0 rfl]
   refine Bv rfl rfl rfl (fun _=>rfl) h fun E6 RZ h=> ?_;try simp only [W,EE]
   refine A_ Gs ?_;refine C4 (s' :=(.ptr i0 w0 0 0::u::u:: .int .i64 (IntKind.i64.wrap E6)::u::u::u::u::u::u::u::u::u::u::u::u::u::u::u::u::u::u::u::u::u::u::u::u::u::u::u::u::u::u::u::u::u::u::u::u::u::u::u::u::u::u::u::u::u::u::u::u::u::u::u::u::u::u::u::u::u::u::[])) rfl ?_
   exact BH GP ⟨_,(Option.some.inj h).symm,rfl,hS⟩
  ·refine AY ?_;refine A_ Gs ?_;refine C4 (s' :=(.ptr i0 w0 0 0::u::u:: .int .i64 0::u::u::u::u::u::u::u::u::u::u::u::u::u::u::u::u::u::u::u::u::u::u::u::u::u::u::u::u::u::u::u::u::u::u::u::u::u::u::u::u::u::u::u::u::u::u::u::u::u::u::u::u::u::u::u::u::u::u::[])) rfl ?_
   exact BH GP ⟨_,(Option.some.inj h).symm,rfl,hS⟩
 ·obtain ⟨Et,En,rfl,hS⟩:=hq;obtain rfl:=En.symm;replace h:=g7;try dsimp only at h
  refine A_ FV ?_;refine AW fun IL EC=> ?_;refine Bk gC ?_;try simp only [W,EE,Nat.reduceAdd,Nat.reduceBEq,hS.var 0 rfl]
  refine Bt (a:= .int .i64 (IntKind.i64.wrap (a0.Dr+1))) (y' := .agg [.fz (a0.Code.map (AV.int .u8)),.int .i64 (IntKind.i64.wrap (a0.Dr+1)),.int .u64 a0.D8]) 0 hS rfl rfl rfl rfl rfl rfl rfl rfl fun H hS=> ?_
  try simp only [W]
  refine A_ EC ?_;refine AW fun Jt E9=> ?_;refine Bk gC ?_;try simp only [W,EE,Nat.reduceAdd,Nat.reduceBEq,hS.var 0 rfl]
  refine Bt (a:= .int .u64 (IntKind.u64.wrap ((IntKind.u64.wrap ((IntKind.u64.wrap (a0.D8*6364136223846793005))+(IntKind.u64.wrap Et)))+1442695040888963407))) (y' := .agg [.fz (a0.Code.map (AV.int .u8)),.int .i64 (IntKind.i64.wrap (a0.Dr+1)),.int .u64 (IntKind.u64.wrap ((IntKind.u64.wrap ((IntKind.u64.wrap (a0.D8*6364136223846793005))+(IntKind.u64.wrap Et)))+1442695040888963407))]) 0 hS rfl rfl rfl rfl rfl rfl rfl rfl fun H hS=> ?_
  try simp only [W]
  refine A_ E9 ?_;refine AW fun Oa Jb=> ?_;refine AW fun LL Hb=> ?_;refine Bm gC (by kernel_rfl) ?_
  try simp only [W,EE,Nat.reduceAdd,Nat.reduceBEq,hS.var 0 rfl]
  refine A_ Hb ?_;refine A8 ?_;simp only [W];refine Bj h (fun hc h=> ?_) (fun hc h=> ?_)
  ·refine AW fun Ob H7=> ?_;refine Bk gC ?_;try simp only [W,Nat.reduceAdd]
   refine A_ H7 ?_;refine AZ ?_;refine Ba Jb ?_;refine Bh DQ rfl ?_;try obtain rfl:=Option.some.inj h
   exact hP _ hS
  ·refine AY ?_;refine A_ Jb ?_;refine AW fun HI Fu=> ?_;refine Bk gC ?_;try simp only [W,EE,Nat.reduceAdd,Nat.reduceBEq,hS.var 0 rfl]
   rw [BK _ _ _ rfl,Option.map_some,sx];try simp only [W,EE]
   refine A_ Fu ?_;refine AZ ?_;refine Bh DQ rfl ?_;try obtain rfl:=Option.some.inj h
   exact hP _ hS
theorem Io {a0:Ev} {a1:Int} {i0:Nat} {w0:Nat} {r:(Int×Ev)} (h:Hg a0 a1=some r) {F:List It} {H:J} (hS:aq H (⟨.ptr i0 w0 0 0,3,[.agg [.fz (a0.Code.map (AV.int .u8)),.int .i64 a0.Dr,.int .u64 a0.D8]]⟩::F)) {P:AV→J→Prop} (hP: ∀H',aq H' (⟨.ptr i0 w0 0 0,3,[.agg [.fz (r.2.Code.map (AV.int .u8)),.int .i64 r.2.Dr,.int .u64 r.2.D8]]⟩::F)→P (.int .i64 r.1) H'):aw C 162 [.ptr i0 w0 0 0,.int .i64 a1] H P:=by
 refine Bn gC (res:=[.tmp 4]) (n:=20) rfl rfl rfl rfl fun K0 DQ=> ?_;simp only [W,Nat.reduceSub,Nat.reduceAdd,List.replicate];unfold Hg at h;refine AW fun K1 D5=> ?_;refine Bk gC ?_;try simp only [W,Nat.reduceAdd]
 refine A_ D5 ?_;refine AW fun K2 y7=> ?_;refine AW fun K3 FV=> ?_;refine Bk gC ?_;try simp only [W,EE,Nat.reduceAdd]
 refine A_ FV ?_;refine A8 ?_;simp only [W];refine Bj h (fun hc h=> ?_) (fun hc h=> ?_)
 ·refine AW fun K4 Ez=> ?_;refine Bk gC ?_;try simp only [W,Nat.reduceAdd]
  refine A_ Ez ?_;refine AZ ?_;refine Ba y7 ?_;refine Bh DQ rfl ?_;try obtain rfl:=Option.some.inj h
  exact hP _ hS
 ·refine AY ?_;refine A_ y7 ?_;refine AW fun K5 FA=> ?_;refine Bk gC ?_;try simp only [W,Nat.reduceAdd]
  refine BB h fun Dt GQ h=> ?_;obtain ⟨El,FF⟩:=Dt;try dsimp only at h
  refine RY GQ hS fun H hS=> ?_;try simp only [W]
  refine A_ FA ?_;refine AW fun K9 Gs=> ?_;refine AW fun Jc Fi=> ?_;refine Bk gC ?_;try simp only [W,EE,Nat.reduceAdd]
  refine A_ Fi ?_;obtain ⟨Pt,h,Pu⟩:=Option.bind_eq_some_iff.1 h;refine BG gC (fun s H=> ∃GX:Int,∃Fx:List Int,∃HQ:Int,∃GA:Int,Pt=(GX,Fx,HQ,GA)∧s=[u,.int .i64 a1,u,u,u,.int .i64 GX,u,u,u,u,u,u,u,u,u,u,u,u,u,u]∧aq H (⟨.ptr i0 w0 0 0,3,[.agg [.fz (Fx.map (AV.int .u8)),.int .i64 HQ,.int .u64 GA]]⟩::F)) (fun Ip Fj=> ?_) (fun s H hq=> ?_)
  ·refine AW fun IM FM=> ?_;refine A8 ?_;simp only [W];refine Bj h (fun hc h=> ?_) (fun hc h=> ?_)
   ·refine Bk gC ?_;try simp only [W,EE,Nat.reduceAdd]
    refine BB h fun Fp LM h=> ?_;obtain ⟨Dy,DO⟩:=Fp;try dsimp only at h
    refine RY LM hS fun H hS=> ?_;try simp only [W,EE]
    refine A_ FM ?_;refine A9 ?_;exact BH Fj ⟨_,_,_,_,(Option.some.inj h).symm,rfl,hS⟩
   ·refine AY ?_;refine A_ FM ?_;refine A9 ?_;exact BH Fj ⟨_,_,_,_,(Option.some.inj h).symm,rfl,hS⟩
  ·obtain ⟨GX,Fx,HQ,GA,rfl,rfl,hS⟩:=hq;replace h:=Pu;try dsimp only at h
   refine A_ Gs ?_;refine AW fun JU Gg=> ?_;refine Bk gC ?_;try simp only [W,EE,Nat.reduceAdd]
   refine Bq _ h fun G_ ab5 h=> ?_;try simp only [W]
   refine A_ Gg ?_;refine AZ ?_;refine Bh DQ rfl ?_;try obtain rfl:=Option.some.inj h
   exact hP _ hS
theorem R0 {a0:Ev} {a1:Int} {i0:Nat} {w0:Nat} {r:(Bool×Ev)} (h:Kb a0 a1=some r) {F:List It} {H:J} (hS:aq H (⟨.ptr i0 w0 0 0,3,[.agg [.fz (a0.Code.map (AV.int .u8)),.int .i64 a0.Dr,.int .u64 a0.D8]]⟩::F)) {P:AV→J→Prop} (hP: ∀H',aq H' (⟨.ptr i0 w0 0 0,3,[.agg [.fz (r.2.Code.map (AV.int .u8)),.int .i64 r.2.Dr,.int .u64 r.2.D8]]⟩::F)→P (.bool r.1) H'):aw C 188 [.ptr i0 w0 0 0,.int .i64 a1] H P:=by
 refine Bn gC (res:=[.tmp 4]) (n:=9) rfl rfl rfl rfl fun K0 DQ=> ?_;simp only [W,Nat.reduceSub,Nat.reduceAdd,List.replicate];unfold Kb at h;refine AW fun K1 D5=> ?_;refine Bk gC ?_;try simp only [W,Nat.reduceAdd]
 refine A_ D5 ?_;refine AW fun K2 y7=> ?_;refine Bk gC ?_;try simp only [W,Nat.reduceAdd]
 refine BB h fun b3 ky h=> ?_;obtain ⟨Gd,EO⟩:=b3;try dsimp only at h
 refine Io ky hS fun H hS=> ?_;try simp only [W,EE]
 refine A_ y7 ?_;refine AZ ?_;refine Bh DQ rfl ?_;try obtain rfl:=Option.some.inj h
 exact hP _ hS
theorem Ut {a0:Ev} {a1:List Int} {i0:Nat} {w0:Nat} {r:(Int×Ev)} (h:JN a0 a1=some r) {F:List It} {H:J} (hS:aq H (⟨.ptr i0 w0 0 0,3,[.agg [.fz (a0.Code.map (AV.int .u8)),.int .i64 a0.Dr,.int .u64 a0.D8]]⟩::F)) {P:AV→J→Prop} (hP: ∀H',aq H' (⟨.ptr i0 w0 0 0,3,[.agg [.fz (r.2.Code.map (AV.int .u8)),.int .i64 r.2.Dr,.int .u64 r.2.D8]]⟩::F)→P (.int .i64 r.1) H'):aw C 163 [.ptr i0 w0 0 0,.fz (a1.map (AV.int .i64))] H P:=by
 refine Bn gC (res:=[.tmp 4]) (n:=12) rfl rfl rfl rfl fun K0 DQ=> ?_;simp only [W,Nat.reduceSub,Nat.reduceAdd,List.replicate];unfold JN at h;refine AW fun K1 D5=> ?_;refine Bk gC ?_;try simp only [W,Nat.reduceAdd]
 refine A_ D5 ?_;refine AW fun K2 y7=> ?_;refine Bk gC ?_;try simp only [W,EE,Nat.reduceAdd]
 refine BB h fun b3 ky h=> ?_;obtain ⟨Gd,EO⟩:=b3;try dsimp only at h
 refine Io ky hS fun H hS=> ?_;try simp only [W,EE]
 refine Bv rfl rfl rfl (fun _=>rfl) h fun Dt GQ h=> ?_;try simp only [W,EE]
 refine A_ y7 ?_;refine AZ ?_;refine Bh DQ rfl ?_;try obtain rfl:=Option.some.inj h
 exact hP _ hS
theorem R1 {a0:Ev} {i0:Nat} {w0:Nat} {r:(List Int×Ev)} (h:Ln a0=some r) {F:List It} {H:J} (hS:aq H (⟨.ptr i0 w0 0 0,3,[.agg [.fz (a0.Code.map (AV.int .u8)),.int .i64 a0.Dr,.int .u64 a0.D8]]⟩::F)) {P:AV→J→Prop} (hP: ∀Fc:AV,aJ Fc→ ∀H',aq H' (⟨Fc,1,r.1.map (AV.int .i64)⟩::⟨.ptr i0 w0 0 0,3,[.agg [.fz (r.2.Code.map (AV.int .u8)),.int .i64 r.2.Dr,.int .u64 r.2.D8]]⟩::F)→P (Fc) H'):aw C 165 [.ptr i0 w0 0 0] H P:=by
 refine Bn gC (res:=[.tmp 2]) (n:=26) rfl rfl rfl rfl fun K0 DQ=> ?_;simp only [W,Nat.reduceSub,Nat.reduceAdd,List.replicate];unfold Ln at h;refine AW fun K1 D5=> ?_;refine Bk gC ?_;try simp only [W,Nat.reduceAdd]
 refine A_ D5 ?_;refine AW fun K2 y7=> ?_;refine Bk gC ?_;try simp only [W,Nat.reduceAdd]
 refine A_ y7 ?_;refine AW fun K3 FV=> ?_;refine AW fun K4 Ez=> ?_;refine Bk gC ?_;try simp only [W,Nat.reduceAdd]
 refine BB h fun EO M7 h=> ?_;obtain ⟨Dt,El⟩:=EO;try dsimp only at h
 refine Io M7 hS fun H hS=> ?_;try simp only [W,EE]
 refine A_ Ez ?_;obtain ⟨Pv,Pw,Oc⟩:=Option.bind_eq_some_iff.1 h;refine BG gC (fun s H=> ∃Kc:List Int,∃Fy:List Int,∃Me:Int,∃IA:Int,Pv=(Kc,Fy,Me,IA)∧ ∃FE:AV,aJ FE∧s=[.ptr i0 w0 0 0,u,u,FE,u,u,u,u,u,u,u,u,u,u,u,u,u,u,u,u,u,u,u,u,u,u]∧aq H (⟨FE,1,Kc.map (AV.int .i64)⟩::⟨.ptr i0 w0 0 0,3,[.agg [.fz (Fy.map (AV.int .u8)),.int .i64 Me,.int .u64 IA]]⟩::F)) (fun JU Gg=> ?_) (fun s H hq=> ?_)
 ·refine AX fun Od IN=> ?_;refine BC gC Pw (fun x s H=>match x with|(D9,GX,Fx,HQ,GA)=> ∃DE:AV,aJ DE∧s=[.ptr i0 w0 0 0,u,u,DE,.int .i64 GX,u,u,u,u,u,u,u,u,u,u,u,u,u,u,u,u,u,u,u,u,u]∧aq H (⟨DE,1,D9.map (AV.int .i64)⟩::⟨.ptr i0 w0 0 0,3,[.agg [.fz (Fx.map (AV.int .u8)),.int .i64 HQ,.int .u64 GA]]⟩::F)) ⟨_,lh,rfl,(hS.uo 1)⟩ (fun x Uu s H h Oe hi JV Gh=> ?_)
  obtain ⟨D9,GX,Fx,HQ,GA⟩:=x;try dsimp only at hi
  obtain ⟨DE,FW,rfl,hS⟩:=hi;simp only [NP] at h;refine AW fun M8 HJ=> ?_;refine AW fun M9 HK=> ?_;refine Bk gC ?_;try simp only [W,EE,Nat.reduceAdd]
  refine A_ HK ?_;refine A8 ?_;simp only [W];refine Bj h (fun hc h=> ?_) (fun hc h=> ?_)
  ·refine AY ?_;refine A_ HJ ?_;refine AW fun M_ H8=> ?_;refine AX fun Og IP=> ?_;refine Bk gC ?_;try simp only [W,Nat.reduceAdd]
   refine BB h fun N1 Uv h=> ?_;obtain ⟨Eu,HR⟩:=N1;try dsimp only at h
   refine Io Uv (hS.BT 2 [1,0] (by decide)) fun H hS=> ?_
   try simp only [W,EE]
   refine BA (el:=([(IntKind.i64.wrap (20+Eu))]:List Int).map (AV.int .i64)) hS rfl rfl rfl rfl rfl rfl rfl fun DF H GR hS=> ?_;try simp only [W,EE]
   refine BO (l:=D9) (c:=(AV.int .i64)) 2 hS rfl FW rfl rfl rfl (hS.gJ 0 rfl GR) (fun _=>rfl) rfl h fun EM H Hh Jd hm h hS=> ?_;try simp only [W]
   refine Bd IP ?_;refine A_ H8 ?_;refine Bk gC ?_;try simp only [W,EE,Nat.reduceAdd]
   exact BD Gh h ⟨_,Jd,rfl,(hS.BT 3 [2,1] (by decide))⟩
  ·refine A7 ?_;refine Bb HJ ?_;try obtain rfl:=Option.some.inj h
   obtain rfl:=Oe _ rfl;have h:(some (D9,Fx,HQ,GA):Option ((List Int)×(List Int)×Int×Int))=some (D9,Fx,HQ,GA):=rfl;refine BE Gh ?_;refine Be IN ?_;exact BH Gg ⟨_,_,_,_,(Option.some.inj h).symm,_,FW,rfl,hS⟩
 ·obtain ⟨Kc,Fy,Me,IA,rfl,FE,Hm,rfl,hS⟩:=hq;replace h:=Oc;try dsimp only at h
  refine A_ FV ?_;refine AW fun Oh Ju=> ?_;refine AW fun Na Iq=> ?_;refine Bk gC ?_;try simp only [W,Nat.reduceAdd]
  refine BB h fun DV Px h=> ?_;obtain ⟨EV,JO⟩:=DV;try dsimp only at h
  refine R0 Px (hS.BT 2 [1,0] (by decide)) fun H hS=> ?_
  try simp only [W]
  refine A_ Iq ?_;obtain ⟨Uw,h,Ux⟩:=Option.bind_eq_some_iff.1 h;refine BG gC (fun s H=> ∃Mf:List Int,∃Mg:List Int,∃Mh:Int,∃Mi:Int,Uw=(Mf,Mg,Mh,Mi)∧s=[u,u,u,FE,u,u,u,u,u,u,u,u,u,u,u,u,u,u,u,u,u,u,u,u,u,u]∧aq H (⟨FE,1,Mf.map (AV.int .i64)⟩::⟨.ptr i0 w0 0 0,3,[.agg [.fz (Mg.map (AV.int .u8)),.int .i64 Mh,.int .u64 Mi]]⟩::F)) (fun Uy Oi=> ?_) (fun s H hq=> ?_)
  ·refine AW fun Uz Oj=> ?_;refine A8 ?_;simp only [W];refine Bj h (fun hc h=> ?_) (fun hc h=> ?_)
   ·refine Bl (fz:=[(3,[([22],[.sl [.sc]])])]) gC ?_;try simp only [W,Nat.reduceAdd,Nat.reduceBEq]
    refine BA (el:=([19,100,101]:List Int).map (AV.int .i64)) hS rfl rfl rfl rfl rfl rfl rfl fun KB H Nb hS=> ?_;try simp only [W,Nat.reduceAdd]
    refine BP 0 hS rfl Nb rfl (fun _ _=>by simp [aR,aP,dj]) (fun _=>rfl) fun H rl hS=> ?_
    try simp only [W]
    refine BB h fun MT Py h=> ?_;obtain ⟨JP,Kd⟩:=MT;try dsimp only at h
    refine Ut Py hS fun H hS=> ?_;try simp only [W,EE,Nat.reduceAdd,Nat.reduceBEq]
    refine Bw 1 hS rfl rfl rfl rfl rfl h (fun NR UA UB UC Ok h Ol=> ?_) Hm.ne;obtain ⟨UE,R2,R3⟩:=hS.elem 1 rfl Ol Ok;try simp only [W,Nat.reduceAdd,Nat.reduceBEq]
    refine Bx (a:= .int .i64 JP) (y' :=JP) 1 hS rfl Ol Ok rfl rfl rfl rfl rfl rfl rfl fun H hS=> ?_
    try simp only [W,Nat.reduceAdd]
    refine A_ Oj ?_;refine A9 ?_;exact BH Oi ⟨_,_,_,_,(Option.some.inj h).symm,rfl,(hS.BT 2 [1,0] (by decide))⟩
   ·refine AY ?_;refine A_ Oj ?_;refine A9 ?_;exact BH Oi ⟨_,_,_,_,(Option.some.inj h).symm,rfl,(hS.BT 2 [1,0] (by decide))⟩
  ·obtain ⟨Mf,Mg,Mh,Mi,rfl,rfl,hS⟩:=hq;replace h:=Ux;try dsimp only at h
   refine A_ Ju ?_;refine AW fun UF Pz=> ?_;refine Bk gC ?_;try simp only [W,Nat.reduceAdd]
   refine A_ Pz ?_;refine AZ ?_;refine Bh DQ rfl ?_;try obtain rfl:=Option.some.inj h
   exact hP _ Hm _ hS
theorem Nc {a0:Int} {a1:Int} {a2:Int} {r:(Bool)} (h:Jo a0 a1 a2=some r) {F:List It} {H:J} (hS:aq H (F)) {P:AV→J→Prop} (hP: ∀H',aq H' (F)→P (.bool r) H'):aw C 164 [.int .i64 a0,.int .i64 a1,.int .i64 a2] H P:=by
 refine Bn gC (res:=[.tmp 6]) (n:=15) rfl rfl rfl rfl fun K0 DQ=> ?_;simp only [W,Nat.reduceSub,Nat.reduceAdd,List.replicate];unfold Jo at h;refine AW fun K1 D5=> ?_;refine Bk gC ?_;try simp only [W,Nat.reduceAdd]
 refine A_ D5 ?_;refine AW fun K2 y7=> ?_;refine Bk gC ?_;try simp only [W,EE,Nat.reduceAdd]
 refine BW h (fun hc h=> ?_) (fun hc h=> ?_)
 ·try simp only [W,EE,reduceIte,hc]
  refine A_ y7 ?_;refine AZ ?_;refine Bh DQ rfl ?_;try obtain rfl:=Option.some.inj h
  exact hP _ hS
 ·try simp only [W,hc]
  refine A_ y7 ?_;refine AZ ?_;refine Bh DQ rfl ?_;try obtain rfl:=Option.some.inj h
  exact hP _ hS
theorem Nd {a0:List Int} {a1:Int} {a2:Int} {r:(Bool)} (h:Jp a0 a1 a2=some r) {F:List It} {H:J} (hS:aq H (F)) {P:AV→J→Prop} (hP: ∀H',aq H' (F)→P (.bool r) H'):aw C 167 [.fz (a0.map (AV.int .i64)),.int .i64 a1,.int .i64 a2] H P:=by
 refine Bn gC (res:=[.tmp 6]) (n:=21) rfl rfl rfl rfl fun K0 DQ=> ?_;simp only [W,Nat.reduceSub,Nat.reduceAdd,List.replicate];unfold Jp at h;refine AW fun K1 D5=> ?_;refine Bk gC ?_;try simp only [W,Nat.reduceAdd]
 refine A_ D5 ?_;refine AW fun K2 y7=> ?_;refine AW fun K3 FV=> ?_;refine Bk gC ?_;try simp only [W,EE,Nat.reduceAdd]
 refine A_ FV ?_;obtain ⟨PA,PB,Nf⟩:=Option.bind_eq_some_iff.1 h;refine BG gC (fun s H=>PA=LR.next ()∧s=[u,u,u,u,u,u,u,u,u,u,u,u,u,u,u,u,u,u,u,u,u]∧aq H (F)) (fun K7 Fq=> ?_) (fun s H hq=> ?_)
 ·refine AX fun K8 GP=> ?_;refine BC gC PB (fun x s H=>s=[u,.int .i64 a1,.int .i64 a2,u,u,u,u,u,u,.fz (a0.map (AV.int .i64)),.int .i64 (a0.length:Int),.int .i64 x,u,u,u,u,u,u,u,u,u]∧aq H (F)) ⟨rfl,hS⟩ (fun Ed UG s H h Ng hi K9 Gs=> ?_)
  skip
  try dsimp only at hi
  obtain ⟨rfl,hS⟩:=hi;simp only [Mj] at h;refine AW fun Oa Jb=> ?_;refine Bk gC ?_;try simp only [W,EE,Nat.reduceAdd]
  refine A_ Jb ?_;refine AW fun LL Hb=> ?_;refine A8 ?_;simp only [W];refine Bj h (fun hc h=> ?_) (fun hc h=> ?_)
  ·refine AY ?_;refine A_ Hb ?_;refine AW fun Ob H7=> ?_;refine AX fun HI Fu=> ?_;refine AW fun Ip Fj=> ?_;refine Bk gC ?_;try simp only [W,EE,Nat.reduceAdd]
   refine Bv rfl rfl rfl (fun _=>rfl) h fun Rt ab6 h=> ?_;try simp only [W,EE]
   refine A_ Fj ?_;refine AW fun KC G6=> ?_;refine Bk gC ?_;try simp only [W,Nat.reduceAdd]
   refine BB h fun Dy PC h=> ?_;refine Nc PC hS fun H hS=> ?_;try simp only [W]
   refine A_ G6 ?_;refine A8 ?_;simp only [W];refine Bj h (fun hc h=> ?_) (fun hc h=> ?_)
   ·refine AW fun KD GS=> ?_;refine Bk gC ?_;try simp only [W,Nat.reduceAdd]
    refine A_ GS ?_;refine AZ ?_;refine Bf Fu ?_;refine Ba H7 ?_;try obtain rfl:=Option.some.inj h
    obtain rfl:=Ng _ rfl;have h:(some (LR.done false):Option (LR Unit (Bool)))=some (LR.done false):=rfl;refine BF Gs ?_;refine Bf GP ?_;try obtain rfl:=Option.some.inj h
    obtain rfl:=Option.some.inj Nf;have h:(some false:Option (Bool))=some false:=rfl;refine BI Fq ?_;refine Ba y7 ?_;refine Bh DQ rfl ?_;try obtain rfl:=Option.some.inj h
    exact hP _ hS
   ·refine AY ?_;refine Bd Fu ?_;refine A_ H7 ?_;refine Bk gC ?_;try simp only [W,EE,Nat.reduceAdd]
    exact BD Gs h ⟨rfl,hS⟩
  ·refine A7 ?_;refine Bb Hb ?_;try obtain rfl:=Option.some.inj h
   obtain rfl:=Ng _ rfl;have h:(some (LR.next ()):Option (LR Unit (Bool)))=some (LR.next ()):=rfl
   refine BE Gs ?_;refine Be GP ?_;exact BH Fq ⟨(Option.some.inj h).symm,rfl,hS⟩
 ·obtain ⟨rfl,rfl,hS⟩:=hq;replace h:=Nf;try dsimp only at h
  refine A_ y7 ?_;refine AW fun M8 HJ=> ?_;refine Bk gC ?_;try simp only [W,Nat.reduceAdd]
  refine A_ HJ ?_;refine AZ ?_;refine Bh DQ rfl ?_;try obtain rfl:=Option.some.inj h
  exact hP _ hS
theorem PD {a0:List Int} {r:(DJ×Bool)} (h:IB a0=some r) {F:List It} {H:J} (hS:aq H (F)) {P:AV→J→Prop} (hP: ∀DF:AV,aJ DF→ ∀DC:AV,aJ DC→ ∀d39:List AV,bI d39 (r.1.Dq).length→ ∀F3:AV,aJ F3→ ∀Ir:AV,aJ Ir→ ∀H',aq H' (⟨DF,1,r.1.Ds.map (AV.int .i64)⟩::⟨DC,1,bg Dv d39 r.1.Dq⟩::⟨F3,1,r.1.Dw.map (AV.int .i64)⟩::⟨Ir,1,r.1.Dx.map (AV.int .i64)⟩::((bG Du (AV.int .i64) 1 d39 r.1.Dq) ++ F))→P (.aE [.agg [DF,DC,F3,Ir,.int .i64 r.1.Dr],.bool r.2]) H'):aw C 30 [.fz (a0.map (AV.int .i64))] H P:=by
 refine Bn gC (res:=[.cell 2 26,.tmp 3]) (n:=26) rfl rfl rfl rfl fun K0 DQ=> ?_;simp only [W,Nat.reduceSub,Nat.reduceAdd,List.replicate];unfold IB at h;refine AW fun K1 D5=> ?_;refine Bk gC ?_;try simp only [W,Nat.reduceAdd]
 refine Bs hS rfl rfl fun Dz DA H hS=> ?_;try simp only [W]
 refine A_ D5 ?_;refine AW fun K4 Ez=> ?_;refine Bk gC ?_;try simp only [W,EE,Nat.reduceAdd]
 refine A_ Ez ?_;refine AW fun K5 FA=> ?_;refine AW fun K6 Fk=> ?_;obtain ⟨Hn,h,Nh⟩:=Option.bind_eq_some_iff.1 h;refine BG gC (fun s H=> ∃Er:Bool,Hn=(Er)∧s=[.fz (a0.map (AV.int .i64)),u,.ptr Dz DA 0 0,u,.int .i64 (a0.length:Int),u,u,u,u,u,u,u,u,u,.bool Er,u,u,u,u,u,u,u,u,u,u,u]∧aq H (⟨.ptr Dz DA 0 0,5,[.agg [.nil,.nil,.nil,.nil,.int .i64 0]]⟩::F)) (fun Jc Fi=> ?_) (fun s H hq=> ?_)
 ·refine AW fun IL EC=> ?_;refine Bk gC ?_;try simp only [W,Nat.reduceAdd]
  refine BB h fun FG Ho h=> ?_;refine Nc Ho hS fun H hS=> ?_;try simp only [W]
  refine BW h (fun hc h=> ?_) (fun hc h=> ?_)
  ·try simp only [W,hc]
   refine A_ EC ?_;refine A9 ?_;exact BH Fi ⟨_,(Option.some.inj h).symm,rfl,hS⟩
  ·try simp only [W,hc]
   refine BB h fun GJ IQ h=> ?_;refine Nd IQ hS fun H hS=> ?_;try simp only [W,reduceIte,Bool.false_eq_true]
   refine A_ EC ?_;refine A9 ?_;exact BH Fi ⟨_,(Option.some.inj h).symm,rfl,hS⟩
 ·obtain ⟨Er,En,rfl,hS⟩:=hq;obtain rfl:=En.symm;replace h:=Nh;try dsimp only at h
  refine A_ Fk ?_;refine A8 ?_;simp only [W];refine Bj h (fun hc h=> ?_) (fun hc h=> ?_)
  ·refine AW fun LL Hb=> ?_;refine Bk gC ?_;try simp only [W,EE,Nat.reduceAdd]
   refine BX rfl rfl rfl rfl rfl ?_;try simp only [W]
   refine Bt (a:= .agg [.nil,.nil,.nil,.nil,.int .i64 0]) (y' := .agg [.nil,.nil,.nil,.nil,.int .i64 0]) 0 hS rfl rfl rfl rfl rfl rfl rfl rfl fun H hS=> ?_
   try simp only [W]
   refine A_ Hb ?_;refine AZ ?_;refine Ba FA ?_;have hS:=hS.uo 1;have hS:=hS.uo 1;obtain ⟨d17,UH,hS⟩:=CI (p:=Du) (c:=(AV.int .i64)) (z:=1) (m:=Dv) hS;have hS:aq _ (⟨AV.nil,1,bg Dv d17 ([]:List (List Int))⟩::⟨AV.nil,1,([]:List Int).map (AV.int .i64)⟩::⟨.ptr Dz DA 0 0,5,[.agg [.nil,.nil,.nil,.nil,.int .i64 0]]⟩::((bG Du (AV.int .i64) 1 d17 ([]:List (List Int))) ++ (F))):=aq.CG (bl:=[[⟨AV.nil,1,bg Dv d17 ([]:List (List Int))⟩],(bG Du (AV.int .i64) 1 d17 ([]:List (List Int))),[⟨AV.nil,1,([]:List Int).map (AV.int .i64)⟩],[⟨.ptr Dz DA 0 0,5,[.agg [.nil,.nil,.nil,.nil,.int .i64 0]]⟩]]) (F:=F) hS 4 rfl [0,2,3,1] (by decide)
   have hS:=hS.uo 1;have hS:=hS.uo 1;refine Bg DQ (BU rfl rfl (hS.var 4 rfl) rfl (BV rfl rfl)) ?_;try obtain rfl:=Option.some.inj h
   have hS:aq _ (⟨AV.nil,1,([]:List Int).map (AV.int .i64)⟩::⟨AV.nil,1,bg Dv d17 ([]:List (List Int))⟩::⟨AV.nil,1,([]:List Int).map (AV.int .i64)⟩::⟨AV.nil,1,([]:List Int).map (AV.int .i64)⟩::((bG Du (AV.int .i64) 1 d17 ([]:List (List Int))) ++ (F))):=aq.CG (bl:=[[⟨AV.nil,1,([]:List Int).map (AV.int .i64)⟩],[⟨AV.nil,1,([]:List Int).map (AV.int .i64)⟩],[⟨AV.nil,1,bg Dv d17 ([]:List (List Int))⟩],[⟨AV.nil,1,([]:List Int).map (AV.int .i64)⟩],[⟨.ptr Dz DA 0 0,5,[.agg [.nil,.nil,.nil,.nil,.int .i64 0]]⟩],(bG Du (AV.int .i64) 1 d17 ([]:List (List Int)))]) (F:=F) hS 6 rfl [3,2,1,0,5] (by decide)
   exact hP _ lh _ lh _ UH _ lh _ lh _ hS
  ·refine AY ?_;refine A_ FA ?_;refine AW fun KE GU=> ?_;refine BY gC [(10,[])] (by kernel_rfl) rfl (by kernel_rfl) ?_
   try simp only [W,reduceIte,Nat.reduceAdd,iG,ln,Nat.reduceEqDiff]
   refine Bz rfl rfl ?_;try simp only [W]
   refine B7 rfl ?_;simp only [W,EE];have hS:=hS.zx 1;refine BO (l:=([]:List Int)) (c:=(AV.int .i64)) 0 hS rfl mS rfl rfl rfl rfl (fun _=>rfl) rfl h fun FJ H Lo Hc hm h hS=> ?_;try simp only [W]
   refine CR (m:=Dv) (p:=Du) (c:=(AV.int .i64)) (z:=1) hS rfl rfl rfl rfl rfl rfl rfl h fun D1 H I4 d28 GD KF hm h hS=> ?_;have hS:aq _ (⟨D1,1,bg Dv d28 I4⟩::⟨FJ,1,Lo.map (AV.int .i64)⟩::⟨.ptr Dz DA 0 0,5,[.agg [.nil,.nil,.nil,.nil,.int .i64 0]]⟩::((bG Du (AV.int .i64) 1 d28 I4) ++ (F))):=aq.CG (bl:=[[⟨D1,1,bg Dv d28 I4⟩],(bG Du (AV.int .i64) 1 d28 I4),[⟨FJ,1,Lo.map (AV.int .i64)⟩],[⟨.ptr Dz DA 0 0,5,[.agg [.nil,.nil,.nil,.nil,.int .i64 0]]⟩]]) (F:=F) hS 4 rfl [0,2,3,1] (by decide)
   try simp only [W]
   refine zw (c:=(AV.int .i64)) hS rfl rfl rfl rfl rfl rfl h fun Em H Ii HL hm h hS=> ?_;try simp only [W]
   refine zw (c:=(AV.int .i64)) hS rfl rfl rfl rfl rfl rfl h fun DB H Eo Gi hm h hS=> ?_;try simp only [W,EE]
   refine BX rfl rfl rfl rfl (by simp only [fB,Hc.By,Hc.cells,GD.By,GD.cells,HL.By,HL.cells,Gi.By,Gi.cells];simp [E,splice]<;>rfl) ?_
   try simp only [W]
   refine Bt (a:= .agg [FJ,D1,Em,DB,.int .i64 0]) (y' := .agg [FJ,D1,Em,DB,.int .i64 0]) 4 hS rfl rfl rfl rfl rfl (by simp only [di,List.all_cons,List.all_nil,Hc.pL,GD.pL,HL.pL,Gi.pL];rfl) rfl rfl fun H hS=> ?_
   try simp only [W]
   refine A_ GU ?_;refine AZ ?_;refine Bg DQ (BU rfl rfl (hS.var 4 rfl) rfl (BV rfl rfl)) ?_;try obtain rfl:=Option.some.inj h
   have hS:aq _ (⟨FJ,1,Lo.map (AV.int .i64)⟩::⟨D1,1,bg Dv d28 I4⟩::⟨Em,1,Ii.map (AV.int .i64)⟩::⟨DB,1,Eo.map (AV.int .i64)⟩::((bG Du (AV.int .i64) 1 d28 I4) ++ (F))):=aq.CG (bl:=[[⟨DB,1,Eo.map (AV.int .i64)⟩],[⟨Em,1,Ii.map (AV.int .i64)⟩],[⟨D1,1,bg Dv d28 I4⟩],[⟨FJ,1,Lo.map (AV.int .i64)⟩],[⟨.ptr Dz DA 0 0,5,[.agg [FJ,D1,Em,DB,.int .i64 0]]⟩],(bG Du (AV.int .i64) 1 d28 I4)]) (F:=F) hS 6 rfl [3,2,1,0,5] (by decide)
   exact hP _ Hc _ GD _ KF _ HL _ Gi _ hS
theorem Ni {a0:DJ} {r:(Bool)} (h:Jq a0=some r) {F:List It} {H:J} (hS:aq H (F)) {P:AV→J→Prop} (hP: ∀H',aq H' (F)→P (.bool r) H'):aw C 149 [.agg [.fz (a0.Ds.map (AV.int .i64)),.fz (a0.Dq.map (zE (AV.int .i64))),.fz (a0.Dw.map (AV.int .i64)),.fz (a0.Dx.map (AV.int .i64)),.int .i64 a0.Dr]] H P:=by
 refine Bn gC (res:=[.tmp 2]) (n:=89) rfl rfl rfl rfl fun K0 DQ=> ?_;simp only [W,Nat.reduceSub,Nat.reduceAdd,List.replicate];unfold Jq at h;refine AW fun K1 D5=> ?_;refine Bk gC ?_;try simp only [W,Nat.reduceAdd]
 refine Br hS rfl rfl rfl rfl fun Dz DA H hS=> ?_;try simp only [W]
 refine A_ D5 ?_;refine AW fun K4 Ez=> ?_;refine Bk gC ?_;try simp only [W,EE,Nat.reduceAdd,Nat.reduceBEq,hS.var 0 rfl]
 refine A_ Ez ?_;refine AW fun K5 FA=> ?_;refine AW fun K6 Fk=> ?_;obtain ⟨Hn,h,Nh⟩:=Option.bind_eq_some_iff.1 h;refine BG gC (fun s H=> ∃Er:Bool,Hn=(Er)∧s=(u:: .ptr Dz DA 0 0::u::u::u::u::u::u::u::u::u::u::u::u::u::u::u::u::u::u::u::u::u::u::u::u::u::u::u::u::u::u::u::u::u::u::u::u::u::u::u::u::u::u::u::u::u::u::u::u::u::u::u::u::u::u::u::u:: .bool Er::u::u::u::u::u::u::u::u::u::u::u::u::u::u::u::u::u::u::u::u::u::u::u::u::u::u::u::u::u::u::[])∧aq H (⟨.ptr Dz DA 0 0,5,[.agg [.fz (a0.Ds.map (AV.int .i64)),.fz (a0.Dq.map (zE (AV.int .i64))),.fz (a0.Dw.map (AV.int .i64)),.fz (a0.Dx.map (AV.int .i64)),.int .i64 a0.Dr]]⟩::F)) (fun Jc Fi=> ?_) (fun s H hq=> ?_)
 ·refine AW fun IL EC=> ?_;refine Bk gC ?_;try simp only [W,Nat.reduceAdd]
  refine BB h fun FG Ho h=> ?_;refine Nc Ho hS fun H hS=> ?_;try simp only [W]
  refine BW h (fun hc h=> ?_) (fun hc h=> ?_)
  ·try simp only [W,hc]
   refine A_ EC ?_;refine C4 (s' :=(u:: .ptr Dz DA 0 0::u::u::u::u::u::u::u::u::u::u::u::u::u::u::u::u::u::u::u::u::u::u::u::u::u::u::u::u::u::u::u::u::u::u::u::u::u::u::u::u::u::u::u::u::u::u::u::u::u::u::u::u::u::u::u::u:: .bool true::u::u::u::u::u::u::u::u::u::u::u::u::u::u::u::u::u::u::u::u::u::u::u::u::u::u::u::u::u::u::[])) rfl ?_
   exact BH Fi ⟨_,(Option.some.inj h).symm,rfl,hS⟩
  ·try simp only [W,EE,Nat.reduceAdd,Nat.reduceBEq,hS.var 0 rfl,hc]
   refine BB h fun GJ IQ h=> ?_;refine Nd IQ hS fun H hS=> ?_;try simp only [W,reduceIte,Bool.false_eq_true]
   refine BW h (fun hc h=> ?_) (fun hc h=> ?_)
   ·try simp only [W,hc]
    refine A_ EC ?_;refine C4 (s' :=(u:: .ptr Dz DA 0 0::u::u::u::u::u::u::u::u::u::u::u::u::u::u::u::u::u::u::u::u::u::u::u::u::u::u::u::u::u::u::u::u::u::u::u::u::u::u::u::u::u::u::u::u::u::u::u::u::u::u::u::u::u::u::u::u:: .bool true::u::u::u::u::u::u::u::u::u::u::u::u::u::u::u::u::u::u::u::u::u::u::u::u::u::u::u::u::u::u::[])) rfl ?_
    exact BH Fi ⟨_,(Option.some.inj h).symm,rfl,hS⟩
   ·try simp only [W,EE,reduceIte,Nat.reduceAdd,Nat.reduceBEq,Bool.false_eq_true,hS.var 0 rfl,hc]
    refine BW h (fun hc h=> ?_) (fun hc h=> ?_)
    ·try simp only [W,hc]
     refine A_ EC ?_;refine C4 (s' :=(u:: .ptr Dz DA 0 0::u::u::u::u::u::u::u::u::u::u::u::u::u::u::u::u::u::u::u::u::u::u::u::u::u::u::u::u::u::u::u::u::u::u::u::u::u::u::u::u::u::u::u::u::u::u::u::u::u::u::u::u::u::u::u::u:: .bool true::u::u::u::u::u::u::u::u::u::u::u::u::u::u::u::u::u::u::u::u::u::u::u::u::u::u::u::u::u::u::[])) rfl ?_
     exact BH Fi ⟨_,(Option.some.inj h).symm,rfl,hS⟩
    ·try simp only [W,EE,reduceIte,Nat.reduceAdd,Nat.reduceBEq,Bool.false_eq_true,hS.var 0 rfl,hc]
     refine BW h (fun hc h=> ?_) (fun hc h=> ?_)
     ·try simp only [W,hc]
      refine A_ EC ?_;refine C4 (s' :=(u:: .ptr Dz DA 0 0::u::u::u::u::u::u::u::u::u::u::u::u::u::u::u::u::u::u::u::u::u::u::u::u::u::u::u::u::u::u::u::u::u::u::u::u::u::u::u::u::u::u::u::u::u::u::u::u::u::u::u::u::u::u::u::u:: .bool true::u::u::u::u::u::u::u::u::u::u::u::u::u::u::u::u::u::u::u::u::u::u::u::u::u::u::u::u::u::u::[])) rfl ?_
      exact BH Fi ⟨_,(Option.some.inj h).symm,rfl,hS⟩
     ·try simp only [W,EE,reduceIte,Nat.reduceAdd,Nat.reduceBEq,Bool.false_eq_true,hS.var 0 rfl,hc]
      refine BW h (fun hc h=> ?_) (fun hc h=> ?_)
      ·try simp only [W,hc]
       refine A_ EC ?_;refine C4 (s' :=(u:: .ptr Dz DA 0 0::u::u::u::u::u::u::u::u::u::u::u::u::u::u::u::u::u::u::u::u::u::u::u::u::u::u::u::u::u::u::u::u::u::u::u::u::u::u::u::u::u::u::u::u::u::u::u::u::u::u::u::u::u::u::u::u:: .bool true::u::u::u::u::u::u::u::u::u::u::u::u::u::u::u::u::u::u::u::u::u::u::u::u::u::u::u::u::u::u::[])) rfl ?_
       exact BH Fi ⟨_,(Option.some.inj h).symm,rfl,hS⟩
      ·try simp only [W,EE,Nat.reduceAdd,Nat.reduceBEq,hS.var 0 rfl,hc]
       refine BB h fun IC KG h=> ?_;refine Nd KG hS fun H hS=> ?_;try simp only [W,reduceIte,Bool.false_eq_true]
       refine BW h (fun hc h=> ?_) (fun hc h=> ?_)
       ·try simp only [W,hc]
        refine A_ EC ?_;refine C4 (s' :=(u:: .ptr Dz DA 0 0::u::u::u::u::u::u::u::u::u::u::u::u::u::u::u::u::u::u::u::u::u::u::u::u::u::u::u::u::u::u::u::u::u::u::u::u::u::u::u::u::u::u::u::u::u::u::u::u::u::u::u::u::u::u::u::u:: .bool true::u::u::u::u::u::u::u::u::u::u::u::u::u::u::u::u::u::u::u::u::u::u::u::u::u::u::u::u::u::u::[])) rfl ?_
        exact BH Fi ⟨_,(Option.some.inj h).symm,rfl,hS⟩
       ·try simp only [W,EE,Nat.reduceAdd,Nat.reduceBEq,hS.var 0 rfl,hc]
        refine BB h fun EY Je h=> ?_;refine Nd Je hS fun H hS=> ?_;try simp only [W,reduceIte,Bool.false_eq_true]
        refine BW h (fun hc h=> ?_) (fun hc h=> ?_)
        ·try simp only [W,hc]
         refine A_ EC ?_;refine C4 (s' :=(u:: .ptr Dz DA 0 0::u::u::u::u::u::u::u::u::u::u::u::u::u::u::u::u::u::u::u::u::u::u::u::u::u::u::u::u::u::u::u::u::u::u::u::u::u::u::u::u::u::u::u::u::u::u::u::u::u::u::u::u::u::u::u::u:: .bool true::u::u::u::u::u::u::u::u::u::u::u::u::u::u::u::u::u::u::u::u::u::u::u::u::u::u::u::u::u::u::[])) rfl ?_
         exact BH Fi ⟨_,(Option.some.inj h).symm,rfl,hS⟩
        ·try simp only [W,EE,Nat.reduceAdd,Nat.reduceBEq,hS.var 0 rfl,hc]
         refine BB h fun Lp R4 h=> ?_;refine Nc R4 hS fun H hS=> ?_;try simp only [W,reduceIte,Bool.false_eq_true]
         refine A_ EC ?_;refine C4 (s' :=(u:: .ptr Dz DA 0 0::u::u::u::u::u::u::u::u::u::u::u::u::u::u::u::u::u::u::u::u::u::u::u::u::u::u::u::u::u::u::u::u::u::u::u::u::u::u::u::u::u::u::u::u::u::u::u::u::u::u::u::u::u::u::u::u:: .bool (!Lp)::u::u::u::u::u::u::u::u::u::u::u::u::u::u::u::u::u::u::u::u::u::u::u::u::u::u::u::u::u::u::[])) rfl ?_
         exact BH Fi ⟨_,(Option.some.inj h).symm,rfl,hS⟩
 ·obtain ⟨Er,En,rfl,hS⟩:=hq;obtain rfl:=En.symm;replace h:=Nh;try dsimp only at h
  refine A_ Fk ?_;refine A8 ?_;simp only [W];refine Bj h (fun hc h=> ?_) (fun hc h=> ?_)
  ·refine AW fun Ip Fj=> ?_;refine Bk gC ?_;try simp only [W,Nat.reduceAdd]
   refine A_ Fj ?_;refine AZ ?_;refine Ba FA ?_;refine Bh DQ rfl ?_;try obtain rfl:=Option.some.inj h
   exact hP _ (hS.BT 1 [] (by decide))
  ·refine AY ?_;refine A_ FA ?_;refine AW fun IM FM=> ?_;refine AW fun KC G6=> ?_;refine Bk gC ?_;try simp only [W,EE,Nat.reduceAdd,Nat.reduceBEq,hS.var 0 rfl]
   refine A_ G6 ?_;obtain ⟨PE,UI,R5⟩:=Option.bind_eq_some_iff.1 h;refine BG gC (fun s H=>PE=LR.next ()∧s=(u::u::u::u::u::u::u::u::u::u::u::u::u::u::u::u::u::u::u::u::u::u::u::u::u::u::u::u::u::u::u::u::u::u::u::u::u::u::u::u::u::u::u::u::u::u::u::u::u::u::u::u::u::u::u::u::u::u::u::u::u::u::u::u::u::u::u::u::u::u::u::u::u::u::u::u::u::u::u::u::u::u::u::u::u::u::u::u::u::[])∧aq H (F)) (fun Od IN=> ?_) (fun s H hq=> ?_)
   ·refine AX fun JV Gh=> ?_;refine BC gC UI (fun x s H=>s=(u:: .ptr Dz DA 0 0::u::u::u::u::u::u::u::u::u::u::u::u::u::u::u::u::u::u::u::u::u::u::u::u::u::u::u::u::u::u::u::u::u::u::u::u::u::u::u::u::u::u::u::u::u::u::u::u::u::u::u::u::u::u::u::u::u::u:: .fz (a0.Dq.map (zE (AV.int .i64))):: .int .i64 (a0.Dq.length:Int):: .int .i64 x::u::u::u::u::u::u::u::u::u::u::u::u::u::u::u::u::u::u::u::u::u::u::u::u::u::u::[])∧aq H (⟨.ptr Dz DA 0 0,5,[.agg [.fz (a0.Ds.map (AV.int .i64)),.fz (a0.Dq.map (zE (AV.int .i64))),.fz (a0.Dw.map (AV.int .i64)),.fz (a0.Dx.map (AV.int .i64)),.int .i64 a0.Dr]]⟩::F)) ⟨rfl,hS⟩ (fun GB y27 s H h R6 hi K25 PF=> ?_)
    skip
    try dsimp only at hi
    obtain ⟨rfl,hS⟩:=hi;simp only [Mk] at h;refine AW fun M9 HK=> ?_;refine Bk gC ?_;try simp only [W,EE,Nat.reduceAdd]
    refine A_ HK ?_;refine AW fun M_ H8=> ?_;refine A8 ?_;simp only [W];refine Bj h (fun hc h=> ?_) (fun hc h=> ?_)
    ·refine AY ?_;refine A_ H8 ?_;refine AW fun Og IP=> ?_;refine AX fun R7 KH=> ?_;refine AW fun Om Jv=> ?_;refine Bk gC ?_;try simp only [W,EE,Nat.reduceAdd]
     refine Bv rfl rfl rfl (fun _=>rfl) h fun HR UJ h=> ?_;try simp only [W,EE,EN]
     refine A_ Jv ?_;refine AW fun PG Jw=> ?_;obtain ⟨PH,h,Nj⟩:=Option.bind_eq_some_iff.1 h;refine BG gC (fun s H=> ∃EW:Bool,PH=(EW)∧s=(u:: .ptr Dz DA 0 0::u::u::u::u::u::u::u::u::u::u::u::u::u::u::u::u::u::u::u::u::u::u::u::u::u::u::u::u::u::u::u::u::u::u::u::u::u::u::u::u::u::u::u::u::u::u::u::u::u::u::u::u::u::u::u::u::u::u:: .fz (a0.Dq.map (zE (AV.int .i64))):: .int .i64 (a0.Dq.length:Int):: .int .i64 GB::u::u::u::u::u::u::u::u::u::u::u::u::u::u::u::u::u::u::u::u::u::u::u::u:: .bool EW::u::[])∧aq H (⟨.ptr Dz DA 0 0,5,[.agg [.fz (a0.Ds.map (AV.int .i64)),.fz (a0.Dq.map (zE (AV.int .i64))),.fz (a0.Dw.map (AV.int .i64)),.fz (a0.Dx.map (AV.int .i64)),.int .i64 a0.Dr]]⟩::F)) (fun PI Jf=> ?_) (fun s H hq=> ?_)
     ·refine AW fun PJ Is=> ?_;refine Bk gC ?_;try simp only [W,EE,Nat.reduceAdd]
      refine BW h (fun hc h=> ?_) (fun hc h=> ?_)
      ·try simp only [W,hc]
       refine A_ Is ?_;refine C4 (s' :=(u:: .ptr Dz DA 0 0::u::u::u::u::u::u::u::u::u::u::u::u::u::u::u::u::u::u::u::u::u::u::u::u::u::u::u::u::u::u::u::u::u::u::u::u::u::u::u::u::u::u::u::u::u::u::u::u::u::u::u::u::u::u::u::u::u::u:: .fz (a0.Dq.map (zE (AV.int .i64))):: .int .i64 (a0.Dq.length:Int):: .int .i64 GB::u::u::u::u::u::u::u::u::u::u::u::u::u::u::u::u::u::u::u::u::u::u::u::u:: .bool true::u::[])) rfl ?_
       exact BH Jf ⟨_,(Option.some.inj h).symm,rfl,hS⟩
      ·try simp only [W,hc]
       refine BB h fun Ru UK h=> ?_;refine Nd UK hS fun H hS=> ?_;try simp only [W,reduceIte,Bool.false_eq_true]
       refine BW h (fun hc h=> ?_) (fun hc h=> ?_)
       ·try simp only [W,hc]
        refine A_ Is ?_;refine C4 (s' :=(u:: .ptr Dz DA 0 0::u::u::u::u::u::u::u::u::u::u::u::u::u::u::u::u::u::u::u::u::u::u::u::u::u::u::u::u::u::u::u::u::u::u::u::u::u::u::u::u::u::u::u::u::u::u::u::u::u::u::u::u::u::u::u::u::u::u:: .fz (a0.Dq.map (zE (AV.int .i64))):: .int .i64 (a0.Dq.length:Int):: .int .i64 GB::u::u::u::u::u::u::u::u::u::u::u::u::u::u::u::u::u::u::u::u::u::u::u::u:: .bool true::u::[])) rfl ?_
        exact BH Jf ⟨_,(Option.some.inj h).symm,rfl,hS⟩
       ·try simp only [W,EE,hc]
        refine BW h (fun hc h=> ?_) (fun hc h=> ?_)
        ·try simp only [W,EE,Nat.reduceAdd,Nat.reduceBEq,hS.var 0 rfl,hc]
         refine Bv rfl rfl rfl (fun _=>rfl) h fun Pa ab7 h=> ?_;try simp only [W,EE,reduceIte,Bool.false_eq_true]
         refine A_ Is ?_;refine C4 (s' :=(u:: .ptr Dz DA 0 0::u::u::u::u::u::u::u::u::u::u::u::u::u::u::u::u::u::u::u::u::u::u::u::u::u::u::u::u::u::u::u::u::u::u::u::u::u::u::u::u::u::u::u::u::u::u::u::u::u::u::u::u::u::u::u::u::u::u:: .fz (a0.Dq.map (zE (AV.int .i64))):: .int .i64 (a0.Dq.length:Int):: .int .i64 GB::u::u::u::u::u::u::u::u::u::u::u::u::u::u::u::u::u::u::u::u::u::u::u::u:: .bool (Pa !=0)::u::[])) rfl ?_
         exact BH Jf ⟨_,(Option.some.inj h).symm,rfl,hS⟩
        ·try simp only [W,reduceIte,Bool.false_eq_true,hc]
         refine A_ Is ?_;refine C4 (s' :=(u:: .ptr Dz DA 0 0::u::u::u::u::u::u::u::u::u::u::u::u::u::u::u::u::u::u::u::u::u::u::u::u::u::u::u::u::u::u::u::u::u::u::u::u::u::u::u::u::u::u::u::u::u::u::u::u::u::u::u::u::u::u::u::u::u::u:: .fz (a0.Dq.map (zE (AV.int .i64))):: .int .i64 (a0.Dq.length:Int):: .int .i64 GB::u::u::u::u::u::u::u::u::u::u::u::u::u::u::u::u::u::u::u::u::u::u::u::u:: .bool false::u::[])) rfl ?_
         exact BH Jf ⟨_,(Option.some.inj h).symm,rfl,hS⟩
     ·obtain ⟨EW,En,rfl,hS⟩:=hq;obtain rfl:=En.symm;replace h:=Nj;try dsimp only at h
      refine A_ Jw ?_;refine A8 ?_;simp only [W];refine Bj h (fun hc h=> ?_) (fun hc h=> ?_)
      ·refine AW fun Na Iq=> ?_;refine Bk gC ?_;try simp only [W,Nat.reduceAdd]
       refine A_ Iq ?_;refine AZ ?_;refine Bf KH ?_;refine Ba IP ?_;try obtain rfl:=Option.some.inj h
       obtain rfl:=R6 _ rfl;have h:(some (LR.done false):Option (LR Unit (Bool)))=some (LR.done false):=rfl;refine BF PF ?_;refine Bf Gh ?_;try obtain rfl:=Option.some.inj h
       obtain rfl:=Option.some.inj R5;have h:(some false:Option (Bool))=some false:=rfl;refine BI IN ?_;refine Ba FM ?_;refine Bh DQ rfl ?_;try obtain rfl:=Option.some.inj h
       exact hP _ (hS.BT 1 [] (by decide))
      ·refine AY ?_;refine Bd KH ?_;refine A_ IP ?_;refine Bk gC ?_;try simp only [W,EE,Nat.reduceAdd]
       exact BD PF h ⟨rfl,hS⟩
    ·refine A7 ?_;refine Bb H8 ?_;try obtain rfl:=Option.some.inj h
     obtain rfl:=R6 _ rfl;have h:(some (LR.next ()):Option (LR Unit (Bool)))=some (LR.next ()):=rfl
     refine BE PF ?_;refine Be Gh ?_;exact BH IN ⟨(Option.some.inj h).symm,rfl,(hS.BT 1 [] (by decide))⟩
   ·obtain ⟨rfl,rfl,hS⟩:=hq;replace h:=R5;try dsimp only at h
    refine A_ FM ?_;refine AW fun On HM=> ?_;refine Bk gC ?_;try simp only [W,Nat.reduceAdd]
    refine A_ HM ?_;refine AZ ?_;refine Bh DQ rfl ?_;try obtain rfl:=Option.some.inj h
    exact hP _ hS
theorem PK {a0:DJ} {r:(DJ)} (h:Ke a0=some r) {F:List It} {H:J} (hS:aq H (F)) {P:AV→J→Prop} (hP: ∀Ey:AV,aJ Ey→ ∀Fc:AV,aJ Fc→ ∀d65:List AV,bI d65 (r.Dq).length→ ∀G7:AV,aJ G7→ ∀H9:AV,aJ H9→ ∀H',aq H' (⟨Ey,1,r.Ds.map (AV.int .i64)⟩::⟨Fc,1,bg Dv d65 r.Dq⟩::⟨G7,1,r.Dw.map (AV.int .i64)⟩::⟨H9,1,r.Dx.map (AV.int .i64)⟩::((bG Du (AV.int .i64) 1 d65 r.Dq) ++ F))→P (.agg [Ey,Fc,G7,H9,.int .i64 r.Dr]) H'):aw C 151 [.agg [.fz (a0.Ds.map (AV.int .i64)),.fz (a0.Dq.map (zE (AV.int .i64))),.fz (a0.Dw.map (AV.int .i64)),.fz (a0.Dx.map (AV.int .i64)),.int .i64 a0.Dr]] H P:=by
 refine Bn gC (res:=[.cell 2 26]) (n:=38) rfl rfl rfl rfl fun K0 DQ=> ?_;simp only [W,Nat.reduceSub,Nat.reduceAdd,List.replicate];unfold Ke at h;refine AW fun K1 D5=> ?_;refine Bk gC ?_;try simp only [W,Nat.reduceAdd]
 refine Br hS rfl rfl rfl rfl fun Dz DA H hS=> ?_;try simp only [W]
 refine Bs hS rfl rfl fun DL DM H hS=> ?_;try simp only [W]
 refine A_ D5 ?_;refine AW fun K6 Fk=> ?_;refine BY gC [(16,[])] (by kernel_rfl) rfl (by kernel_rfl) ?_
 try simp only [W,reduceIte,Nat.reduceAdd,iG,ln,Nat.reduceEqDiff]
 refine Bz rfl rfl ?_;try simp only [W,EE,Nat.reduceAdd,Nat.reduceBEq,hS.var 1 rfl]
 refine B7 rfl ?_;simp only [W,EE];have hS:=hS.zx 1;refine BO (l:=([]:List Int)) (c:=(AV.int .i64)) 0 hS rfl mS rfl rfl rfl rfl (fun _=>rfl) rfl h fun DE H D9 FW hm h hS=> ?_;try simp only [W]
 refine Bz rfl rfl ?_;try simp only [W,EE,Nat.reduceAdd,Nat.reduceBEq,hS.var 2 rfl]
 refine B7 rfl ?_;simp only [W,EE];have hS:=hS.zx 1;refine BO (l:=([]:List Int)) (c:=(AV.int .i64)) 0 hS rfl mS rfl rfl rfl rfl (fun _=>rfl) rfl h fun D6 H Fx F9 hm h hS=> ?_;try simp only [W]
 refine Bz rfl rfl ?_;try simp only [W,EE,Nat.reduceAdd,Nat.reduceBEq,hS.var 3 rfl]
 refine B7 rfl ?_;simp only [W,EE];have hS:=hS.zx 1;refine BO (l:=([]:List Int)) (c:=(AV.int .i64)) 0 hS rfl mS rfl rfl rfl rfl (fun _=>rfl) rfl h fun ER H GY KI hm h hS=> ?_;try simp only [W,EE,Nat.reduceAdd,Nat.reduceBEq,hS.var 4 rfl]
 refine BX rfl rfl rfl rfl (by simp only [fB,FW.By,FW.cells,F9.By,F9.cells,KI.By,KI.cells];simp [E,splice,AV.cells,di,cG]<;>rfl) ?_
 try simp only [W]
 refine Bs hS rfl rfl fun Fs Ft H hS=> ?_;try simp only [W]
 refine Bt (a:= .agg [DE,.nil,D6,ER,.int .i64 a0.Dr]) (y' := .agg [DE,.nil,D6,ER,.int .i64 a0.Dr]) 0 hS rfl rfl rfl rfl rfl (by simp only [di,List.all_cons,List.all_nil,FW.pL,F9.pL,KI.pL];rfl) rfl rfl fun H hS=> ?_
 try simp only [W]
 refine A_ Fk ?_;refine AW fun KD GS=> ?_;refine AW fun JU Gg=> ?_;refine Bk gC ?_;try simp only [W,EE,Nat.reduceAdd,Nat.reduceBEq,hS.var 5 rfl]
 refine A_ Gg ?_;obtain ⟨PM,PN,Nj⟩:=Option.bind_eq_some_iff.1 h;refine BG gC (fun s H=> ∃FH:List (List Int),PM=(FH)∧ ∃Em:AV,aJ Em∧ ∃d30:List AV,bI d30 (FH).length∧s=[u,u,.ptr DL DM 0 0,.ptr Fs Ft 0 0,u,u,u,u,u,u,u,u,u,u,u,u,u,u,u,u,u,u,u,u,u,u,u,u,u,u,u,u,u,u,u,u,u,u]∧aq H (⟨DE,1,D9.map (AV.int .i64)⟩::⟨Em,1,bg Dv d30 FH⟩::⟨D6,1,Fx.map (AV.int .i64)⟩::⟨ER,1,GY.map (AV.int .i64)⟩::⟨.ptr DL DM 0 0,5,[.agg [.nil,.nil,.nil,.nil,.int .i64 0]]⟩::⟨.ptr Fs Ft 0 0,5,[.agg [DE,Em,D6,ER,.int .i64 a0.Dr]]⟩::((bG Du (AV.int .i64) 1 d30 FH) ++ F))) (fun Om Jv=> ?_) (fun s H hq=> ?_)
 ·refine AX fun R8 Nk=> ?_;have hS:=hS.uo 1;obtain ⟨d59,PO,hS⟩:=CI (p:=Du) (c:=(AV.int .i64)) (z:=1) (m:=Dv) hS;have hS:aq _ (⟨AV.nil,1,bg Dv d59 ([]:List (List Int))⟩::⟨.ptr Fs Ft 0 0,5,[.agg [DE,.nil,D6,ER,.int .i64 a0.Dr]]⟩::⟨ER,1,GY.map (AV.int .i64)⟩::⟨D6,1,Fx.map (AV.int .i64)⟩::⟨DE,1,D9.map (AV.int .i64)⟩::⟨.ptr DL DM 0 0,5,[.agg [.nil,.nil,.nil,.nil,.int .i64 0]]⟩::⟨.ptr Dz DA 0 0,5,[.agg [.fz (a0.Ds.map (AV.int .i64)),.fz (a0.Dq.map (zE (AV.int .i64))),.fz (a0.Dw.map (AV.int .i64)),.fz (a0.Dx.map (AV.int .i64)),.int .i64 a0.Dr]]⟩::((bG Du (AV.int .i64) 1 d59 ([]:List (List Int))) ++ (F))):=aq.CG (bl:=[[⟨AV.nil,1,bg Dv d59 ([]:List (List Int))⟩],(bG Du (AV.int .i64) 1 d59 ([]:List (List Int))),[⟨.ptr Fs Ft 0 0,5,[.agg [DE,.nil,D6,ER,.int .i64 a0.Dr]]⟩],[⟨ER,1,GY.map (AV.int .i64)⟩],[⟨D6,1,Fx.map (AV.int .i64)⟩],[⟨DE,1,D9.map (AV.int .i64)⟩],[⟨.ptr DL DM 0 0,5,[.agg [.nil,.nil,.nil,.nil,.int .i64 0]]⟩],[⟨.ptr Dz DA 0 0,5,[.agg [.fz (a0.Ds.map (AV.int .i64)),.fz (a0.Dq.map (zE (AV.int .i64))),.fz (a0.Dw.map (AV.int .i64)),.fz (a0.Dx.map (AV.int .i64)),.int .i64 a0.Dr]]⟩]]) (F:=F) hS 8 rfl [0,2,3,4,5,6,7,1] (by decide)
  have hS:aq _ (⟨DE,1,D9.map (AV.int .i64)⟩::⟨AV.nil,1,bg Dv d59 ([]:List (List Int))⟩::⟨D6,1,Fx.map (AV.int .i64)⟩::⟨ER,1,GY.map (AV.int .i64)⟩::⟨.ptr DL DM 0 0,5,[.agg [.nil,.nil,.nil,.nil,.int .i64 0]]⟩::⟨.ptr Fs Ft 0 0,5,[.agg [DE,.nil,D6,ER,.int .i64 a0.Dr]]⟩::((bG Du (AV.int .i64) 1 d59 ([]:List (List Int))) ++ (F))):=aq.CG (bl:=[[⟨AV.nil,1,bg Dv d59 ([]:List (List Int))⟩],[⟨.ptr Fs Ft 0 0,5,[.agg [DE,.nil,D6,ER,.int .i64 a0.Dr]]⟩],[⟨ER,1,GY.map (AV.int .i64)⟩],[⟨D6,1,Fx.map (AV.int .i64)⟩],[⟨DE,1,D9.map (AV.int .i64)⟩],[⟨.ptr DL DM 0 0,5,[.agg [.nil,.nil,.nil,.nil,.int .i64 0]]⟩],[⟨.ptr Dz DA 0 0,5,[.agg [.fz (a0.Ds.map (AV.int .i64)),.fz (a0.Dq.map (zE (AV.int .i64))),.fz (a0.Dw.map (AV.int .i64)),.fz (a0.Dx.map (AV.int .i64)),.int .i64 a0.Dr]]⟩],(bG Du (AV.int .i64) 1 d59 ([]:List (List Int)))]) (F:=F) hS 8 rfl [4,0,3,2,5,1,7] (by decide)
  refine BC gC PN (fun x s H=>match x with|(G_,EQ)=> ∃D1:AV,aJ D1∧ ∃d27:List AV,bI d27 (EQ).length∧s=[u,u,.ptr DL DM 0 0,.ptr Fs Ft 0 0,u,u,u,u,u,u,u,u,u,u,u,u,u,u,u,u,u,u,.fz (a0.Dq.map (zE (AV.int .i64))),.int .i64 (a0.Dq.length:Int),.int .i64 G_,u,u,u,u,u,u,u,u,u,u,u,u,u]∧aq H (⟨DE,1,D9.map (AV.int .i64)⟩::⟨D1,1,bg Dv d27 EQ⟩::⟨D6,1,Fx.map (AV.int .i64)⟩::⟨ER,1,GY.map (AV.int .i64)⟩::⟨.ptr DL DM 0 0,5,[.agg [.nil,.nil,.nil,.nil,.int .i64 0]]⟩::⟨.ptr Fs Ft 0 0,5,[.agg [DE,D1,D6,ER,.int .i64 a0.Dr]]⟩::((bG Du (AV.int .i64) 1 d27 EQ) ++ F))) ⟨_,lh,_,PO,rfl,hS⟩ (fun x PH s H h PP hi PG Jw=> ?_)
  obtain ⟨G_,EQ⟩:=x;try dsimp only at hi
  obtain ⟨D1,GD,d27,Nl,rfl,hS⟩:=hi;simp only [NQ] at h;refine AW fun PI Jf=> ?_;refine Bk gC ?_;try simp only [W,EE,Nat.reduceAdd]
  refine A_ Jf ?_;refine AW fun PJ Is=> ?_;refine A8 ?_;simp only [W];refine Bj h (fun hc h=> ?_) (fun hc h=> ?_)
  ·refine AY ?_;refine A_ Is ?_;refine AW fun R9 LN=> ?_;refine AX fun Oh Ju=> ?_;refine AW fun Na Iq=> ?_;refine Bk gC ?_;try simp only [W,EE,Nat.reduceAdd]
   refine Bv rfl rfl rfl (fun _=>rfl) h fun DV Px h=> ?_;try simp only [W,EE,EN]
   refine A_ Iq ?_;refine BY gC [(8,[]),(6,[])] (by kernel_rfl) rfl (by kernel_rfl) ?_
   try simp only [W,EE,reduceIte,Nat.reduceAdd,Nat.reduceBEq,hS.var 5 rfl,iG,ln,Nat.reduceEqDiff]
   refine Bz rfl rfl ?_;try simp only [W]
   refine B7 rfl ?_;simp only [W,EE];have hS:=hS.zx 1;refine BO (l:=([]:List Int)) (c:=(AV.int .i64)) 0 hS rfl mS rfl rfl rfl rfl (fun _=>rfl) rfl h fun Oo H GK LO hm h hS=> ?_;try simp only [W]
   refine BA (el:=[Oo]) hS rfl rfl rfl rfl (CD (aJ.CF LO) LO.By) rfl (CE (aJ.CF LO)) fun Gt H Nm hS=> ?_;have hS:aq _ (⟨Gt,1,[Oo]⟩::⟨Oo,1,GK.map (AV.int .i64)⟩::⟨DE,1,D9.map (AV.int .i64)⟩::⟨D1,1,bg Dv d27 EQ⟩::⟨D6,1,Fx.map (AV.int .i64)⟩::⟨ER,1,GY.map (AV.int .i64)⟩::⟨.ptr DL DM 0 0,5,[.agg [.nil,.nil,.nil,.nil,.int .i64 0]]⟩::⟨.ptr Fs Ft 0 0,5,[.agg [DE,D1,D6,ER,.int .i64 a0.Dr]]⟩::((bG Du (AV.int .i64) 1 d27 EQ) ++ (F))):=hS;obtain ⟨d50,PQ,hS⟩:=CJ (m:=Dv) (p:=Du) (c:=(AV.int .i64)) (b:=GK) hS LO;have hS:aq _ (⟨Gt,1,bg Dv d50 ([GK]:List (List Int))⟩::⟨DE,1,D9.map (AV.int .i64)⟩::⟨D1,1,bg Dv d27 EQ⟩::⟨D6,1,Fx.map (AV.int .i64)⟩::⟨ER,1,GY.map (AV.int .i64)⟩::⟨.ptr DL DM 0 0,5,[.agg [.nil,.nil,.nil,.nil,.int .i64 0]]⟩::⟨.ptr Fs Ft 0 0,5,[.agg [DE,D1,D6,ER,.int .i64 a0.Dr]]⟩::((bG Du (AV.int .i64) 1 d50 ([GK]:List (List Int))) ++ (((bG Du (AV.int .i64) 1 d27 EQ) ++ (F))))):=aq.CG (bl:=[[⟨Gt,1,bg Dv d50 ([GK]:List (List Int))⟩],(bG Du (AV.int .i64) 1 d50 ([GK]:List (List Int))),[⟨DE,1,D9.map (AV.int .i64)⟩],[⟨D1,1,bg Dv d27 EQ⟩],[⟨D6,1,Fx.map (AV.int .i64)⟩],[⟨ER,1,GY.map (AV.int .i64)⟩],[⟨.ptr DL DM 0 0,5,[.agg [.nil,.nil,.nil,.nil,.int .i64 0]]⟩],[⟨.ptr Fs Ft 0 0,5,[.agg [DE,D1,D6,ER,.int .i64 a0.Dr]]⟩],(bG Du (AV.int .i64) 1 d27 EQ)]) (F:=F) hS 9 rfl [0,2,3,4,5,6,7,1,8] (by decide)
   try simp only [W,EE]
   have hS:aq _ (⟨D1,1,bg Dv d27 EQ⟩::⟨Gt,1,bg Dv d50 ([GK]:List (List Int))⟩::((bG Du (AV.int .i64) 1 d27 EQ) ++ (((bG Du (AV.int .i64) 1 d50 ([GK]:List (List Int))) ++ (⟨DE,1,D9.map (AV.int .i64)⟩::⟨D6,1,Fx.map (AV.int .i64)⟩::⟨ER,1,GY.map (AV.int .i64)⟩::⟨.ptr DL DM 0 0,5,[.agg [.nil,.nil,.nil,.nil,.int .i64 0]]⟩::⟨.ptr Fs Ft 0 0,5,[.agg [DE,D1,D6,ER,.int .i64 a0.Dr]]⟩::F))))):=aq.CG (bl:=[[⟨Gt,1,bg Dv d50 ([GK]:List (List Int))⟩],[⟨DE,1,D9.map (AV.int .i64)⟩],[⟨D1,1,bg Dv d27 EQ⟩],[⟨D6,1,Fx.map (AV.int .i64)⟩],[⟨ER,1,GY.map (AV.int .i64)⟩],[⟨.ptr DL DM 0 0,5,[.agg [.nil,.nil,.nil,.nil,.int .i64 0]]⟩],[⟨.ptr Fs Ft 0 0,5,[.agg [DE,D1,D6,ER,.int .i64 a0.Dr]]⟩],(bG Du (AV.int .i64) 1 d50 ([GK]:List (List Int))),(bG Du (AV.int .i64) 1 d27 EQ)]) (F:=F) hS 9 rfl [2,0,8,7,1,3,4,5,6] (by decide)
   refine CQ (l:=EQ) (m:=Dv) (p:=Du) (c:=(AV.int .i64)) hS GD Nm Nl PQ rfl rfl rfl H4 rfl h fun IS H HS d53 IT PR hm h hS=> ?_;have hS:aq _ (⟨DE,1,D9.map (AV.int .i64)⟩::⟨IS,1,bg Dv d53 HS⟩::⟨D6,1,Fx.map (AV.int .i64)⟩::⟨ER,1,GY.map (AV.int .i64)⟩::⟨.ptr DL DM 0 0,5,[.agg [.nil,.nil,.nil,.nil,.int .i64 0]]⟩::⟨.ptr Fs Ft 0 0,5,[.agg [DE,D1,D6,ER,.int .i64 a0.Dr]]⟩::((bG Du (AV.int .i64) 1 d53 HS) ++ (F))):=aq.CG (bl:=[[⟨IS,1,bg Dv d53 HS⟩],(bG Du (AV.int .i64) 1 d53 HS),[⟨DE,1,D9.map (AV.int .i64)⟩],[⟨D6,1,Fx.map (AV.int .i64)⟩],[⟨ER,1,GY.map (AV.int .i64)⟩],[⟨.ptr DL DM 0 0,5,[.agg [.nil,.nil,.nil,.nil,.int .i64 0]]⟩],[⟨.ptr Fs Ft 0 0,5,[.agg [DE,D1,D6,ER,.int .i64 a0.Dr]]⟩]]) (F:=F) hS 7 rfl [2,0,3,4,5,6,1] (by decide)
   try simp only [W,EE,Nat.reduceAdd,Nat.reduceBEq,hS.var 5 rfl]
   refine Bt (a:=IS) (y' := .agg [DE,IS,D6,ER,.int .i64 a0.Dr]) 5 hS rfl rfl rfl rfl (by rw [IT.cells];rfl) IT.By (IT.wr _ _ (by simp)) rfl fun H hS=> ?_
   try simp only [W]
   refine Bd Ju ?_;refine A_ LN ?_;refine Bk gC ?_;try simp only [W,EE,Nat.reduceAdd]
   exact BD Jw h ⟨_,IT,_,PR,rfl,hS⟩
  ·refine A7 ?_;refine Bb Is ?_;try obtain rfl:=Option.some.inj h
   obtain rfl:=PP _ rfl;have h:(some (EQ):Option ((List (List Int))))=some (EQ):=rfl;refine BE Jw ?_;refine Be Nk ?_;exact BH Jv ⟨_,(Option.some.inj h).symm,_,GD,_,Nl,rfl,hS⟩
 ·obtain ⟨FH,En,Em,HL,d30,PS,rfl,hS⟩:=hq;obtain rfl:=En.symm;replace h:=Nj;try dsimp only at h
  refine A_ GS ?_;refine AW fun UL PT=> ?_;refine Bk gC ?_;try simp only [W,EE,reduceIte,Nat.reduceAdd,Nat.reduceLeDiff,hS.var 5 rfl]
  refine Bt (a:= .agg [DE,Em,D6,ER,.int .i64 a0.Dr]) (y' := .agg [DE,Em,D6,ER,.int .i64 a0.Dr]) 4 hS rfl rfl rfl rfl rfl (by simp only [di,List.all_cons,List.all_nil,FW.pL,HL.pL,F9.pL,KI.pL];rfl) rfl rfl fun H hS=> ?_
  try simp only [W]
  refine A_ PT ?_;refine AZ ?_;refine Bg DQ (BU rfl rfl (hS.var 4 rfl) rfl rfl) ?_;try obtain rfl:=Option.some.inj h
  have hS:aq _ (⟨DE,1,D9.map (AV.int .i64)⟩::⟨Em,1,bg Dv d30 FH⟩::⟨D6,1,Fx.map (AV.int .i64)⟩::⟨ER,1,GY.map (AV.int .i64)⟩::((bG Du (AV.int .i64) 1 d30 FH) ++ (F))):=aq.CG (bl:=[[⟨DE,1,D9.map (AV.int .i64)⟩],[⟨Em,1,bg Dv d30 FH⟩],[⟨D6,1,Fx.map (AV.int .i64)⟩],[⟨ER,1,GY.map (AV.int .i64)⟩],[⟨.ptr DL DM 0 0,5,[.agg [DE,Em,D6,ER,.int .i64 a0.Dr]]⟩],[⟨.ptr Fs Ft 0 0,5,[.agg [DE,Em,D6,ER,.int .i64 a0.Dr]]⟩],(bG Du (AV.int .i64) 1 d30 FH)]) (F:=F) hS 7 rfl [0,1,2,3,6] (by decide)
  exact hP _ FW _ HL _ PS _ F9 _ KI _ hS
theorem R_ {a0:DJ} {a1:Int} {a2:Int} {r:(DJ×Bool)} (h:JQ a0 a1 a2=some r) {F:List It} {H:J} (hS:aq H (F)) {P:AV→J→Prop} (hP: ∀Jx:AV,aJ Jx→ ∀Nn:AV,aJ Nn→ ∀d52:List AV,bI d52 (r.1.Dq).length→ ∀KJ:AV,aJ KJ→ ∀KB:AV,aJ KB→ ∀H',aq H' (⟨Jx,1,r.1.Ds.map (AV.int .i64)⟩::⟨Nn,1,bg Dv d52 r.1.Dq⟩::⟨KJ,1,r.1.Dw.map (AV.int .i64)⟩::⟨KB,1,r.1.Dx.map (AV.int .i64)⟩::((bG Du (AV.int .i64) 1 d52 r.1.Dq) ++ F))→P (.aE [.agg [Jx,Nn,KJ,KB,.int .i64 r.1.Dr],.bool r.2]) H'):aw C 27 [.agg [.fz (a0.Ds.map (AV.int .i64)),.fz (a0.Dq.map (zE (AV.int .i64))),.fz (a0.Dw.map (AV.int .i64)),.fz (a0.Dx.map (AV.int .i64)),.int .i64 a0.Dr],.int .i64 a1,.int .i64 a2] H P:=by
 refine Bn gC (res:=[.cell 6 26,.tmp 7]) (n:=53) rfl rfl rfl rfl fun K0 DQ=> ?_;simp only [W,Nat.reduceSub,Nat.reduceAdd,List.replicate];unfold JQ at h;refine AW fun K1 D5=> ?_;refine Bk gC ?_;try simp only [W,Nat.reduceAdd]
 refine Br hS rfl rfl rfl rfl fun Dz DA H hS=> ?_;try simp only [W]
 refine Bs hS rfl rfl fun DL DM H hS=> ?_;try simp only [W]
 refine A_ D5 ?_;refine AW fun K6 Fk=> ?_;refine AW fun K7 Fq=> ?_;obtain ⟨Np,h,Nq⟩:=Option.bind_eq_some_iff.1 h;refine BG gC (fun s H=> ∃D9:Bool,Np=(D9)∧s=[u,.int .i64 a1,.int .i64 a2,.ptr Dz DA 0 0,u,u,.ptr DL DM 0 0,u,u,u,u,u,u,u,u,u,u,u,u,u,u,u,u,u,u,u,u,u,u,u,u,u,u,u,u,u,.bool D9,u,u,u,u,u,u,u,u,u,u,u,u,u,u,u,u]∧aq H (⟨.ptr Dz DA 0 0,5,[.agg [.fz (a0.Ds.map (AV.int .i64)),.fz (a0.Dq.map (zE (AV.int .i64))),.fz (a0.Dw.map (AV.int .i64)),.fz (a0.Dx.map (AV.int .i64)),.int .i64 a0.Dr]]⟩::⟨.ptr DL DM 0 0,5,[.agg [.nil,.nil,.nil,.nil,.int .i64 0]]⟩::F)) (fun IL EC=> ?_) (fun s H hq=> ?_)
 ·refine AW fun Jt E9=> ?_;refine Bk gC ?_;try simp only [W,EE,reduceIte,Nat.reduceAdd,Nat.reduceLeDiff,hS.var 1 rfl]
  refine BB h fun GJ IQ h=> ?_;refine Ni IQ hS fun H hS=> ?_;try simp only [W]
  refine BW h (fun hc h=> ?_) (fun hc h=> ?_)
  ·try simp only [W,hc]
   refine A_ E9 ?_;refine A9 ?_;exact BH EC ⟨_,(Option.some.inj h).symm,rfl,(hS.BT 2 [1,0] (by decide))⟩
  ·try simp only [W,EE,reduceIte,Bool.false_eq_true,hc]
   refine BW h (fun hc h=> ?_) (fun hc h=> ?_)
   ·try simp only [W,hc]
    refine A_ E9 ?_;refine A9 ?_;exact BH EC ⟨_,(Option.some.inj h).symm,rfl,(hS.BT 2 [1,0] (by decide))⟩
   ·try simp only [W,EE,reduceIte,Nat.reduceAdd,Nat.reduceBEq,Bool.false_eq_true,hS.var 1 rfl,hc]
    refine BW h (fun hc h=> ?_) (fun hc h=> ?_)
    ·try simp only [W,hc]
     refine A_ E9 ?_;refine A9 ?_;exact BH EC ⟨_,(Option.some.inj h).symm,rfl,(hS.BT 2 [1,0] (by decide))⟩
    ·try simp only [W,hc]
     refine BB h fun IC KG h=> ?_;refine Nc KG hS fun H hS=> ?_;try simp only [W,reduceIte,Bool.false_eq_true]
     refine BW h (fun hc h=> ?_) (fun hc h=> ?_)
     ·try simp only [W,hc]
      refine A_ E9 ?_;refine A9 ?_;exact BH EC ⟨_,(Option.some.inj h).symm,rfl,(hS.BT 2 [1,0] (by decide))⟩
     ·try simp only [W,EE,Nat.reduceAdd,Nat.reduceBEq,hS.var 1 rfl,hc]
      refine Bv rfl rfl rfl (fun _=>rfl) h fun EY Je h=> ?_;try simp only [W,EE,EN,reduceIte,Bool.false_eq_true]
      refine A_ E9 ?_;refine A9 ?_;exact BH EC ⟨_,(Option.some.inj h).symm,rfl,(hS.BT 2 [1,0] (by decide))⟩
 ·obtain ⟨D9,En,rfl,hS⟩:=hq;obtain rfl:=En.symm;replace h:=Nq;try dsimp only at h
  refine A_ Fq ?_;refine A8 ?_;simp only [W];refine Bj h (fun hc h=> ?_) (fun hc h=> ?_)
  ·refine AW fun HI Fu=> ?_;refine Bk gC ?_;try simp only [W,EE,Nat.reduceAdd]
   refine BX rfl rfl rfl rfl rfl ?_;try simp only [W]
   refine Bt (a:= .agg [.nil,.nil,.nil,.nil,.int .i64 0]) (y' := .agg [.nil,.nil,.nil,.nil,.int .i64 0]) 1 hS rfl rfl rfl rfl rfl rfl rfl rfl fun H hS=> ?_
   try simp only [W]
   refine A_ Fu ?_;refine AZ ?_;refine Ba Fk ?_;have hS:=hS.uo 1;have hS:=hS.uo 1;obtain ⟨d19,UM,hS⟩:=CI (p:=Du) (c:=(AV.int .i64)) (z:=1) (m:=Dv) hS;have hS:aq _ (⟨AV.nil,1,bg Dv d19 ([]:List (List Int))⟩::⟨AV.nil,1,([]:List Int).map (AV.int .i64)⟩::⟨.ptr Dz DA 0 0,5,[.agg [.fz (a0.Ds.map (AV.int .i64)),.fz (a0.Dq.map (zE (AV.int .i64))),.fz (a0.Dw.map (AV.int .i64)),.fz (a0.Dx.map (AV.int .i64)),.int .i64 a0.Dr]]⟩::⟨.ptr DL DM 0 0,5,[.agg [.nil,.nil,.nil,.nil,.int .i64 0]]⟩::((bG Du (AV.int .i64) 1 d19 ([]:List (List Int))) ++ (F))):=aq.CG (bl:=[[⟨AV.nil,1,bg Dv d19 ([]:List (List Int))⟩],(bG Du (AV.int .i64) 1 d19 ([]:List (List Int))),[⟨AV.nil,1,([]:List Int).map (AV.int .i64)⟩],[⟨.ptr Dz DA 0 0,5,[.agg [.fz (a0.Ds.map (AV.int .i64)),.fz (a0.Dq.map (zE (AV.int .i64))),.fz (a0.Dw.map (AV.int .i64)),.fz (a0.Dx.map (AV.int .i64)),.int .i64 a0.Dr]]⟩],[⟨.ptr DL DM 0 0,5,[.agg [.nil,.nil,.nil,.nil,.int .i64 0]]⟩]]) (F:=F) hS 5 rfl [0,2,3,4,1] (by decide)
   have hS:=hS.uo 1;have hS:=hS.uo 1;refine Bg DQ (BU rfl rfl (hS.var 5 rfl) rfl (BV rfl rfl)) ?_;try obtain rfl:=Option.some.inj h
   have hS:aq _ (⟨AV.nil,1,([]:List Int).map (AV.int .i64)⟩::⟨AV.nil,1,bg Dv d19 ([]:List (List Int))⟩::⟨AV.nil,1,([]:List Int).map (AV.int .i64)⟩::⟨AV.nil,1,([]:List Int).map (AV.int .i64)⟩::((bG Du (AV.int .i64) 1 d19 ([]:List (List Int))) ++ (F))):=aq.CG (bl:=[[⟨AV.nil,1,([]:List Int).map (AV.int .i64)⟩],[⟨AV.nil,1,([]:List Int).map (AV.int .i64)⟩],[⟨AV.nil,1,bg Dv d19 ([]:List (List Int))⟩],[⟨AV.nil,1,([]:List Int).map (AV.int .i64)⟩],[⟨.ptr Dz DA 0 0,5,[.agg [.fz (a0.Ds.map (AV.int .i64)),.fz (a0.Dq.map (zE (AV.int .i64))),.fz (a0.Dw.map (AV.int .i64)),.fz (a0.Dx.map (AV.int .i64)),.int .i64 a0.Dr]]⟩],[⟨.ptr DL DM 0 0,5,[.agg [.nil,.nil,.nil,.nil,.int .i64 0]]⟩],(bG Du (AV.int .i64) 1 d19 ([]:List (List Int)))]) (F:=F) hS 7 rfl [3,2,1,0,6] (by decide)
   exact hP _ lh _ lh _ UM _ lh _ lh _ hS
  ·refine AY ?_;refine A_ Fk ?_;refine AW fun JU Gg=> ?_;refine Bk gC ?_;try simp only [W,EE,reduceIte,Nat.reduceAdd,Nat.reduceLeDiff,hS.var 0 rfl]
   refine BB h fun D0 JW h=> ?_;refine PK JW hS fun EF JX Es G8 d28 KF Em HL EZ PU H hS=> ?_;have hS:aq _ (⟨EF,1,D0.Ds.map (AV.int .i64)⟩::⟨Es,1,bg Dv d28 D0.Dq⟩::⟨Em,1,D0.Dw.map (AV.int .i64)⟩::⟨EZ,1,D0.Dx.map (AV.int .i64)⟩::⟨.ptr Dz DA 0 0,5,[.agg [.fz (a0.Ds.map (AV.int .i64)),.fz (a0.Dq.map (zE (AV.int .i64))),.fz (a0.Dw.map (AV.int .i64)),.fz (a0.Dx.map (AV.int .i64)),.int .i64 a0.Dr]]⟩::⟨.ptr DL DM 0 0,5,[.agg [.nil,.nil,.nil,.nil,.int .i64 0]]⟩::((bG Du (AV.int .i64) 1 d28 D0.Dq) ++ (F))):=aq.CG (bl:=[[⟨EF,1,D0.Ds.map (AV.int .i64)⟩],[⟨Es,1,bg Dv d28 D0.Dq⟩],[⟨Em,1,D0.Dw.map (AV.int .i64)⟩],[⟨EZ,1,D0.Dx.map (AV.int .i64)⟩],(bG Du (AV.int .i64) 1 d28 D0.Dq),[⟨.ptr Dz DA 0 0,5,[.agg [.fz (a0.Ds.map (AV.int .i64)),.fz (a0.Dq.map (zE (AV.int .i64))),.fz (a0.Dw.map (AV.int .i64)),.fz (a0.Dx.map (AV.int .i64)),.int .i64 a0.Dr]]⟩],[⟨.ptr DL DM 0 0,5,[.agg [.nil,.nil,.nil,.nil,.int .i64 0]]⟩]]) (F:=F) hS 7 rfl [0,1,2,3,5,6,4] (by decide)
   try simp only [W]
   refine Bs hS rfl rfl fun Jy Jz H hS=> ?_;try simp only [W]
   refine Bt (a:= .agg [EF,Es,Em,EZ,.int .i64 D0.Dr]) (y' := .agg [EF,Es,Em,EZ,.int .i64 D0.Dr]) 0 hS rfl rfl rfl rfl rfl (by simp only [di,List.all_cons,List.all_nil,JX.pL,G8.pL,HL.pL,PU.pL];rfl) rfl rfl fun H hS=> ?_
   try simp only [W]
   refine A_ Gg ?_;refine AW fun PG Jw=> ?_;refine BY gC [(10,[0,1,2]),(12,[])] (by kernel_rfl) rfl (by kernel_rfl) ?_
   try simp only [W,EE,reduceIte,Nat.reduceAdd,Nat.reduceBEq,hS.var 0 rfl,iG,ln,Nat.reduceEqDiff]
   obtain ⟨Kf,H_,h⟩:=Option.bind_eq_some_iff.1 h;have hS:aq _ (⟨Es,1,bg Dv d28 D0.Dq⟩::((bG Du (AV.int .i64) 1 d28 D0.Dq) ++ (⟨.ptr Jy Jz 0 0,5,[.agg [EF,Es,Em,EZ,.int .i64 D0.Dr]]⟩::⟨EF,1,D0.Ds.map (AV.int .i64)⟩::⟨Em,1,D0.Dw.map (AV.int .i64)⟩::⟨EZ,1,D0.Dx.map (AV.int .i64)⟩::⟨.ptr Dz DA 0 0,5,[.agg [.fz (a0.Ds.map (AV.int .i64)),.fz (a0.Dq.map (zE (AV.int .i64))),.fz (a0.Dw.map (AV.int .i64)),.fz (a0.Dx.map (AV.int .i64)),.int .i64 a0.Dr]]⟩::⟨.ptr DL DM 0 0,5,[.agg [.nil,.nil,.nil,.nil,.int .i64 0]]⟩::F))):=aq.CG (bl:=[[⟨.ptr Jy Jz 0 0,5,[.agg [EF,Es,Em,EZ,.int .i64 D0.Dr]]⟩],[⟨EF,1,D0.Ds.map (AV.int .i64)⟩],[⟨Es,1,bg Dv d28 D0.Dq⟩],[⟨Em,1,D0.Dw.map (AV.int .i64)⟩],[⟨EZ,1,D0.Dx.map (AV.int .i64)⟩],[⟨.ptr Dz DA 0 0,5,[.agg [.fz (a0.Ds.map (AV.int .i64)),.fz (a0.Dq.map (zE (AV.int .i64))),.fz (a0.Dw.map (AV.int .i64)),.fz (a0.Dx.map (AV.int .i64)),.int .i64 a0.Dr]]⟩],[⟨.ptr DL DM 0 0,5,[.agg [.nil,.nil,.nil,.nil,.int .i64 0]]⟩],(bG Du (AV.int .i64) 1 d28 D0.Dq)]) (F:=F) hS 8 rfl [2,7,0,1,3,4,5,6] (by decide)
   obtain ⟨EM,Jd,hS⟩:=CH (p:=Du) (c:=(AV.int .i64)) (m:=Dv) (b:=Kf) hS KF H_;have hS:aq _ (⟨EM,1,Kf.map (AV.int .i64)⟩::⟨.ptr Jy Jz 0 0,5,[.agg [EF,Es,Em,EZ,.int .i64 D0.Dr]]⟩::⟨EF,1,D0.Ds.map (AV.int .i64)⟩::⟨Es,1,(bg Dv d28 D0.Dq).set a1.toNat (EM)⟩::⟨Em,1,D0.Dw.map (AV.int .i64)⟩::⟨EZ,1,D0.Dx.map (AV.int .i64)⟩::⟨.ptr Dz DA 0 0,5,[.agg [.fz (a0.Ds.map (AV.int .i64)),.fz (a0.Dq.map (zE (AV.int .i64))),.fz (a0.Dw.map (AV.int .i64)),.fz (a0.Dx.map (AV.int .i64)),.int .i64 a0.Dr]]⟩::⟨.ptr DL DM 0 0,5,[.agg [.nil,.nil,.nil,.nil,.int .i64 0]]⟩::((mY Du (AV.int .i64) 1 d28 D0.Dq a1.toNat) ++ (F))):=aq.CG (bl:=[[⟨EM,1,Kf.map (AV.int .i64)⟩],[⟨Es,1,(bg Dv d28 D0.Dq).set a1.toNat (EM)⟩],(mY Du (AV.int .i64) 1 d28 D0.Dq a1.toNat),[⟨.ptr Jy Jz 0 0,5,[.agg [EF,Es,Em,EZ,.int .i64 D0.Dr]]⟩],[⟨EF,1,D0.Ds.map (AV.int .i64)⟩],[⟨Em,1,D0.Dw.map (AV.int .i64)⟩],[⟨EZ,1,D0.Dx.map (AV.int .i64)⟩],[⟨.ptr Dz DA 0 0,5,[.agg [.fz (a0.Ds.map (AV.int .i64)),.fz (a0.Dq.map (zE (AV.int .i64))),.fz (a0.Dw.map (AV.int .i64)),.fz (a0.Dx.map (AV.int .i64)),.int .i64 a0.Dr]]⟩],[⟨.ptr DL DM 0 0,5,[.agg [.nil,.nil,.nil,.nil,.int .i64 0]]⟩]]) (F:=F) hS 9 rfl [0,3,4,1,5,6,7,8,2] (by decide)
   refine CK (x:=EM) 3 hS rfl rfl rfl rfl rfl (gI H_).1 (CO KF H_) G8 (fun ab8 ab9 ab_ LP UN=> ?_);obtain ⟨aca,UO,UP⟩:=UN;try simp only [W,EE,UO,UP,Jd.rd]
   refine BA (el:=([a2]:List Int).map (AV.int .i64)) hS rfl rfl rfl rfl rfl rfl rfl fun F3 H Oq hS=> ?_;try simp only [W,EE]
   refine BO (l:=Kf) (c:=(AV.int .i64)) 1 hS rfl Jd rfl rfl rfl (hS.gJ 0 rfl Oq) (fun _=>rfl) rfl h fun LQ H FO Nr hm h hS=> ?_;refine BZ ?_;refine B0 (by first|rfl|(simp [aK,W,EE,hS.var 2 rfl];done)|exact CA 4 hS rfl rfl rfl rfl rfl LP H_ rfl rfl rfl rfl|exact CB 4 hS rfl rfl LP H_ rfl rfl rfl) ?_
   refine B0 (by first|rfl|(simp [aK,W,EE,bO,ju,aG,AV.cells,hS.var 2 rfl];done)|exact CA 4 hS rfl rfl rfl rfl rfl LP H_ rfl rfl rfl rfl|exact CB 4 hS rfl rfl LP H_ rfl rfl rfl) ?_
   refine B0 (by first|rfl|(simp [aK,W,EE,EN,bO,ju,aG,AV.cells,hS.var 2 rfl,hS.var 7 rfl,hS.var 8 rfl];done)|exact CA 4 hS rfl rfl rfl rfl rfl LP H_ rfl rfl rfl rfl|exact CB 4 hS rfl rfl LP H_ rfl rfl rfl) ?_
   refine B1 ?_;try simp only [W,EE]
   refine CK (x:=EM) 4 hS rfl rfl rfl rfl rfl (gI H_).1 (CO KF H_) G8 (fun acb acd ace UQ UR=> ?_);obtain ⟨acf,acg,ach⟩:=UR;try simp only [W]
   refine CL (a:=LQ) (y' :=LQ) (i:=a1.toNat) 4 hS rfl UQ (CO KF H_) rfl rfl rfl (by rw [Nr.cells];rfl) Nr.By (Nr.B8 Jd) (by first|rfl|(rw [Nr.cells];rfl)) (List.set_set ..) fun H hS=> ?_
   try simp only [W]
   refine A_ Jw ?_;refine AW fun PV JY=> ?_;refine Bk gC ?_;try simp only [W,EE,reduceIte,Nat.reduceAdd,Nat.reduceLeDiff,hS.var 2 rfl]
   refine Bt (a:= .agg [EF,Es,Em,EZ,.int .i64 D0.Dr]) (y' := .agg [EF,Es,Em,EZ,.int .i64 D0.Dr]) 8 hS rfl rfl rfl rfl rfl (by simp only [di,List.all_cons,List.all_nil,JX.pL,G8.pL,HL.pL,PU.pL];rfl) rfl rfl fun H hS=> ?_
   try simp only [W]
   refine A_ JY ?_;refine AZ ?_;have hS:aq _ (⟨LQ,1,FO.map (AV.int .i64)⟩::⟨Es,1,(bg Dv d28 D0.Dq).set a1.toNat (LQ)⟩::((mY Du (AV.int .i64) 1 d28 D0.Dq a1.toNat) ++ (⟨F3,1,([a2]:List Int).map (AV.int .i64)⟩::⟨.ptr Jy Jz 0 0,5,[.agg [EF,Es,Em,EZ,.int .i64 D0.Dr]]⟩::⟨EF,1,D0.Ds.map (AV.int .i64)⟩::⟨Em,1,D0.Dw.map (AV.int .i64)⟩::⟨EZ,1,D0.Dx.map (AV.int .i64)⟩::⟨.ptr Dz DA 0 0,5,[.agg [.fz (a0.Ds.map (AV.int .i64)),.fz (a0.Dq.map (zE (AV.int .i64))),.fz (a0.Dw.map (AV.int .i64)),.fz (a0.Dx.map (AV.int .i64)),.int .i64 a0.Dr]]⟩::⟨.ptr DL DM 0 0,5,[.agg [EF,Es,Em,EZ,.int .i64 D0.Dr]]⟩::F))):=aq.CG (bl:=[[⟨F3,1,([a2]:List Int).map (AV.int .i64)⟩],[⟨LQ,1,FO.map (AV.int .i64)⟩],[⟨.ptr Jy Jz 0 0,5,[.agg [EF,Es,Em,EZ,.int .i64 D0.Dr]]⟩],[⟨EF,1,D0.Ds.map (AV.int .i64)⟩],[⟨Es,1,(bg Dv d28 D0.Dq).set a1.toNat (LQ)⟩],[⟨Em,1,D0.Dw.map (AV.int .i64)⟩],[⟨EZ,1,D0.Dx.map (AV.int .i64)⟩],[⟨.ptr Dz DA 0 0,5,[.agg [.fz (a0.Ds.map (AV.int .i64)),.fz (a0.Dq.map (zE (AV.int .i64))),.fz (a0.Dw.map (AV.int .i64)),.fz (a0.Dx.map (AV.int .i64)),.int .i64 a0.Dr]]⟩],[⟨.ptr DL DM 0 0,5,[.agg [EF,Es,Em,EZ,.int .i64 D0.Dr]]⟩],(mY Du (AV.int .i64) 1 d28 D0.Dq a1.toNat)]) (F:=F) hS 10 rfl [1,4,9,0,2,3,5,6,7,8] (by decide)
   obtain ⟨d47,US,hS⟩:=Aa (p:=Du) (c:=(AV.int .i64)) (m:=Dv) (b:=Kf) (y:=FO) hS KF Nr H_;have hS:aq _ (⟨F3,1,([a2]:List Int).map (AV.int .i64)⟩::⟨.ptr Jy Jz 0 0,5,[.agg [EF,Es,Em,EZ,.int .i64 D0.Dr]]⟩::⟨EF,1,D0.Ds.map (AV.int .i64)⟩::⟨Es,1,bg Dv d47 (D0.Dq.set a1.toNat FO)⟩::⟨Em,1,D0.Dw.map (AV.int .i64)⟩::⟨EZ,1,D0.Dx.map (AV.int .i64)⟩::⟨.ptr Dz DA 0 0,5,[.agg [.fz (a0.Ds.map (AV.int .i64)),.fz (a0.Dq.map (zE (AV.int .i64))),.fz (a0.Dw.map (AV.int .i64)),.fz (a0.Dx.map (AV.int .i64)),.int .i64 a0.Dr]]⟩::⟨.ptr DL DM 0 0,5,[.agg [EF,Es,Em,EZ,.int .i64 D0.Dr]]⟩::((bG Du (AV.int .i64) 1 d47 (D0.Dq.set a1.toNat FO)) ++ (F))):=aq.CG (bl:=[[⟨Es,1,bg Dv d47 (D0.Dq.set a1.toNat FO)⟩],(bG Du (AV.int .i64) 1 d47 (D0.Dq.set a1.toNat FO)),[⟨F3,1,([a2]:List Int).map (AV.int .i64)⟩],[⟨.ptr Jy Jz 0 0,5,[.agg [EF,Es,Em,EZ,.int .i64 D0.Dr]]⟩],[⟨EF,1,D0.Ds.map (AV.int .i64)⟩],[⟨Em,1,D0.Dw.map (AV.int .i64)⟩],[⟨EZ,1,D0.Dx.map (AV.int .i64)⟩],[⟨.ptr Dz DA 0 0,5,[.agg [.fz (a0.Ds.map (AV.int .i64)),.fz (a0.Dq.map (zE (AV.int .i64))),.fz (a0.Dw.map (AV.int .i64)),.fz (a0.Dx.map (AV.int .i64)),.int .i64 a0.Dr]]⟩],[⟨.ptr DL DM 0 0,5,[.agg [EF,Es,Em,EZ,.int .i64 D0.Dr]]⟩]]) (F:=F) hS 9 rfl [2,3,4,0,5,6,7,8,1] (by decide)
   refine Bg DQ (BU rfl rfl (hS.var 7 rfl) rfl (BV rfl rfl)) ?_;try obtain rfl:=Option.some.inj h
   have hS:aq _ (⟨EF,1,D0.Ds.map (AV.int .i64)⟩::⟨Es,1,bg Dv d47 (D0.Dq.set a1.toNat FO)⟩::⟨Em,1,D0.Dw.map (AV.int .i64)⟩::⟨EZ,1,D0.Dx.map (AV.int .i64)⟩::((bG Du (AV.int .i64) 1 d47 (D0.Dq.set a1.toNat FO)) ++ (F))):=aq.CG (bl:=[[⟨F3,1,([a2]:List Int).map (AV.int .i64)⟩],[⟨.ptr Jy Jz 0 0,5,[.agg [EF,Es,Em,EZ,.int .i64 D0.Dr]]⟩],[⟨EF,1,D0.Ds.map (AV.int .i64)⟩],[⟨Es,1,bg Dv d47 (D0.Dq.set a1.toNat FO)⟩],[⟨Em,1,D0.Dw.map (AV.int .i64)⟩],[⟨EZ,1,D0.Dx.map (AV.int .i64)⟩],[⟨.ptr Dz DA 0 0,5,[.agg [.fz (a0.Ds.map (AV.int .i64)),.fz (a0.Dq.map (zE (AV.int .i64))),.fz (a0.Dw.map (AV.int .i64)),.fz (a0.Dx.map (AV.int .i64)),.int .i64 a0.Dr]]⟩],[⟨.ptr DL DM 0 0,5,[.agg [EF,Es,Em,EZ,.int .i64 D0.Dr]]⟩],(bG Du (AV.int .i64) 1 d47 (D0.Dq.set a1.toNat FO))]) (F:=F) hS 9 rfl [2,3,4,5,8] (by decide)
   exact hP _ JX _ G8 _ US _ HL _ PU _ hS
theorem UT {a0:DJ} {m0:AV} {m1:AV} {d101:List AV} {m2:AV} {m3:AV} {r:(DJ×List Int)} (h:Mn a0=some r) {F:List It} {H:J} (hS:aq H (⟨m0,1,a0.Ds.map (AV.int .i64)⟩::⟨m1,1,bg Dv d101 a0.Dq⟩::⟨m2,1,a0.Dw.map (AV.int .i64)⟩::⟨m3,1,a0.Dx.map (AV.int .i64)⟩::((bG Du (AV.int .i64) 1 d101 a0.Dq) ++ F))) (Ot:aJ m0) (LS:aJ m1) (IU:bI d101 (a0.Dq).length) (JA:aJ m2) (Ns:aJ m3) {P:AV→J→Prop} (hP: ∀G9:AV,aJ G9→ ∀D4:AV,aJ D4→ ∀d112:List AV,bI d112 (r.1.Dq).length→ ∀PW:AV,aJ PW→ ∀PX:AV,aJ PX→ ∀PY:AV,aJ PY→ ∀H',aq H' (⟨G9,1,r.1.Ds.map (AV.int .i64)⟩::⟨D4,1,bg Dv d112 r.1.Dq⟩::⟨PW,1,r.1.Dw.map (AV.int .i64)⟩::⟨PX,1,r.1.Dx.map (AV.int .i64)⟩::⟨PY,1,r.2.map (AV.int .i64)⟩::((bG Du (AV.int .i64) 1 d112 r.1.Dq) ++ F))→P (.aE [.agg [G9,D4,PW,PX,.int .i64 r.1.Dr],PY]) H'):aw C 150 [.agg [m0,m1,m2,m3,.int .i64 a0.Dr]] H P:=by
 refine Bn gC (res:=[.cell 2 26,.tmp 3]) (n:=94) rfl rfl rfl rfl fun K0 DQ=> ?_;simp only [W,Nat.reduceSub,Nat.reduceAdd,List.replicate];unfold Mn at h;refine AW fun K1 D5=> ?_;refine Bk gC ?_;try simp only [W,Nat.reduceAdd]
 refine Br hS rfl rfl rfl (by simp only [W,di,List.all_cons,List.all_nil,Ot.pL,LS.pL,JA.pL,Ns.pL];rfl) fun Dz DA H hS=> ?_
 try simp only [W]
 refine Bs hS rfl rfl fun DL DM H hS=> ?_;try simp only [W]
 refine A_ D5 ?_;refine AW fun K6 Fk=> ?_;refine Bk gC ?_;try simp only [W,EE,Nat.reduceAdd,Nat.reduceBEq,hS.var 1 rfl]
 refine A_ Fk ?_;refine AW fun K7 Fq=> ?_;refine Bk gC ?_;try simp only [W,EE,Nat.reduceAdd,Nat.reduceBEq,hS.var 1 rfl]
 refine CP 3 hS rfl LS IU rfl ?_;try simp only [W,EE]
 refine Bq _ h fun D9 hx8 h=> ?_;try simp only [W,EE,Nat.reduceAdd,Nat.reduceBEq,hS.var 1 rfl]
 refine Bt (a:= .int .i64 D9) (y' := .agg [m0,m1,m2,m3,.int .i64 D9]) 1 hS rfl rfl rfl rfl rfl rfl rfl rfl fun H hS=> ?_
 try simp only [W]
 refine A_ Fq ?_;refine AW fun K9 Gs=> ?_;refine Bk gC ?_;try simp only [W,Nat.reduceAdd]
 refine A_ Gs ?_;refine AW fun Jc Fi=> ?_;refine Bk gC ?_;try simp only [W,EE,Nat.reduceAdd,Nat.reduceBEq,hS.var 1 rfl]
 obtain ⟨FG,Ho,h⟩:=Option.bind_eq_some_iff.1 h;have hS:aq _ (⟨m1,1,bg Dv d101 a0.Dq⟩::((bG Du (AV.int .i64) 1 d101 a0.Dq) ++ (⟨.ptr DL DM 0 0,5,[.agg [.nil,.nil,.nil,.nil,.int .i64 0]]⟩::⟨.ptr Dz DA 0 0,5,[.agg [m0,m1,m2,m3,.int .i64 D9]]⟩::⟨m0,1,a0.Ds.map (AV.int .i64)⟩::⟨m2,1,a0.Dw.map (AV.int .i64)⟩::⟨m3,1,a0.Dx.map (AV.int .i64)⟩::F))):=aq.CG (bl:=[[⟨.ptr DL DM 0 0,5,[.agg [.nil,.nil,.nil,.nil,.int .i64 0]]⟩],[⟨.ptr Dz DA 0 0,5,[.agg [m0,m1,m2,m3,.int .i64 D9]]⟩],[⟨m0,1,a0.Ds.map (AV.int .i64)⟩],[⟨m1,1,bg Dv d101 a0.Dq⟩],[⟨m2,1,a0.Dw.map (AV.int .i64)⟩],[⟨m3,1,a0.Dx.map (AV.int .i64)⟩],(bG Du (AV.int .i64) 1 d101 a0.Dq)]) (F:=F) hS 7 rfl [3,6,0,1,2,4,5] (by decide)
 obtain ⟨D6,F9,hS⟩:=CH (p:=Du) (c:=(AV.int .i64)) (m:=Dv) (b:=FG) hS IU Ho;have hS:aq _ (⟨D6,1,FG.map (AV.int .i64)⟩::⟨.ptr DL DM 0 0,5,[.agg [.nil,.nil,.nil,.nil,.int .i64 0]]⟩::⟨.ptr Dz DA 0 0,5,[.agg [m0,m1,m2,m3,.int .i64 D9]]⟩::⟨m0,1,a0.Ds.map (AV.int .i64)⟩::⟨m1,1,(bg Dv d101 a0.Dq).set a0.Dr.toNat (D6)⟩::⟨m2,1,a0.Dw.map (AV.int .i64)⟩::⟨m3,1,a0.Dx.map (AV.int .i64)⟩::((mY Du (AV.int .i64) 1 d101 a0.Dq a0.Dr.toNat) ++ (F))):=aq.CG (bl:=[[⟨D6,1,FG.map (AV.int .i64)⟩],[⟨m1,1,(bg Dv d101 a0.Dq).set a0.Dr.toNat (D6)⟩],(mY Du (AV.int .i64) 1 d101 a0.Dq a0.Dr.toNat),[⟨.ptr DL DM 0 0,5,[.agg [.nil,.nil,.nil,.nil,.int .i64 0]]⟩],[⟨.ptr Dz DA 0 0,5,[.agg [m0,m1,m2,m3,.int .i64 D9]]⟩],[⟨m0,1,a0.Ds.map (AV.int .i64)⟩],[⟨m2,1,a0.Dw.map (AV.int .i64)⟩],[⟨m3,1,a0.Dx.map (AV.int .i64)⟩]]) (F:=F) hS 8 rfl [0,3,4,5,1,6,7,2] (by decide)
 refine CK (x:=D6) 4 hS rfl rfl rfl rfl rfl (gI Ho).1 (CO IU Ho) LS (fun aci acj ack acm UU=> ?_);obtain ⟨acn,UW,UX⟩:=UU;try simp only [W,EE,UW,UX,F9.rd]
 refine A_ Fi ?_;refine AW fun Ob H7=> ?_;refine AW fun HI Fu=> ?_;refine Bk gC ?_;try simp only [W,EE,Nat.reduceAdd]
 refine zi 0 hS rfl F9 rfl ?_;try simp only [W,EE]
 refine A_ Fu ?_;obtain ⟨PZ,h,UY⟩:=Option.bind_eq_some_iff.1 h;refine BG gC (fun s H=> ∃Fy:List Int,PZ=(Fy)∧s=(u:: .ptr Dz DA 0 0:: .ptr DL DM 0 0::u:: .int .i64 a0.Dr:: .nil::D6::u::u::u::u::u::u::u::u::u::u::u::u::u::u::u::u::u::u::u::u::u::u::u::u::u::u::u::u::u::u::u::u::u::u::u::u::u::u::u::u::u::u::u::u::u::u::u::u::u::u::u::u::u::u::u::u::u::u::u::u::u::u::u::u::u::u::u::u::u::u::u::u::u::u::u::u::u::u::u::u::u::u::u::u::u::u::u::[])∧aq H (⟨D6,1,FG.map (AV.int .i64)⟩::⟨m0,1,a0.Ds.map (AV.int .i64)⟩::⟨m1,1,(bg Dv d101 a0.Dq).set a0.Dr.toNat (D6)⟩::⟨m2,1,Fy.map (AV.int .i64)⟩::⟨m3,1,a0.Dx.map (AV.int .i64)⟩::⟨.ptr Dz DA 0 0,5,[.agg [m0,m1,m2,m3,.int .i64 D9]]⟩::⟨.ptr DL DM 0 0,5,[.agg [.nil,.nil,.nil,.nil,.int .i64 0]]⟩::((mY Du (AV.int .i64) 1 d101 a0.Dq a0.Dr.toNat) ++ F))) (fun KE GU=> ?_) (fun s H hq=> ?_)
 ·refine AW fun KD GS=> ?_;refine A8 ?_;simp only [W];refine Bj h (fun hc h=> ?_) (fun hc h=> ?_)
  ·refine BY gC [(12,[])] (by kernel_rfl) rfl (by kernel_rfl) ?_
   try simp only [W,EE,reduceIte,Nat.reduceAdd,Nat.reduceBEq,hS.var 2 rfl,iG,ln,Nat.reduceEqDiff]
   refine Bw 5 hS rfl rfl rfl rfl rfl h (fun F8 aco acp acq Sa h UZ=> ?_) JA.ne;obtain ⟨acr,U0,U1⟩:=hS.elem 5 rfl UZ Sa;try simp only [W,EE,Nat.reduceAdd,Nat.reduceBEq,hS.var 2 rfl,U0,U1]
   refine Bw 3 hS rfl rfl rfl rfl rfl h (fun DX acs acu acv Nt h U2=> ?_) Ot.ne;obtain ⟨acw,U3,U4⟩:=hS.elem 3 rfl U2 Nt;try simp only [W,EE,U3,U4]
   refine Bw 5 hS rfl rfl rfl rfl rfl h (fun b26 acx acy acz Sb h Sc=> ?_) JA.ne;obtain ⟨acA,acB,acC⟩:=hS.elem 5 rfl Sc Sb;try simp only [W]
   refine Bx (a:= .int .i64 (IntKind.i64.wrap (F8+DX))) (y' :=(IntKind.i64.wrap (F8+DX))) 5 hS rfl Sc Sb rfl rfl rfl rfl rfl rfl rfl fun H hS=> ?_
   try simp only [W]
   refine A_ GS ?_;refine C4 (s' :=(u:: .ptr Dz DA 0 0:: .ptr DL DM 0 0::u:: .int .i64 a0.Dr:: .nil::D6::u::u::u::u::u::u::u::u::u::u::u::u::u::u::u::u::u::u::u::u::u::u::u::u::u::u::u::u::u::u::u::u::u::u::u::u::u::u::u::u::u::u::u::u::u::u::u::u::u::u::u::u::u::u::u::u::u::u::u::u::u::u::u::u::u::u::u::u::u::u::u::u::u::u::u::u::u::u::u::u::u::u::u::u::u::u::u::[])) rfl ?_
   have hS:aq _ (⟨D6,1,FG.map (AV.int .i64)⟩::⟨m0,1,a0.Ds.map (AV.int .i64)⟩::⟨m1,1,(bg Dv d101 a0.Dq).set a0.Dr.toNat (D6)⟩::⟨m2,1,(a0.Dw.set a0.Dr.toNat (IntKind.i64.wrap (F8+DX))).map (AV.int .i64)⟩::⟨m3,1,a0.Dx.map (AV.int .i64)⟩::⟨.ptr Dz DA 0 0,5,[.agg [m0,m1,m2,m3,.int .i64 D9]]⟩::⟨.ptr DL DM 0 0,5,[.agg [.nil,.nil,.nil,.nil,.int .i64 0]]⟩::((mY Du (AV.int .i64) 1 d101 a0.Dq a0.Dr.toNat) ++ (F))):=aq.CG (bl:=[[⟨D6,1,FG.map (AV.int .i64)⟩],[⟨.ptr DL DM 0 0,5,[.agg [.nil,.nil,.nil,.nil,.int .i64 0]]⟩],[⟨.ptr Dz DA 0 0,5,[.agg [m0,m1,m2,m3,.int .i64 D9]]⟩],[⟨m0,1,a0.Ds.map (AV.int .i64)⟩],[⟨m1,1,(bg Dv d101 a0.Dq).set a0.Dr.toNat (D6)⟩],[⟨m2,1,(a0.Dw.set a0.Dr.toNat (IntKind.i64.wrap (F8+DX))).map (AV.int .i64)⟩],[⟨m3,1,a0.Dx.map (AV.int .i64)⟩],(mY Du (AV.int .i64) 1 d101 a0.Dq a0.Dr.toNat)]) (F:=F) hS 8 rfl [0,3,4,5,6,2,1,7] (by decide)
   exact BH GU ⟨_,(Option.some.inj h).symm,rfl,hS⟩
  ·refine AY ?_;refine A_ GS ?_;refine C4 (s' :=(u:: .ptr Dz DA 0 0:: .ptr DL DM 0 0::u:: .int .i64 a0.Dr:: .nil::D6::u::u::u::u::u::u::u::u::u::u::u::u::u::u::u::u::u::u::u::u::u::u::u::u::u::u::u::u::u::u::u::u::u::u::u::u::u::u::u::u::u::u::u::u::u::u::u::u::u::u::u::u::u::u::u::u::u::u::u::u::u::u::u::u::u::u::u::u::u::u::u::u::u::u::u::u::u::u::u::u::u::u::u::u::u::u::u::[])) rfl ?_
   have hS:aq _ (⟨D6,1,FG.map (AV.int .i64)⟩::⟨m0,1,a0.Ds.map (AV.int .i64)⟩::⟨m1,1,(bg Dv d101 a0.Dq).set a0.Dr.toNat (D6)⟩::⟨m2,1,a0.Dw.map (AV.int .i64)⟩::⟨m3,1,a0.Dx.map (AV.int .i64)⟩::⟨.ptr Dz DA 0 0,5,[.agg [m0,m1,m2,m3,.int .i64 D9]]⟩::⟨.ptr DL DM 0 0,5,[.agg [.nil,.nil,.nil,.nil,.int .i64 0]]⟩::((mY Du (AV.int .i64) 1 d101 a0.Dq a0.Dr.toNat) ++ (F))):=aq.CG (bl:=[[⟨D6,1,FG.map (AV.int .i64)⟩],[⟨.ptr DL DM 0 0,5,[.agg [.nil,.nil,.nil,.nil,.int .i64 0]]⟩],[⟨.ptr Dz DA 0 0,5,[.agg [m0,m1,m2,m3,.int .i64 D9]]⟩],[⟨m0,1,a0.Ds.map (AV.int .i64)⟩],[⟨m1,1,(bg Dv d101 a0.Dq).set a0.Dr.toNat (D6)⟩],[⟨m2,1,a0.Dw.map (AV.int .i64)⟩],[⟨m3,1,a0.Dx.map (AV.int .i64)⟩],(mY Du (AV.int .i64) 1 d101 a0.Dq a0.Dr.toNat)]) (F:=F) hS 8 rfl [0,3,4,5,6,2,1,7] (by decide)
   exact BH GU ⟨_,(Option.some.inj h).symm,rfl,hS⟩
 ·obtain ⟨Fy,En,rfl,hS⟩:=hq;obtain rfl:=En.symm;replace h:=UY;try dsimp only at h
  refine A_ H7 ?_;refine AW fun M8 HJ=> ?_;obtain ⟨U5,U6,U7⟩:=Option.bind_eq_some_iff.1 h;refine BG gC (fun s H=> ∃Hh:List Int,∃Ij:List Int,∃E2:List Int,∃FO:List Int,U5=(Hh,Ij,E2,FO)∧ ∃EM:AV,aJ EM∧ ∃F3:AV,aJ F3∧s=(u:: .ptr Dz DA 0 0:: .ptr DL DM 0 0::u:: .int .i64 a0.Dr::EM::F3::u::u::u::u::u::u::u::u::u::u::u::u::u::u::u::u::u::u::u::u::u::u::u::u::u::u::u::u::u::u::u::u::u::u::u::u::u::u::u::u::u::u::u::u::u::u::u::u::u::u::u::u::u::u::u::u::u::u::u::u::u::u::u::u::u::u::u::u::u::u::u::u::u::u::u::u::u::u::u::u::u::u::u::u::u::u::u::[])∧aq H (⟨EM,1,Hh.map (AV.int .i64)⟩::⟨F3,1,Ij.map (AV.int .i64)⟩::⟨m0,1,a0.Ds.map (AV.int .i64)⟩::⟨m1,1,(bg Dv d101 a0.Dq).set a0.Dr.toNat (D6)⟩::⟨m2,1,E2.map (AV.int .i64)⟩::⟨m3,1,FO.map (AV.int .i64)⟩::⟨.ptr Dz DA 0 0,5,[.agg [m0,m1,m2,m3,.int .i64 D9]]⟩::⟨.ptr DL DM 0 0,5,[.agg [.nil,.nil,.nil,.nil,.int .i64 0]]⟩::((mY Du (AV.int .i64) 1 d101 a0.Dq a0.Dr.toNat) ++ F))) (fun Sd Nu=> ?_) (fun s H hq=> ?_)
  ·refine AX fun PV JY=> ?_;have hS:=hS.uo 1;refine BC gC U6 (fun x s H=>match x with|(Fa,Eg,ED,EW)=> ∃v30:AV,aJ v30∧ ∃Iu:AV,aJ Iu∧s=(u:: .ptr Dz DA 0 0:: .ptr DL DM 0 0::u:: .int .i64 a0.Dr::v30::Iu::u::u::u::u::u::u::u::u::u::u::u::u::u::u::u::u::u::u::u::u::u::u::u::u::u::u::u::u::u::u::u::u::u::u::u::u::u::u::u::u::u::u::u::u::u::u::u::u::u::u::u::u::u::u::u::u::u::u::u::u::u::u::u::u::u::u::u::u::u::u::u::u::u::u::u::u::u::u::u::u::u::u::u::u::u::u::u::[])∧aq H (⟨v30,1,Fa.map (AV.int .i64)⟩::⟨Iu,1,Eg.map (AV.int .i64)⟩::⟨m0,1,a0.Ds.map (AV.int .i64)⟩::⟨m1,1,(bg Dv d101 a0.Dq).set a0.Dr.toNat (D6)⟩::⟨m2,1,ED.map (AV.int .i64)⟩::⟨m3,1,EW.map (AV.int .i64)⟩::⟨.ptr Dz DA 0 0,5,[.agg [m0,m1,m2,m3,.int .i64 D9]]⟩::⟨.ptr DL DM 0 0,5,[.agg [.nil,.nil,.nil,.nil,.int .i64 0]]⟩::((mY Du (AV.int .i64) 1 d101 a0.Dq a0.Dr.toNat) ++ F))) ⟨_,lh,_,F9,rfl,hS⟩ (fun x y49 s H h U8 hi Se KK=> ?_)
   obtain ⟨Fa,Eg,ED,EW⟩:=x;try dsimp only at hi
   obtain ⟨v30,GF,Iu,KL,rfl,hS⟩:=hi;simp only [Ml] at h;refine AW fun U9 Ou=> ?_;refine AW fun K52 U_=> ?_;obtain ⟨Va,h,Vb⟩:=Option.bind_eq_some_iff.1 h;refine BG gC (fun s H=> ∃Mm:Bool,Va=(Mm)∧s=(u:: .ptr Dz DA 0 0:: .ptr DL DM 0 0::u:: .int .i64 a0.Dr::v30::Iu::u::u::u::u::u::u::u::u::u::u::u::u::u::u::u::u::u::u::u::u::u::u::u::u::u::u::u::u::u::u::u::u::u::u::u::u::u::u::u::u::u::u:: .bool Mm::u::u::u::u::u::u::u::u::u::u::u::u::u::u::u::u::u::u::u::u::u::u::u::u::u::u::u::u::u::u::u::u::u::u::u::u::u::u::u::u::u::u::u::u::[])∧aq H (⟨v30,1,Fa.map (AV.int .i64)⟩::⟨Iu,1,Eg.map (AV.int .i64)⟩::⟨m0,1,a0.Ds.map (AV.int .i64)⟩::⟨m1,1,(bg Dv d101 a0.Dq).set a0.Dr.toNat (D6)⟩::⟨m2,1,ED.map (AV.int .i64)⟩::⟨m3,1,EW.map (AV.int .i64)⟩::⟨.ptr Dz DA 0 0,5,[.agg [m0,m1,m2,m3,.int .i64 D9]]⟩::⟨.ptr DL DM 0 0,5,[.agg [.nil,.nil,.nil,.nil,.int .i64 0]]⟩::((mY Du (AV.int .i64) 1 d101 a0.Dq a0.Dr.toNat) ++ F))) (fun Vc Ov=> ?_) (fun s H hq=> ?_)
   ·refine AW fun Vd Ox=> ?_;refine Bm gC (by kernel_rfl) ?_
    try simp only [W,EE,Nat.reduceAdd]
    refine zi 1 hS rfl KL rfl ?_;try simp only [W,EE]
    refine BW h (fun hc h=> ?_) (fun hc h=> ?_)
    ·try simp only [W,EE,hc]
     refine Bw 1 hS rfl rfl rfl rfl rfl h (fun JP acD acE acF Ve h Vf=> ?_) KL.ne;obtain ⟨acG,Vg,Vh⟩:=hS.elem 1 rfl Vf Ve;try simp only [W,EE,Nat.reduceAdd,Nat.reduceBEq,hS.var 6 rfl,Vg,Vh]
     refine Bw 4 hS rfl rfl rfl rfl rfl h (fun NR UA UB UC Ok h Ol=> ?_) JA.ne;obtain ⟨UE,R2,R3⟩:=hS.elem 4 rfl Ol Ok;try simp only [W,EE,reduceIte,R2,R3]
     refine A_ Ox ?_;refine C4 (s' :=(u:: .ptr Dz DA 0 0:: .ptr DL DM 0 0::u:: .int .i64 a0.Dr::v30::Iu::u::u::u::u::u::u::u::u::u::u::u::u::u::u::u::u::u::u::u::u::u::u::u::u::u::u::u::u::u::u::u::u::u::u::u::u::u::u::u::u::u::u:: .bool (decide (JP≤NR))::u::u::u::u::u::u::u::u::u::u::u::u::u::u::u::u::u::u::u::u::u::u::u::u::u::u::u::u::u::u::u::u::u::u::u::u::u::u::u::u::u::u::u::u::[])) rfl ?_
     exact BH Ov ⟨_,(Option.some.inj h).symm,rfl,hS⟩
    ·try simp only [W,hc]
     refine A_ Ox ?_;refine C4 (s' :=(u:: .ptr Dz DA 0 0:: .ptr DL DM 0 0::u:: .int .i64 a0.Dr::v30::Iu::u::u::u::u::u::u::u::u::u::u::u::u::u::u::u::u::u::u::u::u::u::u::u::u::u::u::u::u::u::u::u::u::u::u::u::u::u::u::u::u::u::u:: .bool false::u::u::u::u::u::u::u::u::u::u::u::u::u::u::u::u::u::u::u::u::u::u::u::u::u::u::u::u::u::u::u::u::u::u::u::u::u::u::u::u::u::u::u::u::[])) rfl ?_
     exact BH Ov ⟨_,(Option.some.inj h).symm,rfl,hS⟩
   ·obtain ⟨Mm,En,rfl,hS⟩:=hq;obtain rfl:=En.symm;replace h:=Vb;try dsimp only at h
    refine A_ U_ ?_;refine A8 ?_;simp only [W];refine Bj h (fun hc h=> ?_) (fun hc h=> ?_)
    ·refine AY ?_;refine A_ Ou ?_;refine AX fun UF Pz=> ?_;refine AW fun K63 Vi=> ?_;refine BY gC [(10,[])] (by kernel_rfl) rfl (by kernel_rfl) ?_
     try simp only [W,EE,reduceIte,Nat.reduceAdd,Nat.reduceBEq,hS.var 6 rfl,iG,ln,Nat.reduceEqDiff]
     refine Bw 4 hS rfl rfl rfl rfl rfl h (fun Lq acH acI acJ Vj h Vk=> ?_) JA.ne;obtain ⟨acK,Vl,Vm⟩:=hS.elem 4 rfl Vk Vj;try simp only [W,EE,Vl,Vm]
     refine Bw 1 hS rfl rfl rfl rfl rfl h (fun Lr acL acM acN Vn h Vo=> ?_) KL.ne;obtain ⟨acO,Vp,Vq⟩:=hS.elem 1 rfl Vo Vn;try simp only [W,EE,Vp,Vq]
     refine Bw 4 hS rfl rfl rfl rfl rfl h (fun HH acP acQ acR Sf h Sg=> ?_) JA.ne;obtain ⟨acS,acT,acU⟩:=hS.elem 4 rfl Sg Sf;try simp only [W]
     refine Bx (a:= .int .i64 (IntKind.i64.wrap (Lq-Lr))) (y' :=(IntKind.i64.wrap (Lq-Lr))) 4 hS rfl Sg Sf rfl rfl rfl rfl rfl rfl rfl fun H hS=> ?_
     try simp only [W]
     refine A_ Vi ?_;refine AW fun Vr P0=> ?_;refine BY gC [(10,[])] (by kernel_rfl) rfl (by kernel_rfl) ?_
     try simp only [W,EE,reduceIte,Nat.reduceAdd,Nat.reduceBEq,hS.var 6 rfl,iG,ln,Nat.reduceEqDiff]
     refine Bw 5 hS rfl rfl rfl rfl rfl h (fun HT acV acW acX P1 h Vs=> ?_) Ns.ne;obtain ⟨acY,Vt,Vu⟩:=hS.elem 5 rfl Vs P1;try simp only [W,EE,Vt,Vu]
     refine Bw 1 hS rfl rfl rfl rfl rfl h (fun ID acZ ac0 ac1 Vv h Vw=> ?_) KL.ne;obtain ⟨ac2,Vx,Vy⟩:=hS.elem 1 rfl Vw Vv;try simp only [W,EE,Vx,Vy]
     refine Bw 5 hS rfl rfl rfl rfl rfl h (fun Oy ac3 ac4 ac5 Oz h Si=> ?_) Ns.ne;obtain ⟨ac6,ac7,ac8⟩:=hS.elem 5 rfl Si Oz;try simp only [W]
     refine Bx (a:= .int .i64 (IntKind.i64.wrap (HT+ID))) (y' :=(IntKind.i64.wrap (HT+ID))) 5 hS rfl Si Oz rfl rfl rfl rfl rfl rfl rfl fun H hS=> ?_
     try simp only [W]
     refine A_ P0 ?_;refine AW fun K77 Vz=> ?_;refine Bk gC ?_;try simp only [W,EE,Nat.reduceAdd]
     refine Bw 1 hS rfl rfl rfl rfl rfl h (fun NS ac9 ac_ ada VA h VB=> ?_) KL.ne;obtain ⟨adb,VC,VD⟩:=hS.elem 1 rfl VB VA;try simp only [W,EE,VC,VD]
     refine BA (el:=([NS]:List Int).map (AV.int .i64)) hS rfl rfl rfl rfl rfl rfl rfl fun VE H VF hS=> ?_;try simp only [W,EE]
     refine BO (l:=Fa) (c:=(AV.int .i64)) 1 hS rfl GF rfl rfl rfl (hS.gJ 0 rfl VF) (fun _=>rfl) rfl h fun Sj H NT VG hm h hS=> ?_;try simp only [W]
     refine A_ Vz ?_;refine Bk gC ?_;try simp only [W,EE,Nat.reduceAdd]
     refine BN 2 hS rfl KL rfl rfl rfl h fun Sk NU VH ade h hS=> ?_;try simp only [W]
     refine Bd Pz ?_;have hS:aq _ (⟨Sj,1,NT.map (AV.int .i64)⟩::⟨Sk,1,NU.map (AV.int .i64)⟩::⟨m0,1,a0.Ds.map (AV.int .i64)⟩::⟨m1,1,(bg Dv d101 a0.Dq).set a0.Dr.toNat (D6)⟩::⟨m2,1,(ED.set a0.Dr.toNat (IntKind.i64.wrap (Lq-Lr))).map (AV.int .i64)⟩::⟨m3,1,(EW.set a0.Dr.toNat (IntKind.i64.wrap (HT+ID))).map (AV.int .i64)⟩::⟨.ptr Dz DA 0 0,5,[.agg [m0,m1,m2,m3,.int .i64 D9]]⟩::⟨.ptr DL DM 0 0,5,[.agg [.nil,.nil,.nil,.nil,.int .i64 0]]⟩::((mY Du (AV.int .i64) 1 d101 a0.Dq a0.Dr.toNat) ++ (F))):=aq.CG (bl:=[[⟨VE,1,([NS]:List Int).map (AV.int .i64)⟩],[⟨Sj,1,NT.map (AV.int .i64)⟩],[⟨Sk,1,NU.map (AV.int .i64)⟩],[⟨m0,1,a0.Ds.map (AV.int .i64)⟩],[⟨m1,1,(bg Dv d101 a0.Dq).set a0.Dr.toNat (D6)⟩],[⟨m2,1,(ED.set a0.Dr.toNat (IntKind.i64.wrap (Lq-Lr))).map (AV.int .i64)⟩],[⟨m3,1,(EW.set a0.Dr.toNat (IntKind.i64.wrap (HT+ID))).map (AV.int .i64)⟩],[⟨.ptr Dz DA 0 0,5,[.agg [m0,m1,m2,m3,.int .i64 D9]]⟩],[⟨.ptr DL DM 0 0,5,[.agg [.nil,.nil,.nil,.nil,.int .i64 0]]⟩],(mY Du (AV.int .i64) 1 d101 a0.Dq a0.Dr.toNat)]) (F:=F) hS 10 rfl [1,2,3,4,5,6,7,8,9] (by decide)
     exact BD KK h ⟨_,VG,_,VH,rfl,hS⟩
    ·refine A7 ?_;refine Bb Ou ?_;try obtain rfl:=Option.some.inj h
     obtain rfl:=U8 _ rfl;have h:(some (Fa,Eg,ED,EW):Option ((List Int)×(List Int)×(List Int)×(List Int)))=some (Fa,Eg,ED,EW):=rfl;refine BE KK ?_;refine Be JY ?_;exact BH Nu ⟨_,_,_,_,(Option.some.inj h).symm,_,GF,_,KL,rfl,hS⟩
  ·obtain ⟨Hh,Ij,E2,FO,rfl,EM,Jd,F3,Oq,rfl,hS⟩:=hq;replace h:=U7;try dsimp only at h
   refine A_ HJ ?_;refine AW fun K91 VI=> ?_;refine AW fun VJ P2=> ?_;refine Bk gC ?_;try simp only [W,EE,Nat.reduceAdd]
   refine zi 1 hS rfl Oq rfl ?_;try simp only [W,EE]
   refine A_ P2 ?_;obtain ⟨VK,h,VL⟩:=Option.bind_eq_some_iff.1 h;refine BG gC (fun s H=> ∃GZ:List Int,VK=(GZ)∧s=(u:: .ptr Dz DA 0 0:: .ptr DL DM 0 0::u:: .int .i64 a0.Dr::EM::F3::u::u::u::u::u::u::u::u::u::u::u::u::u::u::u::u::u::u::u::u::u::u::u::u::u::u::u::u::u::u::u::u::u::u::u::u::u::u::u::u::u::u::u::u::u::u::u::u::u::u::u::u::u::u::u::u::u::u::u::u::u::u::u::u::u::u::u::u::u::u::u::u::u::u::u::u::u::u::u::u::u::u::u::u::u::u::u::[])∧aq H (⟨EM,1,Hh.map (AV.int .i64)⟩::⟨F3,1,Ij.map (AV.int .i64)⟩::⟨m0,1,a0.Ds.map (AV.int .i64)⟩::⟨m1,1,(bg Dv d101 a0.Dq).set a0.Dr.toNat (D6)⟩::⟨m2,1,GZ.map (AV.int .i64)⟩::⟨m3,1,FO.map (AV.int .i64)⟩::⟨.ptr Dz DA 0 0,5,[.agg [m0,m1,m2,m3,.int .i64 D9]]⟩::⟨.ptr DL DM 0 0,5,[.agg [.nil,.nil,.nil,.nil,.int .i64 0]]⟩::((mY Du (AV.int .i64) 1 d101 a0.Dq a0.Dr.toNat) ++ F))) (fun K96 Sl=> ?_) (fun s H hq=> ?_)
   ·refine AW fun VM KM=> ?_;refine A8 ?_;simp only [W];refine Bj h (fun hc h=> ?_) (fun hc h=> ?_)
    ·refine Bk gC ?_;try simp only [W,EE,Nat.reduceAdd,Nat.reduceBEq,hS.var 6 rfl]
     refine Bw 4 hS rfl rfl rfl rfl rfl h (fun b98 adf adg adh Sm h Sn=> ?_) JA.ne;obtain ⟨adi,adj,adk⟩:=hS.elem 4 rfl Sn Sm;try simp only [W]
     refine Bx (a:= .int .i64 0) (y' :=0) 4 hS rfl Sn Sm rfl rfl rfl rfl rfl rfl rfl fun H hS=> ?_
     try simp only [W]
     refine A_ KM ?_;refine C4 (s' :=(u:: .ptr Dz DA 0 0:: .ptr DL DM 0 0::u:: .int .i64 a0.Dr::EM::F3::u::u::u::u::u::u::u::u::u::u::u::u::u::u::u::u::u::u::u::u::u::u::u::u::u::u::u::u::u::u::u::u::u::u::u::u::u::u::u::u::u::u::u::u::u::u::u::u::u::u::u::u::u::u::u::u::u::u::u::u::u::u::u::u::u::u::u::u::u::u::u::u::u::u::u::u::u::u::u::u::u::u::u::u::u::u::u::[])) rfl ?_
     exact BH Sl ⟨_,(Option.some.inj h).symm,rfl,hS⟩
    ·refine AY ?_;refine A_ KM ?_;refine C4 (s' :=(u:: .ptr Dz DA 0 0:: .ptr DL DM 0 0::u:: .int .i64 a0.Dr::EM::F3::u::u::u::u::u::u::u::u::u::u::u::u::u::u::u::u::u::u::u::u::u::u::u::u::u::u::u::u::u::u::u::u::u::u::u::u::u::u::u::u::u::u::u::u::u::u::u::u::u::u::u::u::u::u::u::u::u::u::u::u::u::u::u::u::u::u::u::u::u::u::u::u::u::u::u::u::u::u::u::u::u::u::u::u::u::u::u::[])) rfl ?_
     exact BH Sl ⟨_,(Option.some.inj h).symm,rfl,hS⟩
   ·obtain ⟨GZ,En,rfl,hS⟩:=hq;obtain rfl:=En.symm;replace h:=VL;try dsimp only at h
    refine A_ VI ?_;refine AW fun adl VN=> ?_;refine BY gC [(7,[])] (by kernel_rfl) rfl (by kernel_rfl) ?_
    try simp only [W,EE,reduceIte,Nat.reduceAdd,Nat.reduceBEq,hS.var 6 rfl,iG,ln,Nat.reduceEqDiff]
    refine Bz rfl rfl ?_;try simp only [W]
    refine B7 rfl ?_;simp only [W,EE];have hS:=hS.zx 1;refine BO (l:=([]:List Int)) (c:=(AV.int .i64)) 0 hS rfl mS rfl rfl rfl (hS.gJ 2 rfl Oq) (fun _=>rfl) rfl h fun LU H HU Nv hm h hS=> ?_;try simp only [W,EE]
    refine CK (x:=D6) 4 hS rfl rfl rfl rfl rfl (gI Ho).1 (CO IU Ho) LS (fun adn ado adp VO VP=> ?_);obtain ⟨adq,adr,ads⟩:=VP;try simp only [W]
    refine CL (a:=LU) (y' :=LU) (i:=a0.Dr.toNat) 4 hS rfl VO (CO IU Ho) rfl rfl rfl (by rw [Nv.cells];rfl) Nv.By (Nv.B8 F9) (by first|rfl|(rw [Nv.cells];rfl)) (List.set_set ..) fun H hS=> ?_
    try simp only [W]
    refine A_ VN ?_;refine AW fun VQ P3=> ?_;refine Bk gC ?_;try simp only [W,EE,reduceIte,Nat.reduceAdd,Nat.reduceLeDiff,hS.var 7 rfl]
    refine Bt (a:= .agg [m0,m1,m2,m3,.int .i64 D9]) (y' := .agg [m0,m1,m2,m3,.int .i64 D9]) 8 hS rfl rfl rfl rfl rfl (by simp only [di,List.all_cons,List.all_nil,Ot.pL,LS.pL,JA.pL,Ns.pL];rfl) rfl rfl fun H hS=> ?_
    try simp only [W]
    refine A_ P3 ?_;refine AZ ?_;have hS:aq _ (⟨LU,1,HU.map (AV.int .i64)⟩::⟨m1,1,(bg Dv d101 a0.Dq).set a0.Dr.toNat (LU)⟩::((mY Du (AV.int .i64) 1 d101 a0.Dq a0.Dr.toNat) ++ (⟨EM,1,Hh.map (AV.int .i64)⟩::⟨F3,1,Ij.map (AV.int .i64)⟩::⟨m0,1,a0.Ds.map (AV.int .i64)⟩::⟨m2,1,GZ.map (AV.int .i64)⟩::⟨m3,1,FO.map (AV.int .i64)⟩::⟨.ptr Dz DA 0 0,5,[.agg [m0,m1,m2,m3,.int .i64 D9]]⟩::⟨.ptr DL DM 0 0,5,[.agg [m0,m1,m2,m3,.int .i64 D9]]⟩::F))):=aq.CG (bl:=[[⟨LU,1,HU.map (AV.int .i64)⟩],[⟨EM,1,Hh.map (AV.int .i64)⟩],[⟨F3,1,Ij.map (AV.int .i64)⟩],[⟨m0,1,a0.Ds.map (AV.int .i64)⟩],[⟨m1,1,(bg Dv d101 a0.Dq).set a0.Dr.toNat (LU)⟩],[⟨m2,1,GZ.map (AV.int .i64)⟩],[⟨m3,1,FO.map (AV.int .i64)⟩],[⟨.ptr Dz DA 0 0,5,[.agg [m0,m1,m2,m3,.int .i64 D9]]⟩],[⟨.ptr DL DM 0 0,5,[.agg [m0,m1,m2,m3,.int .i64 D9]]⟩],(mY Du (AV.int .i64) 1 d101 a0.Dq a0.Dr.toNat)]) (F:=F) hS 10 rfl [0,4,9,1,2,3,5,6,7,8] (by decide)
    obtain ⟨d107,VR,hS⟩:=Aa (p:=Du) (c:=(AV.int .i64)) (m:=Dv) (b:=FG) (y:=HU) hS IU Nv Ho;have hS:aq _ (⟨EM,1,Hh.map (AV.int .i64)⟩::⟨F3,1,Ij.map (AV.int .i64)⟩::⟨m0,1,a0.Ds.map (AV.int .i64)⟩::⟨m1,1,bg Dv d107 (a0.Dq.set a0.Dr.toNat HU)⟩::⟨m2,1,GZ.map (AV.int .i64)⟩::⟨m3,1,FO.map (AV.int .i64)⟩::⟨.ptr Dz DA 0 0,5,[.agg [m0,m1,m2,m3,.int .i64 D9]]⟩::⟨.ptr DL DM 0 0,5,[.agg [m0,m1,m2,m3,.int .i64 D9]]⟩::((bG Du (AV.int .i64) 1 d107 (a0.Dq.set a0.Dr.toNat HU)) ++ (F))):=aq.CG (bl:=[[⟨m1,1,bg Dv d107 (a0.Dq.set a0.Dr.toNat HU)⟩],(bG Du (AV.int .i64) 1 d107 (a0.Dq.set a0.Dr.toNat HU)),[⟨EM,1,Hh.map (AV.int .i64)⟩],[⟨F3,1,Ij.map (AV.int .i64)⟩],[⟨m0,1,a0.Ds.map (AV.int .i64)⟩],[⟨m2,1,GZ.map (AV.int .i64)⟩],[⟨m3,1,FO.map (AV.int .i64)⟩],[⟨.ptr Dz DA 0 0,5,[.agg [m0,m1,m2,m3,.int .i64 D9]]⟩],[⟨.ptr DL DM 0 0,5,[.agg [m0,m1,m2,m3,.int .i64 D9]]⟩]]) (F:=F) hS 9 rfl [2,3,4,0,5,6,7,8,1] (by decide)
    refine Bg DQ (BU rfl rfl (hS.var 7 rfl) rfl (BV rfl rfl)) ?_;try obtain rfl:=Option.some.inj h
    have hS:aq _ (⟨m0,1,a0.Ds.map (AV.int .i64)⟩::⟨m1,1,bg Dv d107 (a0.Dq.set a0.Dr.toNat HU)⟩::⟨m2,1,GZ.map (AV.int .i64)⟩::⟨m3,1,FO.map (AV.int .i64)⟩::⟨EM,1,Hh.map (AV.int .i64)⟩::((bG Du (AV.int .i64) 1 d107 (a0.Dq.set a0.Dr.toNat HU)) ++ (F))):=aq.CG (bl:=[[⟨EM,1,Hh.map (AV.int .i64)⟩],[⟨F3,1,Ij.map (AV.int .i64)⟩],[⟨m0,1,a0.Ds.map (AV.int .i64)⟩],[⟨m1,1,bg Dv d107 (a0.Dq.set a0.Dr.toNat HU)⟩],[⟨m2,1,GZ.map (AV.int .i64)⟩],[⟨m3,1,FO.map (AV.int .i64)⟩],[⟨.ptr Dz DA 0 0,5,[.agg [m0,m1,m2,m3,.int .i64 D9]]⟩],[⟨.ptr DL DM 0 0,5,[.agg [m0,m1,m2,m3,.int .i64 D9]]⟩],(bG Du (AV.int .i64) 1 d107 (a0.Dq.set a0.Dr.toNat HU))]) (F:=F) hS 9 rfl [2,3,4,5,0,8] (by decide)
    exact hP _ Ot _ LS _ VR _ JA _ Ns _ Jd _ hS
theorem So {a0:DJ} {r:(DJ×List Int×Bool)} (h:Ls a0=some r) {F:List It} {H:J} (hS:aq H (F)) {P:AV→J→Prop} (hP: ∀P4:AV,aJ P4→ ∀P5:AV,aJ P5→ ∀d73:List AV,bI d73 (r.1.Dq).length→ ∀P6:AV,aJ P6→ ∀P7:AV,aJ P7→ ∀GG:AV,aJ GG→ ∀H',aq H' (⟨P4,1,r.1.Ds.map (AV.int .i64)⟩::⟨P5,1,bg Dv d73 r.1.Dq⟩::⟨P6,1,r.1.Dw.map (AV.int .i64)⟩::⟨P7,1,r.1.Dx.map (AV.int .i64)⟩::⟨GG,1,r.2.1.map (AV.int .i64)⟩::((bG Du (AV.int .i64) 1 d73 r.1.Dq) ++ F))→P (.aE [.agg [P4,P5,P6,P7,.int .i64 r.1.Dr],GG,.bool r.2.2]) H'):aw C 16 [.agg [.fz (a0.Ds.map (AV.int .i64)),.fz (a0.Dq.map (zE (AV.int .i64))),.fz (a0.Dw.map (AV.int .i64)),.fz (a0.Dx.map (AV.int .i64)),.int .i64 a0.Dr]] H P:=by
 refine Bn gC (res:=[.cell 2 26,.tmp 3,.tmp 4]) (n:=24) rfl rfl rfl rfl fun K0 DQ=> ?_;simp only [W,Nat.reduceSub,Nat.reduceAdd,List.replicate];unfold Ls at h;refine AW fun K1 D5=> ?_;refine Bk gC ?_;try simp only [W,Nat.reduceAdd]
 refine Br hS rfl rfl rfl rfl fun Dz DA H hS=> ?_;try simp only [W]
 refine Bs hS rfl rfl fun DL DM H hS=> ?_;try simp only [W]
 refine A_ D5 ?_;refine AW fun K6 Fk=> ?_;refine AW fun K7 Fq=> ?_;refine Bk gC ?_;try simp only [W,EE,reduceIte,Nat.reduceAdd,Nat.reduceLeDiff,hS.var 1 rfl]
 refine BB h fun FF Ia h=> ?_;refine Ni Ia hS fun H hS=> ?_;try simp only [W]
 refine A_ Fq ?_;refine A8 ?_;simp only [W];refine Bj h (fun hc h=> ?_) (fun hc h=> ?_)
 ·refine AW fun K9 Gs=> ?_;refine Bk gC ?_;try simp only [W,EE,Nat.reduceAdd]
  refine BX rfl rfl rfl rfl rfl ?_;try simp only [W]
  refine Bt (a:= .agg [.nil,.nil,.nil,.nil,.int .i64 0]) (y' := .agg [.nil,.nil,.nil,.nil,.int .i64 0]) 0 hS rfl rfl rfl rfl rfl rfl rfl rfl fun H hS=> ?_
  try simp only [W]
  refine A_ Gs ?_;refine AZ ?_;refine Ba Fk ?_;have hS:=hS.uo 1;have hS:=hS.uo 1;obtain ⟨d12,P8,hS⟩:=CI (p:=Du) (c:=(AV.int .i64)) (z:=1) (m:=Dv) hS;have hS:aq _ (⟨AV.nil,1,bg Dv d12 ([]:List (List Int))⟩::⟨AV.nil,1,([]:List Int).map (AV.int .i64)⟩::⟨.ptr DL DM 0 0,5,[.agg [.nil,.nil,.nil,.nil,.int .i64 0]]⟩::⟨.ptr Dz DA 0 0,5,[.agg [.fz (a0.Ds.map (AV.int .i64)),.fz (a0.Dq.map (zE (AV.int .i64))),.fz (a0.Dw.map (AV.int .i64)),.fz (a0.Dx.map (AV.int .i64)),.int .i64 a0.Dr]]⟩::((bG Du (AV.int .i64) 1 d12 ([]:List (List Int))) ++ (F))):=aq.CG (bl:=[[⟨AV.nil,1,bg Dv d12 ([]:List (List Int))⟩],(bG Du (AV.int .i64) 1 d12 ([]:List (List Int))),[⟨AV.nil,1,([]:List Int).map (AV.int .i64)⟩],[⟨.ptr DL DM 0 0,5,[.agg [.nil,.nil,.nil,.nil,.int .i64 0]]⟩],[⟨.ptr Dz DA 0 0,5,[.agg [.fz (a0.Ds.map (AV.int .i64)),.fz (a0.Dq.map (zE (AV.int .i64))),.fz (a0.Dw.map (AV.int .i64)),.fz (a0.Dx.map (AV.int .i64)),.int .i64 a0.Dr]]⟩]]) (F:=F) hS 5 rfl [0,2,3,4,1] (by decide)
  have hS:=hS.uo 1;have hS:=hS.uo 1;have hS:=hS.uo 1;refine Bg DQ (BU rfl rfl (hS.var 5 rfl) rfl (BV rfl (BV rfl rfl))) ?_;try obtain rfl:=Option.some.inj h
  have hS:aq _ (⟨AV.nil,1,([]:List Int).map (AV.int .i64)⟩::⟨AV.nil,1,bg Dv d12 ([]:List (List Int))⟩::⟨AV.nil,1,([]:List Int).map (AV.int .i64)⟩::⟨AV.nil,1,([]:List Int).map (AV.int .i64)⟩::⟨AV.nil,1,([]:List Int).map (AV.int .i64)⟩::((bG Du (AV.int .i64) 1 d12 ([]:List (List Int))) ++ (F))):=aq.CG (bl:=[[⟨AV.nil,1,([]:List Int).map (AV.int .i64)⟩],[⟨AV.nil,1,([]:List Int).map (AV.int .i64)⟩],[⟨AV.nil,1,([]:List Int).map (AV.int .i64)⟩],[⟨AV.nil,1,bg Dv d12 ([]:List (List Int))⟩],[⟨AV.nil,1,([]:List Int).map (AV.int .i64)⟩],[⟨.ptr DL DM 0 0,5,[.agg [.nil,.nil,.nil,.nil,.int .i64 0]]⟩],[⟨.ptr Dz DA 0 0,5,[.agg [.fz (a0.Ds.map (AV.int .i64)),.fz (a0.Dq.map (zE (AV.int .i64))),.fz (a0.Dw.map (AV.int .i64)),.fz (a0.Dx.map (AV.int .i64)),.int .i64 a0.Dr]]⟩],(bG Du (AV.int .i64) 1 d12 ([]:List (List Int)))]) (F:=F) hS 8 rfl [4,3,2,1,0,7] (by decide)
  exact hP _ lh _ lh _ P8 _ lh _ lh _ lh _ hS
 ·refine AY ?_;refine A_ Fk ?_;refine AW fun HI Fu=> ?_;refine Bk gC ?_;try simp only [W,EE,reduceIte,Nat.reduceAdd,Nat.reduceLeDiff,hS.var 1 rfl]
  refine BB h fun Ew P9 h=> ?_;refine PK P9 hS fun Ec F2 v20 OA d22 KN FJ Hc D1 GD H hS=> ?_;have hS:aq _ (⟨Ec,1,Ew.Ds.map (AV.int .i64)⟩::⟨v20,1,bg Dv d22 Ew.Dq⟩::⟨FJ,1,Ew.Dw.map (AV.int .i64)⟩::⟨D1,1,Ew.Dx.map (AV.int .i64)⟩::⟨.ptr DL DM 0 0,5,[.agg [.nil,.nil,.nil,.nil,.int .i64 0]]⟩::⟨.ptr Dz DA 0 0,5,[.agg [.fz (a0.Ds.map (AV.int .i64)),.fz (a0.Dq.map (zE (AV.int .i64))),.fz (a0.Dw.map (AV.int .i64)),.fz (a0.Dx.map (AV.int .i64)),.int .i64 a0.Dr]]⟩::((bG Du (AV.int .i64) 1 d22 Ew.Dq) ++ (F))):=aq.CG (bl:=[[⟨Ec,1,Ew.Ds.map (AV.int .i64)⟩],[⟨v20,1,bg Dv d22 Ew.Dq⟩],[⟨FJ,1,Ew.Dw.map (AV.int .i64)⟩],[⟨D1,1,Ew.Dx.map (AV.int .i64)⟩],(bG Du (AV.int .i64) 1 d22 Ew.Dq),[⟨.ptr DL DM 0 0,5,[.agg [.nil,.nil,.nil,.nil,.int .i64 0]]⟩],[⟨.ptr Dz DA 0 0,5,[.agg [.fz (a0.Ds.map (AV.int .i64)),.fz (a0.Dq.map (zE (AV.int .i64))),.fz (a0.Dw.map (AV.int .i64)),.fz (a0.Dx.map (AV.int .i64)),.int .i64 a0.Dr]]⟩]]) (F:=F) hS 7 rfl [0,1,2,3,5,6,4] (by decide)
  try simp only [W]
  have hS:aq _ (⟨Ec,1,Ew.Ds.map (AV.int .i64)⟩::⟨v20,1,bg Dv d22 Ew.Dq⟩::⟨FJ,1,Ew.Dw.map (AV.int .i64)⟩::⟨D1,1,Ew.Dx.map (AV.int .i64)⟩::((bG Du (AV.int .i64) 1 d22 Ew.Dq) ++ (⟨.ptr DL DM 0 0,5,[.agg [.nil,.nil,.nil,.nil,.int .i64 0]]⟩::⟨.ptr Dz DA 0 0,5,[.agg [.fz (a0.Ds.map (AV.int .i64)),.fz (a0.Dq.map (zE (AV.int .i64))),.fz (a0.Dw.map (AV.int .i64)),.fz (a0.Dx.map (AV.int .i64)),.int .i64 a0.Dr]]⟩::F))):=aq.CG (bl:=[[⟨Ec,1,Ew.Ds.map (AV.int .i64)⟩],[⟨v20,1,bg Dv d22 Ew.Dq⟩],[⟨FJ,1,Ew.Dw.map (AV.int .i64)⟩],[⟨D1,1,Ew.Dx.map (AV.int .i64)⟩],[⟨.ptr DL DM 0 0,5,[.agg [.nil,.nil,.nil,.nil,.int .i64 0]]⟩],[⟨.ptr Dz DA 0 0,5,[.agg [.fz (a0.Ds.map (AV.int .i64)),.fz (a0.Dq.map (zE (AV.int .i64))),.fz (a0.Dw.map (AV.int .i64)),.fz (a0.Dx.map (AV.int .i64)),.int .i64 a0.Dr]]⟩],(bG Du (AV.int .i64) 1 d22 Ew.Dq)]) (F:=F) hS 7 rfl [0,1,2,3,6,4,5] (by decide)
  refine BB h fun VT VU h=> ?_;obtain ⟨Ee,Ha⟩:=VT;try dsimp only at h
  refine UT VU hS F2 OA KN Hc GD fun v30 GF DB Gi d34 Sp DF GR DC HN DP Hp H hS=> ?_;have hS:aq _ (⟨v30,1,Ee.Ds.map (AV.int .i64)⟩::⟨DB,1,bg Dv d34 Ee.Dq⟩::⟨DF,1,Ee.Dw.map (AV.int .i64)⟩::⟨DC,1,Ee.Dx.map (AV.int .i64)⟩::⟨DP,1,Ha.map (AV.int .i64)⟩::⟨.ptr DL DM 0 0,5,[.agg [.nil,.nil,.nil,.nil,.int .i64 0]]⟩::⟨.ptr Dz DA 0 0,5,[.agg [.fz (a0.Ds.map (AV.int .i64)),.fz (a0.Dq.map (zE (AV.int .i64))),.fz (a0.Dw.map (AV.int .i64)),.fz (a0.Dx.map (AV.int .i64)),.int .i64 a0.Dr]]⟩::((bG Du (AV.int .i64) 1 d34 Ee.Dq) ++ (F))):=aq.CG (bl:=[[⟨v30,1,Ee.Ds.map (AV.int .i64)⟩],[⟨DB,1,bg Dv d34 Ee.Dq⟩],[⟨DF,1,Ee.Dw.map (AV.int .i64)⟩],[⟨DC,1,Ee.Dx.map (AV.int .i64)⟩],[⟨DP,1,Ha.map (AV.int .i64)⟩],(bG Du (AV.int .i64) 1 d34 Ee.Dq),[⟨.ptr DL DM 0 0,5,[.agg [.nil,.nil,.nil,.nil,.int .i64 0]]⟩],[⟨.ptr Dz DA 0 0,5,[.agg [.fz (a0.Ds.map (AV.int .i64)),.fz (a0.Dq.map (zE (AV.int .i64))),.fz (a0.Dw.map (AV.int .i64)),.fz (a0.Dx.map (AV.int .i64)),.int .i64 a0.Dr]]⟩]]) (F:=F) hS 8 rfl [0,1,2,3,4,6,7,5] (by decide)
  try simp only [W]
  refine Bs hS rfl rfl fun JZ J0 H hS=> ?_;try simp only [W]
  refine Bt (a:= .agg [v30,DB,DF,DC,.int .i64 Ee.Dr]) (y' := .agg [v30,DB,DF,DC,.int .i64 Ee.Dr]) 0 hS rfl rfl rfl rfl rfl (by simp only [di,List.all_cons,List.all_nil,GF.pL,Gi.pL,GR.pL,HN.pL];rfl) rfl rfl fun H hS=> ?_
  try simp only [W]
  refine A_ Fu ?_;refine AW fun Na Iq=> ?_;refine AW fun Sq Nw=> ?_;refine Bk gC ?_;try simp only [W,EE,reduceIte,Nat.reduceAdd,Nat.reduceLeDiff,hS.var 0 rfl]
  have hS:aq _ (⟨.ptr JZ J0 0 0,5,[.agg [v30,DB,DF,DC,.int .i64 Ee.Dr]]⟩::⟨v30,1,Ee.Ds.map (AV.int .i64)⟩::⟨DB,1,bg Dv d34 Ee.Dq⟩::⟨DF,1,Ee.Dw.map (AV.int .i64)⟩::⟨DC,1,Ee.Dx.map (AV.int .i64)⟩::⟨DP,1,Ha.map (AV.int .i64)⟩::⟨.ptr DL DM 0 0,5,[.agg [.nil,.nil,.nil,.nil,.int .i64 0]]⟩::⟨.ptr Dz DA 0 0,5,[.agg [.fz (a0.Ds.map (AV.int .i64)),.fz (a0.Dq.map (zE (AV.int .i64))),.fz (a0.Dw.map (AV.int .i64)),.fz (a0.Dx.map (AV.int .i64)),.int .i64 a0.Dr]]⟩::((bG Du (AV.int .i64) 1 d34 Ee.Dq) ++ F)):=hS;refine Co (b5:=[[.sc]]) (ys:=[.agg [.fz (Ee.Ds.map (AV.int .i64)),.fz (Ee.Dq.map (zE (AV.int .i64))),.fz (Ee.Dw.map (AV.int .i64)),.fz (Ee.Dx.map (AV.int .i64)),.int .i64 Ee.Dr]]) h rfl (Cc (B_ (vJ (Ca hS 1 rfl GF (fun _=>rfl)) (vJ (CU (enc:=(zE (AV.int .i64))) hS 2 rfl Gi Sp (fun _ h=>(List.mem_cons_of_mem _ (List.mem_cons_of_mem _ (List.mem_cons_of_mem _ (List.mem_cons_of_mem _ (List.mem_cons_of_mem _ (List.mem_cons_of_mem _ (List.mem_cons_of_mem _ (List.mem_cons_of_mem _ (List.mem_append_left _ h)))))))))) (fun _ _ ha hk=>CT hk ha (fun _=>rfl))) (vJ (Ca hS 3 rfl GR (fun _=>rfl)) (vJ (Ca hS 4 rfl HN (fun _=>rfl)) (vJ rfl (B9 _))))))) Cb) fun EV P_ h=>⟨.bool EV,Ni P_ (aq.nil _) fun H hS=>Ch rfl (Ce rfl (Cd rfl)),⟨rfl,rfl,fun _=>rfl⟩,?_⟩;try simp only [W]
  refine A_ Nw ?_;refine A8 ?_;simp only [W];refine Bj h (fun hc h=> ?_) (fun hc h=> ?_)
  ·refine AW fun PV JY=> ?_;refine Bk gC ?_;try simp only [W,EE,Nat.reduceAdd]
   refine BX rfl rfl rfl rfl rfl ?_;try simp only [W]
   refine Bt (a:= .agg [.nil,.nil,.nil,.nil,.int .i64 0]) (y' := .agg [.nil,.nil,.nil,.nil,.int .i64 0]) 6 hS rfl rfl rfl rfl rfl rfl rfl rfl fun H hS=> ?_
   try simp only [W]
   refine A_ JY ?_;refine AZ ?_;refine Ba Iq ?_;have hS:=hS.uo 1;have hS:=hS.uo 1;obtain ⟨d49,Qa,hS⟩:=CI (p:=Du) (c:=(AV.int .i64)) (z:=1) (m:=Dv) hS;have hS:aq _ (⟨AV.nil,1,bg Dv d49 ([]:List (List Int))⟩::⟨AV.nil,1,([]:List Int).map (AV.int .i64)⟩::⟨.ptr JZ J0 0 0,5,[.agg [v30,DB,DF,DC,.int .i64 Ee.Dr]]⟩::⟨v30,1,Ee.Ds.map (AV.int .i64)⟩::⟨DB,1,bg Dv d34 Ee.Dq⟩::⟨DF,1,Ee.Dw.map (AV.int .i64)⟩::⟨DC,1,Ee.Dx.map (AV.int .i64)⟩::⟨DP,1,Ha.map (AV.int .i64)⟩::⟨.ptr DL DM 0 0,5,[.agg [.nil,.nil,.nil,.nil,.int .i64 0]]⟩::⟨.ptr Dz DA 0 0,5,[.agg [.fz (a0.Ds.map (AV.int .i64)),.fz (a0.Dq.map (zE (AV.int .i64))),.fz (a0.Dw.map (AV.int .i64)),.fz (a0.Dx.map (AV.int .i64)),.int .i64 a0.Dr]]⟩::((bG Du (AV.int .i64) 1 d49 ([]:List (List Int))) ++ (((bG Du (AV.int .i64) 1 d34 Ee.Dq) ++ (F))))):=aq.CG (bl:=[[⟨AV.nil,1,bg Dv d49 ([]:List (List Int))⟩],(bG Du (AV.int .i64) 1 d49 ([]:List (List Int))),[⟨AV.nil,1,([]:List Int).map (AV.int .i64)⟩],[⟨.ptr JZ J0 0 0,5,[.agg [v30,DB,DF,DC,.int .i64 Ee.Dr]]⟩],[⟨v30,1,Ee.Ds.map (AV.int .i64)⟩],[⟨DB,1,bg Dv d34 Ee.Dq⟩],[⟨DF,1,Ee.Dw.map (AV.int .i64)⟩],[⟨DC,1,Ee.Dx.map (AV.int .i64)⟩],[⟨DP,1,Ha.map (AV.int .i64)⟩],[⟨.ptr DL DM 0 0,5,[.agg [.nil,.nil,.nil,.nil,.int .i64 0]]⟩],[⟨.ptr Dz DA 0 0,5,[.agg [.fz (a0.Ds.map (AV.int .i64)),.fz (a0.Dq.map (zE (AV.int .i64))),.fz (a0.Dw.map (AV.int .i64)),.fz (a0.Dx.map (AV.int .i64)),.int .i64 a0.Dr]]⟩],(bG Du (AV.int .i64) 1 d34 Ee.Dq)]) (F:=F) hS 12 rfl [0,2,3,4,5,6,7,8,9,10,1,11] (by decide)
   have hS:=hS.uo 1;have hS:=hS.uo 1;have hS:=hS.uo 1;refine Bg DQ (BU rfl rfl (hS.var 11 rfl) rfl (BV rfl (BV rfl rfl))) ?_;try obtain rfl:=Option.some.inj h
   have hS:aq _ (⟨AV.nil,1,([]:List Int).map (AV.int .i64)⟩::⟨AV.nil,1,bg Dv d49 ([]:List (List Int))⟩::⟨AV.nil,1,([]:List Int).map (AV.int .i64)⟩::⟨AV.nil,1,([]:List Int).map (AV.int .i64)⟩::⟨AV.nil,1,([]:List Int).map (AV.int .i64)⟩::((bG Du (AV.int .i64) 1 d49 ([]:List (List Int))) ++ (F))):=aq.CG (bl:=[[⟨AV.nil,1,([]:List Int).map (AV.int .i64)⟩],[⟨AV.nil,1,([]:List Int).map (AV.int .i64)⟩],[⟨AV.nil,1,([]:List Int).map (AV.int .i64)⟩],[⟨AV.nil,1,bg Dv d49 ([]:List (List Int))⟩],[⟨AV.nil,1,([]:List Int).map (AV.int .i64)⟩],[⟨.ptr JZ J0 0 0,5,[.agg [v30,DB,DF,DC,.int .i64 Ee.Dr]]⟩],[⟨v30,1,Ee.Ds.map (AV.int .i64)⟩],[⟨DB,1,bg Dv d34 Ee.Dq⟩],[⟨DF,1,Ee.Dw.map (AV.int .i64)⟩],[⟨DC,1,Ee.Dx.map (AV.int .i64)⟩],[⟨DP,1,Ha.map (AV.int .i64)⟩],[⟨.ptr DL DM 0 0,5,[.agg [.nil,.nil,.nil,.nil,.int .i64 0]]⟩],[⟨.ptr Dz DA 0 0,5,[.agg [.fz (a0.Ds.map (AV.int .i64)),.fz (a0.Dq.map (zE (AV.int .i64))),.fz (a0.Dw.map (AV.int .i64)),.fz (a0.Dx.map (AV.int .i64)),.int .i64 a0.Dr]]⟩],(bG Du (AV.int .i64) 1 d49 ([]:List (List Int))),(bG Du (AV.int .i64) 1 d34 Ee.Dq)]) (F:=F) hS 15 rfl [4,3,2,1,0,13] (by decide)
   exact hP _ lh _ lh _ Qa _ lh _ lh _ lh _ hS
  ·refine AY ?_;refine A_ Iq ?_;refine AW fun Uy Oi=> ?_;refine Bk gC ?_;try simp only [W,EE,reduceIte,Nat.reduceAdd,Nat.reduceLeDiff,Nat.reduceBEq,hS.var 0 rfl,List.contains_cons,Nat.reduceBEq,Bool.or_self]
   have hS:aq _ (⟨.ptr JZ J0 0 0,5,[.agg [v30,DB,DF,DC,.int .i64 Ee.Dr]]⟩::⟨v30,1,Ee.Ds.map (AV.int .i64)⟩::⟨DB,1,bg Dv d34 Ee.Dq⟩::⟨DF,1,Ee.Dw.map (AV.int .i64)⟩::⟨DC,1,Ee.Dx.map (AV.int .i64)⟩::⟨DP,1,Ha.map (AV.int .i64)⟩::⟨.ptr DL DM 0 0,5,[.agg [.nil,.nil,.nil,.nil,.int .i64 0]]⟩::⟨.ptr Dz DA 0 0,5,[.agg [.fz (a0.Ds.map (AV.int .i64)),.fz (a0.Dq.map (zE (AV.int .i64))),.fz (a0.Dw.map (AV.int .i64)),.fz (a0.Dx.map (AV.int .i64)),.int .i64 a0.Dr]]⟩::((bG Du (AV.int .i64) 1 d34 Ee.Dq) ++ F)):=hS;refine Cp (b5:=[[.sl [.sc],.sl [.sl [.sc]],.sl [.sc],.sl [.sc],.sc]]) (ys:=[.agg [.fz (Ee.Ds.map (AV.int .i64)),.fz (Ee.Dq.map (zE (AV.int .i64))),.fz (Ee.Dw.map (AV.int .i64)),.fz (Ee.Dx.map (AV.int .i64)),.int .i64 Ee.Dr]]) h rfl (Cc (B_ (vJ (Ca hS 1 rfl GF (fun _=>rfl)) (vJ (CU (enc:=(zE (AV.int .i64))) hS 2 rfl Gi Sp (fun _ h=>(List.mem_cons_of_mem _ (List.mem_cons_of_mem _ (List.mem_cons_of_mem _ (List.mem_cons_of_mem _ (List.mem_cons_of_mem _ (List.mem_cons_of_mem _ (List.mem_cons_of_mem _ (List.mem_cons_of_mem _ (List.mem_append_left _ h)))))))))) (fun _ _ ha hk=>CT hk ha (fun _=>rfl))) (vJ (Ca hS 3 rfl GR (fun _=>rfl)) (vJ (Ca hS 4 rfl HN (fun _=>rfl)) (vJ rfl (B9 _))))))) Cb) fun Fh Sr h=>⟨.agg [.own 1 (Fh.Ds.map (AV.int .i64)),.own 1 (Fh.Dq.map EP),.own 1 (Fh.Dw.map (AV.int .i64)),.own 1 (Fh.Dx.map (AV.int .i64)),.int .i64 Fh.Dr],PK Sr (aq.nil _) fun KB Nb EL OB d57 Qb KO Qc Fl OC H hS=>Ch rfl (Cg (BS 0 hS rfl Nb (fun _ _=>by simp [aR,aP,dj]) fun H hS=>CS (d:=EP) (aq.CG (bl:=[[⟨EL,1,bg Dv d57 Fh.Dq⟩],[⟨KO,1,Fh.Dw.map (AV.int .i64)⟩],[⟨Fl,1,Fh.Dx.map (AV.int .i64)⟩],(bG Du (AV.int .i64) 1 d57 Fh.Dq)]) (F:=[]) hS 4 rfl [0,3,1,2] (by decide)) OB Qb II fun H hS=>BS 0 hS rfl Qc (fun _ _=>by simp [aR,aP,dj]) fun H hS=>BS 0 hS rfl OC (fun _ _=>by simp [aR,aP,dj]) fun H hS=>BR rfl (BQ (Cd rfl)))),(Ct (Cs (Cq _ (fun _=>rfl) _) (Cs (Cq _ IJ _) (Cs (Cq _ (fun _=>rfl) _) (Cs (Cq _ (fun _=>rfl) _) (Cs rfl Cr)))))),?_⟩
   refine Cm ?_;refine Cl ?_;refine Ck hS (fun _ _=>rfl) (fun _=>rfl) fun Ey H KP hS=> ?_;refine CV (l:=Fh.Dq) (d:=EP) (m:=Dv) (p:=Du) (c:=(AV.int .i64)) hS H4 IK fun Fc d64 H OD VV hS=> ?_;have hS:aq _ (⟨Fc,1,bg Dv d64 Fh.Dq⟩::⟨Ey,1,Fh.Ds.map (AV.int .i64)⟩::⟨.ptr JZ J0 0 0,5,[.agg [v30,DB,DF,DC,.int .i64 Ee.Dr]]⟩::⟨v30,1,Ee.Ds.map (AV.int .i64)⟩::⟨DB,1,bg Dv d34 Ee.Dq⟩::⟨DF,1,Ee.Dw.map (AV.int .i64)⟩::⟨DC,1,Ee.Dx.map (AV.int .i64)⟩::⟨DP,1,Ha.map (AV.int .i64)⟩::⟨.ptr DL DM 0 0,5,[.agg [.nil,.nil,.nil,.nil,.int .i64 0]]⟩::⟨.ptr Dz DA 0 0,5,[.agg [.fz (a0.Ds.map (AV.int .i64)),.fz (a0.Dq.map (zE (AV.int .i64))),.fz (a0.Dw.map (AV.int .i64)),.fz (a0.Dx.map (AV.int .i64)),.int .i64 a0.Dr]]⟩::((bG Du (AV.int .i64) 1 d64 Fh.Dq) ++ (((bG Du (AV.int .i64) 1 d34 Ee.Dq) ++ (F))))):=aq.CG (bl:=[[⟨Fc,1,bg Dv d64 Fh.Dq⟩],(bG Du (AV.int .i64) 1 d64 Fh.Dq),[⟨Ey,1,Fh.Ds.map (AV.int .i64)⟩],[⟨.ptr JZ J0 0 0,5,[.agg [v30,DB,DF,DC,.int .i64 Ee.Dr]]⟩],[⟨v30,1,Ee.Ds.map (AV.int .i64)⟩],[⟨DB,1,bg Dv d34 Ee.Dq⟩],[⟨DF,1,Ee.Dw.map (AV.int .i64)⟩],[⟨DC,1,Ee.Dx.map (AV.int .i64)⟩],[⟨DP,1,Ha.map (AV.int .i64)⟩],[⟨.ptr DL DM 0 0,5,[.agg [.nil,.nil,.nil,.nil,.int .i64 0]]⟩],[⟨.ptr Dz DA 0 0,5,[.agg [.fz (a0.Ds.map (AV.int .i64)),.fz (a0.Dq.map (zE (AV.int .i64))),.fz (a0.Dw.map (AV.int .i64)),.fz (a0.Dx.map (AV.int .i64)),.int .i64 a0.Dr]]⟩],(bG Du (AV.int .i64) 1 d34 Ee.Dq)]) (F:=F) hS 12 rfl [0,2,3,4,5,6,7,8,9,10,1,11] (by decide)
   refine Ck hS (fun _ _=>rfl) (fun _=>rfl) fun G7 H Ss hS=> ?_;refine Ck hS (fun _ _=>rfl) (fun _=>rfl) fun H9 H Su hS=> ?_;refine Cj (fun _=>rfl) ?_;refine Ci ?_;refine Ci ?_;try simp only [List.headD_cons]
   try simp only [W]
   refine Bt (a:= .agg [Ey,Fc,G7,H9,.int .i64 Fh.Dr]) (y' := .agg [Ey,Fc,G7,H9,.int .i64 Fh.Dr]) 10 hS rfl rfl rfl rfl rfl (by simp only [di,List.all_cons,List.all_nil,KP.pL,OD.pL,Ss.pL,Su.pL];rfl) rfl rfl fun H hS=> ?_
   try simp only [W]
   refine A_ Oi ?_;refine AZ ?_;refine Bg DQ (BU rfl rfl (hS.var 10 rfl) rfl (BV rfl (BV rfl rfl))) ?_;try obtain rfl:=Option.some.inj h
   have hS:aq _ (⟨Ey,1,Fh.Ds.map (AV.int .i64)⟩::⟨Fc,1,bg Dv d64 Fh.Dq⟩::⟨G7,1,Fh.Dw.map (AV.int .i64)⟩::⟨H9,1,Fh.Dx.map (AV.int .i64)⟩::⟨DP,1,Ha.map (AV.int .i64)⟩::((bG Du (AV.int .i64) 1 d64 Fh.Dq) ++ (F))):=aq.CG (bl:=[[⟨H9,1,Fh.Dx.map (AV.int .i64)⟩],[⟨G7,1,Fh.Dw.map (AV.int .i64)⟩],[⟨Fc,1,bg Dv d64 Fh.Dq⟩],[⟨Ey,1,Fh.Ds.map (AV.int .i64)⟩],[⟨.ptr JZ J0 0 0,5,[.agg [v30,DB,DF,DC,.int .i64 Ee.Dr]]⟩],[⟨v30,1,Ee.Ds.map (AV.int .i64)⟩],[⟨DB,1,bg Dv d34 Ee.Dq⟩],[⟨DF,1,Ee.Dw.map (AV.int .i64)⟩],[⟨DC,1,Ee.Dx.map (AV.int .i64)⟩],[⟨DP,1,Ha.map (AV.int .i64)⟩],[⟨.ptr DL DM 0 0,5,[.agg [Ey,Fc,G7,H9,.int .i64 Fh.Dr]]⟩],[⟨.ptr Dz DA 0 0,5,[.agg [.fz (a0.Ds.map (AV.int .i64)),.fz (a0.Dq.map (zE (AV.int .i64))),.fz (a0.Dw.map (AV.int .i64)),.fz (a0.Dx.map (AV.int .i64)),.int .i64 a0.Dr]]⟩],(bG Du (AV.int .i64) 1 d64 Fh.Dq),(bG Du (AV.int .i64) 1 d34 Ee.Dq)]) (F:=F) hS 14 rfl [3,2,1,0,9,12] (by decide)
   exact hP _ KP _ OD _ VV _ Ss _ Su _ Hp _ hS
theorem Sv {a0:Ev} {i0:Nat} {w0:Nat} {r:(DJ×Ev)} (h:Lu a0=some r) {F:List It} {H:J} (hS:aq H (⟨.ptr i0 w0 0 0,3,[.agg [.fz (a0.Code.map (AV.int .u8)),.int .i64 a0.Dr,.int .u64 a0.D8]]⟩::F)) {P:AV→J→Prop} (hP: ∀Qd:AV,aJ Qd→ ∀Qe:AV,aJ Qe→ ∀d291:List AV,bI d291 (r.1.Dq).length→ ∀Qf:AV,aJ Qf→ ∀Qg:AV,aJ Qg→ ∀H',aq H' (⟨Qd,1,r.1.Ds.map (AV.int .i64)⟩::⟨Qe,1,bg Dv d291 r.1.Dq⟩::⟨Qf,1,r.1.Dw.map (AV.int .i64)⟩::⟨Qg,1,r.1.Dx.map (AV.int .i64)⟩::⟨.ptr i0 w0 0 0,3,[.agg [.fz (r.2.Code.map (AV.int .u8)),.int .i64 r.2.Dr,.int .u64 r.2.D8]]⟩::((bG Du (AV.int .i64) 1 d291 r.1.Dq) ++ F))→P (.agg [Qd,Qe,Qf,Qg,.int .i64 r.1.Dr]) H'):aw C 161 [.ptr i0 w0 0 0] H P:=by
 refine Bn gC (res:=[.cell 2 26]) (n:=78) rfl rfl rfl rfl fun K0 DQ=> ?_;simp only [W,Nat.reduceSub,Nat.reduceAdd,List.replicate];unfold Lu at h;refine AW fun K1 D5=> ?_;refine Bk gC ?_;try simp only [W,Nat.reduceAdd]
 refine Bs hS rfl rfl fun Dz DA H hS=> ?_;try simp only [W]
 refine A_ D5 ?_;refine AW fun K4 Ez=> ?_;refine Bk gC ?_;try simp only [W,Nat.reduceAdd,Nat.reduceBEq,List.contains_cons,Nat.reduceBEq,Bool.or_self]
 refine BB h fun EO M7 h=> ?_;obtain ⟨Dt,El⟩:=EO;try dsimp only at h
 refine R1 M7 (hS.BT 2 [1,0] (by decide)) fun Hd LV H hS=> ?_
 try simp only [W]
 refine Cp (b5:=[[.sl [.sc],.sl [.sl [.sc]],.sl [.sc],.sl [.sc],.sc],[.sc]]) (ys:=[.fz (Dt.map (AV.int .i64))]) h rfl (Cc (Ca hS 0 rfl LV (fun _=>rfl)) Cb) fun E6 RZ h=>⟨.aE [.agg [.own 1 (E6.1.Ds.map (AV.int .i64)),.own 1 (E6.1.Dq.map EP),.own 1 (E6.1.Dw.map (AV.int .i64)),.own 1 (E6.1.Dx.map (AV.int .i64)),.int .i64 E6.1.Dr],.bool E6.2],PD RZ (aq.nil _) fun D6 F9 DG He d15 Nx FE Hm ER KI H hS=>Ch rfl (Cg (BS 0 hS rfl F9 (fun _ _=>by simp [aR,aP,dj]) fun H hS=>CS (d:=EP) (aq.CG (bl:=[[⟨DG,1,bg Dv d15 E6.1.Dq⟩],[⟨FE,1,E6.1.Dw.map (AV.int .i64)⟩],[⟨ER,1,E6.1.Dx.map (AV.int .i64)⟩],(bG Du (AV.int .i64) 1 d15 E6.1.Dq)]) (F:=[]) hS 4 rfl [0,3,1,2] (by decide)) He Nx II fun H hS=>BS 0 hS rfl Hm (fun _ _=>by simp [aR,aP,dj]) fun H hS=>BS 0 hS rfl KI (fun _ _=>by simp [aR,aP,dj]) fun H hS=>BR rfl (BQ (Ce rfl (Cd rfl))))),(Cu (Cs (Ct (Cs (Cq _ (fun _=>rfl) _) (Cs (Cq _ IJ _) (Cs (Cq _ (fun _=>rfl) _) (Cs (Cq _ (fun _=>rfl) _) (Cs rfl Cr)))))) (Cs rfl Cr))),?_⟩
 obtain ⟨Ej,FG⟩:=E6;try dsimp only at h
 dsimp only;refine Cn ?_;refine Cl ?_;refine Ck hS (fun _ _=>rfl) (fun _=>rfl) fun F4 H KQ hS=> ?_;refine CV (l:=Ej.Dq) (d:=EP) (m:=Dv) (p:=Du) (c:=(AV.int .i64)) hS H4 IK fun Hq d22 H Sw KN hS=> ?_;have hS:aq _ (⟨Hq,1,bg Dv d22 Ej.Dq⟩::⟨F4,1,Ej.Ds.map (AV.int .i64)⟩::⟨Hd,1,Dt.map (AV.int .i64)⟩::⟨.ptr i0 w0 0 0,3,[.agg [.fz (El.Code.map (AV.int .u8)),.int .i64 El.Dr,.int .u64 El.D8]]⟩::⟨.ptr Dz DA 0 0,5,[.agg [.nil,.nil,.nil,.nil,.int .i64 0]]⟩::((bG Du (AV.int .i64) 1 d22 Ej.Dq) ++ (F))):=aq.CG (bl:=[[⟨Hq,1,bg Dv d22 Ej.Dq⟩],(bG Du (AV.int .i64) 1 d22 Ej.Dq),[⟨F4,1,Ej.Ds.map (AV.int .i64)⟩],[⟨Hd,1,Dt.map (AV.int .i64)⟩],[⟨.ptr i0 w0 0 0,3,[.agg [.fz (El.Code.map (AV.int .u8)),.int .i64 El.Dr,.int .u64 El.D8]]⟩],[⟨.ptr Dz DA 0 0,5,[.agg [.nil,.nil,.nil,.nil,.int .i64 0]]⟩]]) (F:=F) hS 6 rfl [0,2,3,4,5,1] (by decide)
 refine Ck hS (fun _ _=>rfl) (fun _=>rfl) fun EF H JX hS=> ?_;refine Ck hS (fun _ _=>rfl) (fun _=>rfl) fun Es H G8 hS=> ?_;refine Cj (fun _=>rfl) ?_;refine Ci ?_;refine Cj (fun _=>rfl) ?_;refine Ci ?_;try simp only [List.headD_cons]
 try simp only [W]
 refine Bs hS rfl rfl fun D_ Ea H hS=> ?_;try simp only [W]
 refine Bt (a:= .agg [F4,Hq,EF,Es,.int .i64 Ej.Dr]) (y' := .agg [F4,Hq,EF,Es,.int .i64 Ej.Dr]) 0 hS rfl rfl rfl rfl rfl (by simp only [di,List.all_cons,List.all_nil,KQ.pL,Sw.pL,JX.pL,G8.pL];rfl) rfl rfl fun H hS=> ?_
 try simp only [W]
 refine A_ Ez ?_;refine AW fun M9 HK=> ?_;refine AW fun M_ H8=> ?_;refine Bk gC ?_;try simp only [W,Nat.reduceAdd]
 refine A_ H8 ?_;obtain ⟨VW,h,VX⟩:=Option.bind_eq_some_iff.1 h;refine BG gC (fun s H=> ∃Ii:List Int,∃Eo:List (List Int),∃EA:List Int,∃E2:List Int,∃HV:Int,VW=(Ii,Eo,EA,E2,HV)∧ ∃DB:AV,aJ DB∧ ∃DF:AV,aJ DF∧ ∃DP:AV,aJ DP∧ ∃Ir:AV,aJ Ir∧ ∃d37:List AV,bI d37 (Eo).length∧s=(.ptr i0 w0 0 0::u:: .ptr Dz DA 0 0:: .ptr D_ Ea 0 0::u::u::u::u::u::u::u::u::u::u::u::u::u::u::u::u::u::u::u::u::u::u::u::u::u::u::u::u::u::u::u::u::u::u::u::u::u::u::u::u::u::u::u::u::u::u::u::u::u::u::u::u::u::u::u::u::u::u::u::u::u::u::u::u::u::u::u::u::u::u::u::u::u::u::[])∧aq H (⟨DB,1,Ii.map (AV.int .i64)⟩::⟨DF,1,bg Dv d37 Eo⟩::⟨DP,1,EA.map (AV.int .i64)⟩::⟨Ir,1,E2.map (AV.int .i64)⟩::⟨.ptr i0 w0 0 0,3,[.agg [.fz (El.Code.map (AV.int .u8)),.int .i64 El.Dr,.int .u64 El.D8]]⟩::⟨.ptr Dz DA 0 0,5,[.agg [.nil,.nil,.nil,.nil,.int .i64 0]]⟩::⟨.ptr D_ Ea 0 0,5,[.agg [DB,DF,DP,Ir,.int .i64 HV]]⟩::((bG Du (AV.int .i64) 1 d37 Eo) ++ F))) (fun Se KK=> ?_) (fun s H hq=> ?_)
 ·refine AW fun VY OE=> ?_;refine A8 ?_;simp only [W];refine Bj h (fun hc h=> ?_) (fun hc h=> ?_)
  ·refine Bk gC ?_;try simp only [W,Nat.reduceAdd,Nat.reduceBEq,List.contains_cons,Nat.reduceBEq,Bool.or_self]
   refine BA (el:=([20]:List Int).map (AV.int .i64)) hS rfl rfl rfl rfl rfl rfl rfl fun Gt H Nm hS=> ?_;try simp only [W]
   have hS:aq _ (⟨Gt,1,([20]:List Int).map (AV.int .i64)⟩::⟨.ptr D_ Ea 0 0,5,[.agg [F4,Hq,EF,Es,.int .i64 Ej.Dr]]⟩::⟨Es,1,Ej.Dx.map (AV.int .i64)⟩::⟨EF,1,Ej.Dw.map (AV.int .i64)⟩::⟨Hq,1,bg Dv d22 Ej.Dq⟩::⟨F4,1,Ej.Ds.map (AV.int .i64)⟩::⟨Hd,1,Dt.map (AV.int .i64)⟩::⟨.ptr i0 w0 0 0,3,[.agg [.fz (El.Code.map (AV.int .u8)),.int .i64 El.Dr,.int .u64 El.D8]]⟩::⟨.ptr Dz DA 0 0,5,[.agg [.nil,.nil,.nil,.nil,.int .i64 0]]⟩::((bG Du (AV.int .i64) 1 d22 Ej.Dq) ++ F)):=hS;refine Cp (b5:=[[.sl [.sc],.sl [.sl [.sc]],.sl [.sc],.sl [.sc],.sc],[.sc]]) (ys:=[.fz (([20]:List Int).map (AV.int .i64))]) h rfl (Cc (Ca hS 0 rfl Nm (fun _=>rfl)) Cb) fun HF Sx h=>⟨.aE [.agg [.own 1 (HF.1.Ds.map (AV.int .i64)),.own 1 (HF.1.Dq.map EP),.own 1 (HF.1.Dw.map (AV.int .i64)),.own 1 (HF.1.Dx.map (AV.int .i64)),.int .i64 HF.1.Dr],.bool HF.2],PD Sx (aq.nil _) fun EX OF KB Nb d56 VZ V0 V1 KO Qc H hS=>Ch rfl (Cg (BS 0 hS rfl OF (fun _ _=>by simp [aR,aP,dj]) fun H hS=>CS (d:=EP) (aq.CG (bl:=[[⟨KB,1,bg Dv d56 HF.1.Dq⟩],[⟨V0,1,HF.1.Dw.map (AV.int .i64)⟩],[⟨KO,1,HF.1.Dx.map (AV.int .i64)⟩],(bG Du (AV.int .i64) 1 d56 HF.1.Dq)]) (F:=[]) hS 4 rfl [0,3,1,2] (by decide)) Nb VZ II fun H hS=>BS 0 hS rfl V1 (fun _ _=>by simp [aR,aP,dj]) fun H hS=>BS 0 hS rfl Qc (fun _ _=>by simp [aR,aP,dj]) fun H hS=>BR rfl (BQ (Ce rfl (Cd rfl))))),(Cu (Cs (Ct (Cs (Cq _ (fun _=>rfl) _) (Cs (Cq _ IJ _) (Cs (Cq _ (fun _=>rfl) _) (Cs (Cq _ (fun _=>rfl) _) (Cs rfl Cr)))))) (Cs rfl Cr))),?_⟩
   obtain ⟨E8,Pf⟩:=HF;try dsimp only at h
   dsimp only;refine Cn ?_;refine Cl ?_;refine Ck hS (fun _ _=>rfl) (fun _=>rfl) fun Iv H Sy hS=> ?_;refine CV (l:=E8.Dq) (d:=EP) (m:=Dv) (p:=Du) (c:=(AV.int .i64)) hS H4 IK fun F5 d63 H JB V2 hS=> ?_;have hS:aq _ (⟨F5,1,bg Dv d63 E8.Dq⟩::⟨Iv,1,E8.Ds.map (AV.int .i64)⟩::⟨Gt,1,([20]:List Int).map (AV.int .i64)⟩::⟨.ptr D_ Ea 0 0,5,[.agg [F4,Hq,EF,Es,.int .i64 Ej.Dr]]⟩::⟨Es,1,Ej.Dx.map (AV.int .i64)⟩::⟨EF,1,Ej.Dw.map (AV.int .i64)⟩::⟨Hq,1,bg Dv d22 Ej.Dq⟩::⟨F4,1,Ej.Ds.map (AV.int .i64)⟩::⟨Hd,1,Dt.map (AV.int .i64)⟩::⟨.ptr i0 w0 0 0,3,[.agg [.fz (El.Code.map (AV.int .u8)),.int .i64 El.Dr,.int .u64 El.D8]]⟩::⟨.ptr Dz DA 0 0,5,[.agg [.nil,.nil,.nil,.nil,.int .i64 0]]⟩::((bG Du (AV.int .i64) 1 d63 E8.Dq) ++ (((bG Du (AV.int .i64) 1 d22 Ej.Dq) ++ (F))))):=aq.CG (bl:=[[⟨F5,1,bg Dv d63 E8.Dq⟩],(bG Du (AV.int .i64) 1 d63 E8.Dq),[⟨Iv,1,E8.Ds.map (AV.int .i64)⟩],[⟨Gt,1,([20]:List Int).map (AV.int .i64)⟩],[⟨.ptr D_ Ea 0 0,5,[.agg [F4,Hq,EF,Es,.int .i64 Ej.Dr]]⟩],[⟨Es,1,Ej.Dx.map (AV.int .i64)⟩],[⟨EF,1,Ej.Dw.map (AV.int .i64)⟩],[⟨Hq,1,bg Dv d22 Ej.Dq⟩],[⟨F4,1,Ej.Ds.map (AV.int .i64)⟩],[⟨Hd,1,Dt.map (AV.int .i64)⟩],[⟨.ptr i0 w0 0 0,3,[.agg [.fz (El.Code.map (AV.int .u8)),.int .i64 El.Dr,.int .u64 El.D8]]⟩],[⟨.ptr Dz DA 0 0,5,[.agg [.nil,.nil,.nil,.nil,.int .i64 0]]⟩],(bG Du (AV.int .i64) 1 d22 Ej.Dq)]) (F:=F) hS 13 rfl [0,2,3,4,5,6,7,8,9,10,11,1,12] (by decide)
   refine Ck hS (fun _ _=>rfl) (fun _=>rfl) fun LW H Sz hS=> ?_;refine Ck hS (fun _ _=>rfl) (fun _=>rfl) fun LX H SA hS=> ?_;refine Cj (fun _=>rfl) ?_;refine Ci ?_;refine Cj (fun _=>rfl) ?_;refine Ci ?_;try simp only [List.headD_cons]
   try simp only [W]
   refine Bt (a:= .agg [Iv,F5,LW,LX,.int .i64 E8.Dr]) (y' := .agg [Iv,F5,LW,LX,.int .i64 E8.Dr]) 5 hS rfl rfl rfl rfl rfl (by simp only [di,List.all_cons,List.all_nil,Sy.pL,JB.pL,Sz.pL,SA.pL];rfl) rfl rfl fun H hS=> ?_
   try simp only [W]
   refine A_ OE ?_;refine C4 (s' :=(.ptr i0 w0 0 0::u:: .ptr Dz DA 0 0:: .ptr D_ Ea 0 0::u::u::u::u::u::u::u::u::u::u::u::u::u::u::u::u::u::u::u::u::u::u::u::u::u::u::u::u::u::u::u::u::u::u::u::u::u::u::u::u::u::u::u::u::u::u::u::u::u::u::u::u::u::u::u::u::u::u::u::u::u::u::u::u::u::u::u::u::u::u::u::u::u::u::[])) rfl ?_
   have hS:aq _ (⟨Iv,1,E8.Ds.map (AV.int .i64)⟩::⟨F5,1,bg Dv d63 E8.Dq⟩::⟨LW,1,E8.Dw.map (AV.int .i64)⟩::⟨LX,1,E8.Dx.map (AV.int .i64)⟩::⟨.ptr i0 w0 0 0,3,[.agg [.fz (El.Code.map (AV.int .u8)),.int .i64 El.Dr,.int .u64 El.D8]]⟩::⟨.ptr Dz DA 0 0,5,[.agg [.nil,.nil,.nil,.nil,.int .i64 0]]⟩::⟨.ptr D_ Ea 0 0,5,[.agg [Iv,F5,LW,LX,.int .i64 E8.Dr]]⟩::((bG Du (AV.int .i64) 1 d63 E8.Dq) ++ (F))):=aq.CG (bl:=[[⟨LX,1,E8.Dx.map (AV.int .i64)⟩],[⟨LW,1,E8.Dw.map (AV.int .i64)⟩],[⟨F5,1,bg Dv d63 E8.Dq⟩],[⟨Iv,1,E8.Ds.map (AV.int .i64)⟩],[⟨Gt,1,([20]:List Int).map (AV.int .i64)⟩],[⟨.ptr D_ Ea 0 0,5,[.agg [Iv,F5,LW,LX,.int .i64 E8.Dr]]⟩],[⟨Es,1,Ej.Dx.map (AV.int .i64)⟩],[⟨EF,1,Ej.Dw.map (AV.int .i64)⟩],[⟨Hq,1,bg Dv d22 Ej.Dq⟩],[⟨F4,1,Ej.Ds.map (AV.int .i64)⟩],[⟨Hd,1,Dt.map (AV.int .i64)⟩],[⟨.ptr i0 w0 0 0,3,[.agg [.fz (El.Code.map (AV.int .u8)),.int .i64 El.Dr,.int .u64 El.D8]]⟩],[⟨.ptr Dz DA 0 0,5,[.agg [.nil,.nil,.nil,.nil,.int .i64 0]]⟩],(bG Du (AV.int .i64) 1 d63 E8.Dq),(bG Du (AV.int .i64) 1 d22 Ej.Dq)]) (F:=F) hS 15 rfl [3,2,1,0,11,12,5,13] (by decide)
   exact BH KK ⟨_,_,_,_,_,(Option.some.inj h).symm,_,Sy,_,JB,_,Sz,_,SA,_,V2,rfl,hS⟩
  ·refine AY ?_;refine A_ OE ?_;refine C4 (s' :=(.ptr i0 w0 0 0::u:: .ptr Dz DA 0 0:: .ptr D_ Ea 0 0::u::u::u::u::u::u::u::u::u::u::u::u::u::u::u::u::u::u::u::u::u::u::u::u::u::u::u::u::u::u::u::u::u::u::u::u::u::u::u::u::u::u::u::u::u::u::u::u::u::u::u::u::u::u::u::u::u::u::u::u::u::u::u::u::u::u::u::u::u::u::u::u::u::u::[])) rfl ?_
   have hS:aq _ (⟨F4,1,Ej.Ds.map (AV.int .i64)⟩::⟨Hq,1,bg Dv d22 Ej.Dq⟩::⟨EF,1,Ej.Dw.map (AV.int .i64)⟩::⟨Es,1,Ej.Dx.map (AV.int .i64)⟩::⟨.ptr i0 w0 0 0,3,[.agg [.fz (El.Code.map (AV.int .u8)),.int .i64 El.Dr,.int .u64 El.D8]]⟩::⟨.ptr Dz DA 0 0,5,[.agg [.nil,.nil,.nil,.nil,.int .i64 0]]⟩::⟨.ptr D_ Ea 0 0,5,[.agg [F4,Hq,EF,Es,.int .i64 Ej.Dr]]⟩::((bG Du (AV.int .i64) 1 d22 Ej.Dq) ++ (F))):=aq.CG (bl:=[[⟨.ptr D_ Ea 0 0,5,[.agg [F4,Hq,EF,Es,.int .i64 Ej.Dr]]⟩],[⟨Es,1,Ej.Dx.map (AV.int .i64)⟩],[⟨EF,1,Ej.Dw.map (AV.int .i64)⟩],[⟨Hq,1,bg Dv d22 Ej.Dq⟩],[⟨F4,1,Ej.Ds.map (AV.int .i64)⟩],[⟨Hd,1,Dt.map (AV.int .i64)⟩],[⟨.ptr i0 w0 0 0,3,[.agg [.fz (El.Code.map (AV.int .u8)),.int .i64 El.Dr,.int .u64 El.D8]]⟩],[⟨.ptr Dz DA 0 0,5,[.agg [.nil,.nil,.nil,.nil,.int .i64 0]]⟩],(bG Du (AV.int .i64) 1 d22 Ej.Dq)]) (F:=F) hS 9 rfl [4,3,2,1,6,7,0,8] (by decide)
   exact BH KK ⟨_,_,_,_,_,(Option.some.inj h).symm,_,KQ,_,Sw,_,JX,_,G8,_,KN,rfl,hS⟩
 ·obtain ⟨Ii,Eo,EA,E2,HV,rfl,DB,Gi,DF,GR,DP,Hp,Ir,V3,d37,V4,rfl,hS⟩:=hq;replace h:=VX;try dsimp only at h
  refine A_ HK ?_;refine AW fun K68 V5=> ?_;refine AW fun K69 V6=> ?_;refine Bk gC ?_;try simp only [W,Nat.reduceAdd]
  refine BB h fun V7 V8 h=> ?_;obtain ⟨HT,HW⟩:=V7;try dsimp only at h
  refine Io V8 (hS.BT 7 [4,0,1,2,3,5,6] (by decide)) fun H hS=> ?_
  try simp only [W]
  refine A_ V6 ?_;obtain ⟨V9,V_,Wa⟩:=Option.bind_eq_some_iff.1 h;refine BG gC (fun s H=> ∃MA:List Int,∃MB:Int,∃GZ:Int,∃GC:List Int,∃Fb:List (List Int),∃G3:List Int,∃G4:List Int,∃HX:Int,V9=(MA,MB,GZ,GC,Fb,G3,G4,HX)∧ ∃ES:AV,aJ ES∧ ∃Fe:AV,aJ Fe∧ ∃Ff:AV,aJ Ff∧ ∃Fg:AV,aJ Fg∧ ∃d98:List AV,bI d98 (Fb).length∧s=(.ptr i0 w0 0 0::u:: .ptr Dz DA 0 0:: .ptr D_ Ea 0 0::u::u::u::u::u::u::u::u::u::u::u::u::u::u::u::u::u::u::u::u::u::u::u::u::u::u::u::u::u::u::u::u::u::u::u::u::u::u::u::u::u::u::u::u::u::u::u::u::u::u::u::u::u::u::u::u::u::u::u::u::u::u::u::u::u::u::u::u::u::u::u::u::u::u::[])∧aq H (⟨ES,1,GC.map (AV.int .i64)⟩::⟨Fe,1,bg Dv d98 Fb⟩::⟨Ff,1,G3.map (AV.int .i64)⟩::⟨Fg,1,G4.map (AV.int .i64)⟩::⟨.ptr i0 w0 0 0,3,[.agg [.fz (MA.map (AV.int .u8)),.int .i64 MB,.int .u64 GZ]]⟩::⟨.ptr Dz DA 0 0,5,[.agg [.nil,.nil,.nil,.nil,.int .i64 0]]⟩::⟨.ptr D_ Ea 0 0,5,[.agg [ES,Fe,Ff,Fg,.int .i64 HX]]⟩::((bG Du (AV.int .i64) 1 d98 Fb) ++ F))) (fun VQ P3=> ?_) (fun s H hq=> ?_)
  ·refine AX fun Wb Qh=> ?_;have hS:aq _ (⟨DB,1,Ii.map (AV.int .i64)⟩::⟨DF,1,bg Dv d37 Eo⟩::⟨DP,1,EA.map (AV.int .i64)⟩::⟨Ir,1,E2.map (AV.int .i64)⟩::⟨.ptr i0 w0 0 0,3,[.agg [.fz (HW.Code.map (AV.int .u8)),.int .i64 HW.Dr,.int .u64 HW.D8]]⟩::⟨.ptr Dz DA 0 0,5,[.agg [.nil,.nil,.nil,.nil,.int .i64 0]]⟩::⟨.ptr D_ Ea 0 0,5,[.agg [DB,DF,DP,Ir,.int .i64 HV]]⟩::((bG Du (AV.int .i64) 1 d37 Eo) ++ (F))):=aq.CG (bl:=[[⟨.ptr i0 w0 0 0,3,[.agg [.fz (HW.Code.map (AV.int .u8)),.int .i64 HW.Dr,.int .u64 HW.D8]]⟩],[⟨DB,1,Ii.map (AV.int .i64)⟩],[⟨DF,1,bg Dv d37 Eo⟩],[⟨DP,1,EA.map (AV.int .i64)⟩],[⟨Ir,1,E2.map (AV.int .i64)⟩],[⟨.ptr Dz DA 0 0,5,[.agg [.nil,.nil,.nil,.nil,.int .i64 0]]⟩],[⟨.ptr D_ Ea 0 0,5,[.agg [DB,DF,DP,Ir,.int .i64 HV]]⟩],(bG Du (AV.int .i64) 1 d37 Eo)]) (F:=F) hS 8 rfl [1,2,3,4,0,5,6,7] (by decide)
   refine BC gC V_ (fun x s H=>match x with|(Hi,Kg,Kh,Ki,Hj,F1,Ge,Hk,HD)=> ∃GG:AV,aJ GG∧ ∃Hr:AV,aJ Hr∧ ∃Hs:AV,aJ Hs∧ ∃Ht:AV,aJ Ht∧ ∃d83:List AV,bI d83 (F1).length∧s=(.ptr i0 w0 0 0::u:: .ptr Dz DA 0 0:: .ptr D_ Ea 0 0::u:: .int .i64 Hi::u::u::u::u::u::u::u::u::u::u::u::u::u::u::u::u::u::u::u::u::u::u::u::u::u::u::u::u::u::u::u::u::u::u::u::u::u::u::u::u::u::u::u::u::u::u::u::u::u::u::u::u::u::u::u::u::u::u::u::u::u::u::u::u::u::u::u::u::u::u::u::u::[])∧aq H (⟨GG,1,Hj.map (AV.int .i64)⟩::⟨Hr,1,bg Dv d83 F1⟩::⟨Hs,1,Ge.map (AV.int .i64)⟩::⟨Ht,1,Hk.map (AV.int .i64)⟩::⟨.ptr i0 w0 0 0,3,[.agg [.fz (Kg.map (AV.int .u8)),.int .i64 Kh,.int .u64 Ki]]⟩::⟨.ptr Dz DA 0 0,5,[.agg [.nil,.nil,.nil,.nil,.int .i64 0]]⟩::⟨.ptr D_ Ea 0 0,5,[.agg [GG,Hr,Hs,Ht,.int .i64 HD]]⟩::((bG Du (AV.int .i64) 1 d83 F1) ++ F))) ⟨_,Gi,_,GR,_,Hp,_,V3,_,V4,rfl,hS⟩ (fun x adt s H h Wc hi adu SB=> ?_)
   obtain ⟨Hi,Kg,Kh,Ki,Hj,F1,Ge,Hk,HD⟩:=x;try dsimp only at hi
   obtain ⟨GG,Qi,Hr,OG,Hs,Qj,Ht,Qk,d83,OH,rfl,hS⟩:=hi;simp only [NV] at h;refine AW fun Wd OI=> ?_;refine AW fun We OJ=> ?_;refine Bk gC ?_;try simp only [W,EE,Nat.reduceAdd]
   refine A_ OJ ?_;refine A8 ?_;simp only [W];refine Bj h (fun hc h=> ?_) (fun hc h=> ?_)
   ·refine AY ?_;refine A_ OI ?_;refine AW fun Wf Ql=> ?_;obtain ⟨Wg,h,Wh⟩:=Option.bind_eq_some_iff.1 h;refine BG gC (fun s H=> ∃IE:List Int,∃Mu:Int,∃Mw:Int,∃Mx:List Int,∃Kk:List (List Int),∃Jr:List Int,∃My:List Int,∃Mz:Int,Wg=(IE,Mu,Mw,Mx,Kk,Jr,My,Mz)∧ ∃OK:AV,aJ OK∧ ∃OL:AV,aJ OL∧ ∃JC:AV,aJ JC∧ ∃OM:AV,aJ OM∧ ∃d123:List AV,bI d123 (Kk).length∧s=(.ptr i0 w0 0 0::u:: .ptr Dz DA 0 0:: .ptr D_ Ea 0 0::u:: .int .i64 Hi::u::u::u::u::u::u::u::u::u::u::u::u::u::u::u::u::u::u::u::u::u::u::u::u::u::u::u::u::u::u::u::u::u::u::u::u::u::u::u::u::u::u::u::u::u::u::u::u::u::u::u::u::u::u::u::u::u::u::u::u::u::u::u::u::u::u::u::u::u::u::u::u::[])∧aq H (⟨OK,1,Mx.map (AV.int .i64)⟩::⟨OL,1,bg Dv d123 Kk⟩::⟨JC,1,Jr.map (AV.int .i64)⟩::⟨OM,1,My.map (AV.int .i64)⟩::⟨.ptr i0 w0 0 0,3,[.agg [.fz (IE.map (AV.int .u8)),.int .i64 Mu,.int .u64 Mw]]⟩::⟨.ptr Dz DA 0 0,5,[.agg [.nil,.nil,.nil,.nil,.int .i64 0]]⟩::⟨.ptr D_ Ea 0 0,5,[.agg [OK,OL,JC,OM,.int .i64 Mz]]⟩::((bG Du (AV.int .i64) 1 d123 Kk) ++ F))) (fun adv Wi=> ?_) (fun s H hq=> ?_)
    ·refine AX fun adw Wj=> ?_;refine AW fun adx Wk=> ?_;refine AW fun ady Wl=> ?_;refine BY gC [(6,[0,5]),(7,[0]),(14,[12])] (by kernel_rfl) rfl (by kernel_rfl) ?_
     try simp only [W,EE,reduceIte,Nat.reduceAdd,Nat.reduceLeDiff,Nat.reduceBEq,hS.var 6 rfl,iG,ln,Nat.reduceEqDiff,B2,B3,B4,B5,B6,Nat.reduceEqDiff,List.contains_cons,Nat.reduceBEq,Bool.or_self]
     refine CP 1 hS rfl OG OH rfl ?_;try simp only [W]
     refine BB h fun Wm Wn h=> ?_;obtain ⟨Pb,Rv⟩:=Wm;try dsimp only at h
     refine Io Wn (hS.BT 7 [4,0,1,2,3,5,6] (by decide)) fun H hS=> ?_
     refine BZ ?_;refine B0 (by first|rfl|(simp [aK,W,EE,bO,ju,aG,AV.cells,B4,hS.var 6 rfl];done)) ?_
     refine B0 (by first|rfl|(simp [aK,W,EE,EN,bO,ju,aG,AV.cells,B4,B3,B5,hS.var 0 rfl,hS.var 5 rfl,hS.var 6 rfl];done)) ?_
     refine B1 ?_;try simp only [W]
     refine BB h fun Wo Wp h=> ?_;obtain ⟨Pc,EK⟩:=Wo;try dsimp only at h
     refine Io Wp hS fun H hS=> ?_;refine BZ ?_;refine B0 (by first|rfl|(simp [aK,W,EE,bO,ju,aG,AV.cells,B4,hS.var 6 rfl];done)) ?_
     refine B1 ?_;try simp only [W,EE]
     have hS:aq _ (⟨.ptr i0 w0 0 0,3,[.agg [.fz (EK.Code.map (AV.int .u8)),.int .i64 EK.Dr,.int .u64 EK.D8]]⟩::⟨GG,1,Hj.map (AV.int .i64)⟩::⟨Hr,1,bg Dv d83 F1⟩::⟨Hs,1,Ge.map (AV.int .i64)⟩::⟨Ht,1,Hk.map (AV.int .i64)⟩::⟨.ptr Dz DA 0 0,5,[.agg [.nil,.nil,.nil,.nil,.int .i64 0]]⟩::⟨.ptr D_ Ea 0 0,5,[.agg [GG,Hr,Hs,Ht,.int .i64 HD]]⟩::((bG Du (AV.int .i64) 1 d83 F1) ++ F)):=hS;refine Cp (b5:=[[.sl [.sc],.sl [.sl [.sc]],.sl [.sc],.sl [.sc],.sc],[.sc]]) (ys:=[.agg [.fz (Hj.map (AV.int .i64)),.fz (F1.map (zE (AV.int .i64))),.fz (Ge.map (AV.int .i64)),.fz (Hk.map (AV.int .i64)),.int .i64 HD],.int .i64 Pb,.int .i64 (IntKind.i64.wrap (1+Pc))]) h rfl (Cc (B_ (vJ (Ca hS 1 rfl Qi (fun _=>rfl)) (vJ (CU (enc:=(zE (AV.int .i64))) hS 2 rfl OG OH (fun _ h=>(List.mem_cons_of_mem _ (List.mem_cons_of_mem _ (List.mem_cons_of_mem _ (List.mem_cons_of_mem _ (List.mem_cons_of_mem _ (List.mem_cons_of_mem _ (List.mem_cons_of_mem _ (List.mem_append_left _ h))))))))) (fun _ _ ha hk=>CT hk ha (fun _=>rfl))) (vJ (Ca hS 3 rfl Qj (fun _=>rfl)) (vJ (Ca hS 4 rfl Qk (fun _=>rfl)) (vJ rfl (B9 _))))))) (Cc rfl (Cc rfl Cb))) fun IV Wq h=>⟨.aE [.agg [.own 1 (IV.1.Ds.map (AV.int .i64)),.own 1 (IV.1.Dq.map EP),.own 1 (IV.1.Dw.map (AV.int .i64)),.own 1 (IV.1.Dx.map (AV.int .i64)),.int .i64 IV.1.Dr],.bool IV.2],R_ Wq (aq.nil _) fun adz Wr Ws Wt d145 Wu Wv Ww Wx Wy H hS=>Ch rfl (Cg (BS 0 hS rfl Wr (fun _ _=>by simp [aR,aP,dj]) fun H hS=>CS (d:=EP) (aq.CG (bl:=[[⟨Ws,1,bg Dv d145 IV.1.Dq⟩],[⟨Wv,1,IV.1.Dw.map (AV.int .i64)⟩],[⟨Wx,1,IV.1.Dx.map (AV.int .i64)⟩],(bG Du (AV.int .i64) 1 d145 IV.1.Dq)]) (F:=[]) hS 4 rfl [0,3,1,2] (by decide)) Wt Wu II fun H hS=>BS 0 hS rfl Ww (fun _ _=>by simp [aR,aP,dj]) fun H hS=>BS 0 hS rfl Wy (fun _ _=>by simp [aR,aP,dj]) fun H hS=>BR rfl (BQ (Ce rfl (Cd rfl))))),(Cu (Cs (Ct (Cs (Cq _ (fun _=>rfl) _) (Cs (Cq _ IJ _) (Cs (Cq _ (fun _=>rfl) _) (Cs (Cq _ (fun _=>rfl) _) (Cs rfl Cr)))))) (Cs rfl Cr))),?_⟩
     obtain ⟨E7,Rw⟩:=IV;try dsimp only at h
     dsimp only;refine Cn ?_;refine Cl ?_;refine Ck hS (fun _ _=>rfl) (fun _=>rfl) fun Ib H Qm hS=> ?_;refine CV (l:=E7.Dq) (d:=EP) (m:=Dv) (p:=Du) (c:=(AV.int .i64)) hS H4 IK fun Ic d152 H Qn Wz hS=> ?_;have hS:aq _ (⟨Ic,1,bg Dv d152 E7.Dq⟩::⟨Ib,1,E7.Ds.map (AV.int .i64)⟩::⟨.ptr i0 w0 0 0,3,[.agg [.fz (EK.Code.map (AV.int .u8)),.int .i64 EK.Dr,.int .u64 EK.D8]]⟩::⟨GG,1,Hj.map (AV.int .i64)⟩::⟨Hr,1,bg Dv d83 F1⟩::⟨Hs,1,Ge.map (AV.int .i64)⟩::⟨Ht,1,Hk.map (AV.int .i64)⟩::⟨.ptr Dz DA 0 0,5,[.agg [.nil,.nil,.nil,.nil,.int .i64 0]]⟩::⟨.ptr D_ Ea 0 0,5,[.agg [GG,Hr,Hs,Ht,.int .i64 HD]]⟩::((bG Du (AV.int .i64) 1 d152 E7.Dq) ++ (((bG Du (AV.int .i64) 1 d83 F1) ++ (F))))):=aq.CG (bl:=[[⟨Ic,1,bg Dv d152 E7.Dq⟩],(bG Du (AV.int .i64) 1 d152 E7.Dq),[⟨Ib,1,E7.Ds.map (AV.int .i64)⟩],[⟨.ptr i0 w0 0 0,3,[.agg [.fz (EK.Code.map (AV.int .u8)),.int .i64 EK.Dr,.int .u64 EK.D8]]⟩],[⟨GG,1,Hj.map (AV.int .i64)⟩],[⟨Hr,1,bg Dv d83 F1⟩],[⟨Hs,1,Ge.map (AV.int .i64)⟩],[⟨Ht,1,Hk.map (AV.int .i64)⟩],[⟨.ptr Dz DA 0 0,5,[.agg [.nil,.nil,.nil,.nil,.int .i64 0]]⟩],[⟨.ptr D_ Ea 0 0,5,[.agg [GG,Hr,Hs,Ht,.int .i64 HD]]⟩],(bG Du (AV.int .i64) 1 d83 F1)]) (F:=F) hS 11 rfl [0,2,3,4,5,6,7,8,9,1,10] (by decide)
     refine Ck hS (fun _ _=>rfl) (fun _=>rfl) fun IW H Qo hS=> ?_;refine Ck hS (fun _ _=>rfl) (fun _=>rfl) fun IX H Qp hS=> ?_;refine Cj (fun _=>rfl) ?_;refine Ci ?_;refine Cj (fun _=>rfl) ?_;refine Ci ?_;try simp only [List.headD_cons]
     try simp only [W]
     refine Bs hS rfl rfl fun SC SD H hS=> ?_;try simp only [W]
     refine Bt (a:= .agg [Ib,Ic,IW,IX,.int .i64 E7.Dr]) (y' := .agg [Ib,Ic,IW,IX,.int .i64 E7.Dr]) 0 hS rfl rfl rfl rfl rfl (by simp only [di,List.all_cons,List.all_nil,Qm.pL,Qn.pL,Qo.pL,Qp.pL];rfl) rfl rfl fun H hS=> ?_
     refine BZ ?_;refine B0 (by first|rfl|(simp [aK,W,EE,EN,bO,ju,aG,AV.cells,B4,B3,B5,hS.var 0 rfl,hS.var 5 rfl,hS.var 10 rfl,hS.var 11 rfl];done)) ?_
     refine B1 ?_;try simp only [W]
     refine A_ Wl ?_;refine AW fun adA WA=> ?_;refine Bk gC ?_;try simp only [W,Nat.reduceAdd]
     refine A_ WA ?_;obtain ⟨WB,h,WC⟩:=Option.bind_eq_some_iff.1 h;refine BG gC (fun s H=> ∃GL:List Int,∃Fz:List (List Int),∃GM:List Int,∃GN:List Int,∃G0:Int,WB=(GL,Fz,GM,GN,G0)∧ ∃FX:AV,aJ FX∧ ∃FY:AV,aJ FY∧ ∃Eh:AV,aJ Eh∧ ∃F0:AV,aJ F0∧ ∃d166:List AV,bI d166 (Fz).length∧s=(.ptr i0 w0 0 0::u:: .ptr Dz DA 0 0:: .ptr D_ Ea 0 0::u:: .int .i64 Hi::u::u::u::u::u::u::u::u::u::u::u::u::u::u::u::u::u::u::u::u::u::u::u::u::u::u::u::u::u::u::u::u::u::u::u::u::u::u::u::u::u::u::u::u::u::u::u::u::u::u::u::u::u::u::u::u::u::u::u::u::u::u::u::u::u::u::u::u::u::u::u::u::[])∧aq H (⟨FX,1,GL.map (AV.int .i64)⟩::⟨FY,1,bg Dv d166 Fz⟩::⟨Eh,1,GM.map (AV.int .i64)⟩::⟨F0,1,GN.map (AV.int .i64)⟩::⟨.ptr i0 w0 0 0,3,[.agg [.fz (EK.Code.map (AV.int .u8)),.int .i64 EK.Dr,.int .u64 EK.D8]]⟩::⟨.ptr Dz DA 0 0,5,[.agg [.nil,.nil,.nil,.nil,.int .i64 0]]⟩::⟨.ptr D_ Ea 0 0,5,[.agg [FX,FY,Eh,F0,.int .i64 G0]]⟩::((bG Du (AV.int .i64) 1 d166 Fz) ++ F))) (fun adB SE=> ?_) (fun s H hq=> ?_)
     ·refine AW fun adC SG=> ?_;refine A8 ?_;simp only [W];refine Bj h (fun hc h=> ?_) (fun hc h=> ?_)
      ·refine Bk gC ?_;try simp only [W,EE,reduceIte,Nat.reduceAdd,Nat.reduceLeDiff,hS.var 0 rfl]
       refine Bt (a:= .agg [Ib,Ic,IW,IX,.int .i64 E7.Dr]) (y' := .agg [Ib,Ic,IW,IX,.int .i64 E7.Dr]) 11 hS rfl rfl rfl rfl rfl (by simp only [di,List.all_cons,List.all_nil,Qm.pL,Qn.pL,Qo.pL,Qp.pL];rfl) rfl rfl fun H hS=> ?_
       try simp only [W]
       refine A_ SG ?_;refine C4 (s' :=(.ptr i0 w0 0 0::u:: .ptr Dz DA 0 0:: .ptr D_ Ea 0 0::u:: .int .i64 Hi::u::u::u::u::u::u::u::u::u::u::u::u::u::u::u::u::u::u::u::u::u::u::u::u::u::u::u::u::u::u::u::u::u::u::u::u::u::u::u::u::u::u::u::u::u::u::u::u::u::u::u::u::u::u::u::u::u::u::u::u::u::u::u::u::u::u::u::u::u::u::u::u::[])) rfl ?_
       have hS:aq _ (⟨Ib,1,E7.Ds.map (AV.int .i64)⟩::⟨Ic,1,bg Dv d152 E7.Dq⟩::⟨IW,1,E7.Dw.map (AV.int .i64)⟩::⟨IX,1,E7.Dx.map (AV.int .i64)⟩::⟨.ptr i0 w0 0 0,3,[.agg [.fz (EK.Code.map (AV.int .u8)),.int .i64 EK.Dr,.int .u64 EK.D8]]⟩::⟨.ptr Dz DA 0 0,5,[.agg [.nil,.nil,.nil,.nil,.int .i64 0]]⟩::⟨.ptr D_ Ea 0 0,5,[.agg [Ib,Ic,IW,IX,.int .i64 E7.Dr]]⟩::((bG Du (AV.int .i64) 1 d152 E7.Dq) ++ (F))):=aq.CG (bl:=[[⟨.ptr SC SD 0 0,5,[.agg [Ib,Ic,IW,IX,.int .i64 E7.Dr]]⟩],[⟨IX,1,E7.Dx.map (AV.int .i64)⟩],[⟨IW,1,E7.Dw.map (AV.int .i64)⟩],[⟨Ic,1,bg Dv d152 E7.Dq⟩],[⟨Ib,1,E7.Ds.map (AV.int .i64)⟩],[⟨.ptr i0 w0 0 0,3,[.agg [.fz (EK.Code.map (AV.int .u8)),.int .i64 EK.Dr,.int .u64 EK.D8]]⟩],[⟨GG,1,Hj.map (AV.int .i64)⟩],[⟨Hr,1,bg Dv d83 F1⟩],[⟨Hs,1,Ge.map (AV.int .i64)⟩],[⟨Ht,1,Hk.map (AV.int .i64)⟩],[⟨.ptr Dz DA 0 0,5,[.agg [.nil,.nil,.nil,.nil,.int .i64 0]]⟩],[⟨.ptr D_ Ea 0 0,5,[.agg [Ib,Ic,IW,IX,.int .i64 E7.Dr]]⟩],(bG Du (AV.int .i64) 1 d152 E7.Dq),(bG Du (AV.int .i64) 1 d83 F1)]) (F:=F) hS 14 rfl [4,3,2,1,5,10,11,12] (by decide)
       exact BH SE ⟨_,_,_,_,_,(Option.some.inj h).symm,_,Qm,_,Qn,_,Qo,_,Qp,_,Wz,rfl,hS⟩
      ·refine AY ?_;refine A_ SG ?_;refine C4 (s' :=(.ptr i0 w0 0 0::u:: .ptr Dz DA 0 0:: .ptr D_ Ea 0 0::u:: .int .i64 Hi::u::u::u::u::u::u::u::u::u::u::u::u::u::u::u::u::u::u::u::u::u::u::u::u::u::u::u::u::u::u::u::u::u::u::u::u::u::u::u::u::u::u::u::u::u::u::u::u::u::u::u::u::u::u::u::u::u::u::u::u::u::u::u::u::u::u::u::u::u::u::u::u::[])) rfl ?_
       have hS:aq _ (⟨GG,1,Hj.map (AV.int .i64)⟩::⟨Hr,1,bg Dv d83 F1⟩::⟨Hs,1,Ge.map (AV.int .i64)⟩::⟨Ht,1,Hk.map (AV.int .i64)⟩::⟨.ptr i0 w0 0 0,3,[.agg [.fz (EK.Code.map (AV.int .u8)),.int .i64 EK.Dr,.int .u64 EK.D8]]⟩::⟨.ptr Dz DA 0 0,5,[.agg [.nil,.nil,.nil,.nil,.int .i64 0]]⟩::⟨.ptr D_ Ea 0 0,5,[.agg [GG,Hr,Hs,Ht,.int .i64 HD]]⟩::((bG Du (AV.int .i64) 1 d83 F1) ++ (F))):=aq.CG (bl:=[[⟨.ptr SC SD 0 0,5,[.agg [Ib,Ic,IW,IX,.int .i64 E7.Dr]]⟩],[⟨IX,1,E7.Dx.map (AV.int .i64)⟩],[⟨IW,1,E7.Dw.map (AV.int .i64)⟩],[⟨Ic,1,bg Dv d152 E7.Dq⟩],[⟨Ib,1,E7.Ds.map (AV.int .i64)⟩],[⟨.ptr i0 w0 0 0,3,[.agg [.fz (EK.Code.map (AV.int .u8)),.int .i64 EK.Dr,.int .u64 EK.D8]]⟩],[⟨GG,1,Hj.map (AV.int .i64)⟩],[⟨Hr,1,bg Dv d83 F1⟩],[⟨Hs,1,Ge.map (AV.int .i64)⟩],[⟨Ht,1,Hk.map (AV.int .i64)⟩],[⟨.ptr Dz DA 0 0,5,[.agg [.nil,.nil,.nil,.nil,.int .i64 0]]⟩],[⟨.ptr D_ Ea 0 0,5,[.agg [GG,Hr,Hs,Ht,.int .i64 HD]]⟩],(bG Du (AV.int .i64) 1 d152 E7.Dq),(bG Du (AV.int .i64) 1 d83 F1)]) (F:=F) hS 14 rfl [6,7,8,9,5,10,11,13] (by decide)
       exact BH SE ⟨_,_,_,_,_,(Option.some.inj h).symm,_,Qi,_,OG,_,Qj,_,Qk,_,OH,rfl,hS⟩
     ·obtain ⟨GL,Fz,GM,GN,G0,rfl,FX,SH,FY,SI,Eh,LY,F0,SJ,d166,SK,rfl,hS⟩:=hq;replace h:=WC;try dsimp only at h
      refine A_ Wk ?_;refine AW fun adD WD=> ?_;refine Bk gC ?_;try simp only [W,EE,reduceIte,Nat.reduceAdd,Nat.reduceLeDiff,Nat.reduceBEq,hS.var 6 rfl,List.contains_cons,Nat.reduceBEq,Bool.or_self]
      have hS:aq _ (⟨FX,1,GL.map (AV.int .i64)⟩::⟨FY,1,bg Dv d166 Fz⟩::⟨Eh,1,GM.map (AV.int .i64)⟩::⟨F0,1,GN.map (AV.int .i64)⟩::⟨.ptr i0 w0 0 0,3,[.agg [.fz (EK.Code.map (AV.int .u8)),.int .i64 EK.Dr,.int .u64 EK.D8]]⟩::⟨.ptr Dz DA 0 0,5,[.agg [.nil,.nil,.nil,.nil,.int .i64 0]]⟩::⟨.ptr D_ Ea 0 0,5,[.agg [FX,FY,Eh,F0,.int .i64 G0]]⟩::((bG Du (AV.int .i64) 1 d166 Fz) ++ F)):=hS;refine Cp (b5:=[[.sl [.sc],.sl [.sl [.sc]],.sl [.sc],.sl [.sc],.sc],[.sl [.sc]],[.sc]]) (ys:=[.agg [.fz (GL.map (AV.int .i64)),.fz (Fz.map (zE (AV.int .i64))),.fz (GM.map (AV.int .i64)),.fz (GN.map (AV.int .i64)),.int .i64 G0]]) h rfl (Cc (B_ (vJ (Ca hS 0 rfl SH (fun _=>rfl)) (vJ (CU (enc:=(zE (AV.int .i64))) hS 1 rfl SI SK (fun _ h=>(List.mem_cons_of_mem _ (List.mem_cons_of_mem _ (List.mem_cons_of_mem _ (List.mem_cons_of_mem _ (List.mem_cons_of_mem _ (List.mem_cons_of_mem _ (List.mem_cons_of_mem _ (List.mem_append_left _ h))))))))) (fun _ _ ha hk=>CT hk ha (fun _=>rfl))) (vJ (Ca hS 2 rfl LY (fun _=>rfl)) (vJ (Ca hS 3 rfl SJ (fun _=>rfl)) (vJ rfl (B9 _))))))) Cb) fun Ie WE h=>⟨.aE [.agg [.own 1 (Ie.1.Ds.map (AV.int .i64)),.own 1 (Ie.1.Dq.map EP),.own 1 (Ie.1.Dw.map (AV.int .i64)),.own 1 (Ie.1.Dx.map (AV.int .i64)),.int .i64 Ie.1.Dr],.own 1 (Ie.2.1.map (AV.int .i64)),.bool Ie.2.2],So WE (aq.nil _) fun WG Qq Qr Qs d185 Qt Qu Qv Qw Qx WH WI H hS=>Ch rfl (Cg (BS 0 hS rfl Qq (fun _ _=>by simp [aR,aP,dj]) fun H hS=>CS (d:=EP) (aq.CG (bl:=[[⟨Qr,1,bg Dv d185 Ie.1.Dq⟩],[⟨Qu,1,Ie.1.Dw.map (AV.int .i64)⟩],[⟨Qw,1,Ie.1.Dx.map (AV.int .i64)⟩],[⟨WH,1,Ie.2.1.map (AV.int .i64)⟩],(bG Du (AV.int .i64) 1 d185 Ie.1.Dq)]) (F:=[]) hS 5 rfl [0,4,1,2,3] (by decide)) Qs Qt II fun H hS=>BS 0 hS rfl Qv (fun _ _=>by simp [aR,aP,dj]) fun H hS=>BS 0 hS rfl Qx (fun _ _=>by simp [aR,aP,dj]) fun H hS=>BR rfl (BQ (Cf 0 hS rfl WI (fun _ _=>by simp [aR,aP,dj]) fun H hS=>Ce rfl (Cd rfl))))),(Cu (Cs (Ct (Cs (Cq _ (fun _=>rfl) _) (Cs (Cq _ IJ _) (Cs (Cq _ (fun _=>rfl) _) (Cs (Cq _ (fun _=>rfl) _) (Cs rfl Cr)))))) (Cs (Cq _ (fun _=>rfl) _) (Cs rfl Cr)))),?_⟩
      obtain ⟨Eb,DN,Lt⟩:=Ie;try dsimp only at h
      dsimp only;refine Cn ?_;refine Cl ?_;refine Ck hS (fun _ _=>rfl) (fun _=>rfl) fun F6 H Qy hS=> ?_;refine CV (l:=Eb.Dq) (d:=EP) (m:=Dv) (p:=Du) (c:=(AV.int .i64)) hS H4 IK fun F7 d193 H Qz WJ hS=> ?_;have hS:aq _ (⟨F7,1,bg Dv d193 Eb.Dq⟩::⟨F6,1,Eb.Ds.map (AV.int .i64)⟩::⟨FX,1,GL.map (AV.int .i64)⟩::⟨FY,1,bg Dv d166 Fz⟩::⟨Eh,1,GM.map (AV.int .i64)⟩::⟨F0,1,GN.map (AV.int .i64)⟩::⟨.ptr i0 w0 0 0,3,[.agg [.fz (EK.Code.map (AV.int .u8)),.int .i64 EK.Dr,.int .u64 EK.D8]]⟩::⟨.ptr Dz DA 0 0,5,[.agg [.nil,.nil,.nil,.nil,.int .i64 0]]⟩::⟨.ptr D_ Ea 0 0,5,[.agg [FX,FY,Eh,F0,.int .i64 G0]]⟩::((bG Du (AV.int .i64) 1 d193 Eb.Dq) ++ (((bG Du (AV.int .i64) 1 d166 Fz) ++ (F))))):=aq.CG (bl:=[[⟨F7,1,bg Dv d193 Eb.Dq⟩],(bG Du (AV.int .i64) 1 d193 Eb.Dq),[⟨F6,1,Eb.Ds.map (AV.int .i64)⟩],[⟨FX,1,GL.map (AV.int .i64)⟩],[⟨FY,1,bg Dv d166 Fz⟩],[⟨Eh,1,GM.map (AV.int .i64)⟩],[⟨F0,1,GN.map (AV.int .i64)⟩],[⟨.ptr i0 w0 0 0,3,[.agg [.fz (EK.Code.map (AV.int .u8)),.int .i64 EK.Dr,.int .u64 EK.D8]]⟩],[⟨.ptr Dz DA 0 0,5,[.agg [.nil,.nil,.nil,.nil,.int .i64 0]]⟩],[⟨.ptr D_ Ea 0 0,5,[.agg [FX,FY,Eh,F0,.int .i64 G0]]⟩],(bG Du (AV.int .i64) 1 d166 Fz)]) (F:=F) hS 11 rfl [0,2,3,4,5,6,7,8,9,1,10] (by decide)
      refine Ck hS (fun _ _=>rfl) (fun _=>rfl) fun Gj H QA hS=> ?_;refine Ck hS (fun _ _=>rfl) (fun _=>rfl) fun Gk H QB hS=> ?_;refine Cj (fun _=>rfl) ?_;refine Ci ?_;refine Ck hS (fun _ _=>rfl) (fun _=>rfl) fun SL H adE hS=> ?_;refine Cj (fun _=>rfl) ?_;refine Ci ?_;try simp only [List.headD_cons]
      try simp only [W]
      refine Bs hS rfl rfl fun Jg Jh H hS=> ?_;try simp only [W]
      refine Bt (a:= .agg [F6,F7,Gj,Gk,.int .i64 Eb.Dr]) (y' := .agg [F6,F7,Gj,Gk,.int .i64 Eb.Dr]) 0 hS rfl rfl rfl rfl rfl (by simp only [di,List.all_cons,List.all_nil,Qy.pL,Qz.pL,QA.pL,QB.pL];rfl) rfl rfl fun H hS=> ?_
      try simp only [W]
      refine A_ WD ?_;refine AW fun adF WK=> ?_;obtain ⟨WL,h,WM⟩:=Option.bind_eq_some_iff.1 h;refine BG gC (fun s H=> ∃Mp:Bool,∃I5:List Int,∃I6:Int,∃I7:Int,WL=(Mp,I5,I6,I7)∧s=(.ptr i0 w0 0 0::u:: .ptr Dz DA 0 0:: .ptr D_ Ea 0 0::u:: .int .i64 Hi::u::u:: .ptr Jg Jh 0 0::u::u::u::u::u::u::u::u::u::u::u::u::u::u::u::u::u::u::u::u::u::u::u::u::u::u::u::u::u::u::u::u::u::u::u::u::u::u::u::u::u::u::u::u::u::u:: .bool Mp::u::u::u::u::u::u::u::u::u::u::u::u::u::u::u::u::u::u::u::u::u::u::[])∧aq H (⟨FX,1,GL.map (AV.int .i64)⟩::⟨FY,1,bg Dv d166 Fz⟩::⟨Eh,1,GM.map (AV.int .i64)⟩::⟨F0,1,GN.map (AV.int .i64)⟩::⟨F6,1,Eb.Ds.map (AV.int .i64)⟩::⟨F7,1,bg Dv d193 Eb.Dq⟩::⟨Gj,1,Eb.Dw.map (AV.int .i64)⟩::⟨Gk,1,Eb.Dx.map (AV.int .i64)⟩::⟨.ptr i0 w0 0 0,3,[.agg [.fz (I5.map (AV.int .u8)),.int .i64 I6,.int .u64 I7]]⟩::⟨.ptr Dz DA 0 0,5,[.agg [.nil,.nil,.nil,.nil,.int .i64 0]]⟩::⟨.ptr D_ Ea 0 0,5,[.agg [FX,FY,Eh,F0,.int .i64 G0]]⟩::⟨.ptr Jg Jh 0 0,5,[.agg [F6,F7,Gj,Gk,.int .i64 Eb.Dr]]⟩::((bG Du (AV.int .i64) 1 d166 Fz) ++ ((bG Du (AV.int .i64) 1 d193 Eb.Dq) ++ F)))) (fun adG SM=> ?_) (fun s H hq=> ?_)
      ·refine AW fun adH SN=> ?_;refine Bk gC ?_;try simp only [W,Nat.reduceAdd]
       refine BW h (fun hc h=> ?_) (fun hc h=> ?_)
       ·try simp only [W,hc]
        refine BB h fun WN WO h=> ?_;obtain ⟨Mo,HE⟩:=WN;try dsimp only at h
        refine R0 WO (hS.BT 13 [10,0,1,2,3,4,5,6,7,8,9,11,12] (by decide)) fun H hS=> ?_
        try simp only [W,reduceIte]
        refine A_ SN ?_;refine C4 (s' :=(.ptr i0 w0 0 0::u:: .ptr Dz DA 0 0:: .ptr D_ Ea 0 0::u:: .int .i64 Hi::u::u:: .ptr Jg Jh 0 0::u::u::u::u::u::u::u::u::u::u::u::u::u::u::u::u::u::u::u::u::u::u::u::u::u::u::u::u::u::u::u::u::u::u::u::u::u::u::u::u::u::u::u::u::u::u:: .bool Mo::u::u::u::u::u::u::u::u::u::u::u::u::u::u::u::u::u::u::u::u::u::u::[])) rfl ?_
        have hS:aq _ (⟨FX,1,GL.map (AV.int .i64)⟩::⟨FY,1,bg Dv d166 Fz⟩::⟨Eh,1,GM.map (AV.int .i64)⟩::⟨F0,1,GN.map (AV.int .i64)⟩::⟨F6,1,Eb.Ds.map (AV.int .i64)⟩::⟨F7,1,bg Dv d193 Eb.Dq⟩::⟨Gj,1,Eb.Dw.map (AV.int .i64)⟩::⟨Gk,1,Eb.Dx.map (AV.int .i64)⟩::⟨.ptr i0 w0 0 0,3,[.agg [.fz (HE.Code.map (AV.int .u8)),.int .i64 HE.Dr,.int .u64 HE.D8]]⟩::⟨.ptr Dz DA 0 0,5,[.agg [.nil,.nil,.nil,.nil,.int .i64 0]]⟩::⟨.ptr D_ Ea 0 0,5,[.agg [FX,FY,Eh,F0,.int .i64 G0]]⟩::⟨.ptr Jg Jh 0 0,5,[.agg [F6,F7,Gj,Gk,.int .i64 Eb.Dr]]⟩::((bG Du (AV.int .i64) 1 d166 Fz) ++ (((bG Du (AV.int .i64) 1 d193 Eb.Dq) ++ (F))))):=aq.CG (bl:=[[⟨.ptr i0 w0 0 0,3,[.agg [.fz (HE.Code.map (AV.int .u8)),.int .i64 HE.Dr,.int .u64 HE.D8]]⟩],[⟨.ptr Jg Jh 0 0,5,[.agg [F6,F7,Gj,Gk,.int .i64 Eb.Dr]]⟩],[⟨SL,1,DN.map (AV.int .i64)⟩],[⟨Gk,1,Eb.Dx.map (AV.int .i64)⟩],[⟨Gj,1,Eb.Dw.map (AV.int .i64)⟩],[⟨F7,1,bg Dv d193 Eb.Dq⟩],[⟨F6,1,Eb.Ds.map (AV.int .i64)⟩],[⟨FX,1,GL.map (AV.int .i64)⟩],[⟨FY,1,bg Dv d166 Fz⟩],[⟨Eh,1,GM.map (AV.int .i64)⟩],[⟨F0,1,GN.map (AV.int .i64)⟩],[⟨.ptr Dz DA 0 0,5,[.agg [.nil,.nil,.nil,.nil,.int .i64 0]]⟩],[⟨.ptr D_ Ea 0 0,5,[.agg [FX,FY,Eh,F0,.int .i64 G0]]⟩],(bG Du (AV.int .i64) 1 d193 Eb.Dq),(bG Du (AV.int .i64) 1 d166 Fz)]) (F:=F) hS 15 rfl [7,8,9,10,6,5,4,3,0,11,12,1,14,13] (by decide)
        exact BH SM ⟨_,_,_,_,(Option.some.inj h).symm,rfl,hS⟩
       ·try simp only [W,hc]
        refine A_ SN ?_;refine C4 (s' :=(.ptr i0 w0 0 0::u:: .ptr Dz DA 0 0:: .ptr D_ Ea 0 0::u:: .int .i64 Hi::u::u:: .ptr Jg Jh 0 0::u::u::u::u::u::u::u::u::u::u::u::u::u::u::u::u::u::u::u::u::u::u::u::u::u::u::u::u::u::u::u::u::u::u::u::u::u::u::u::u::u::u::u::u::u::u:: .bool false::u::u::u::u::u::u::u::u::u::u::u::u::u::u::u::u::u::u::u::u::u::u::[])) rfl ?_
        have hS:aq _ (⟨FX,1,GL.map (AV.int .i64)⟩::⟨FY,1,bg Dv d166 Fz⟩::⟨Eh,1,GM.map (AV.int .i64)⟩::⟨F0,1,GN.map (AV.int .i64)⟩::⟨F6,1,Eb.Ds.map (AV.int .i64)⟩::⟨F7,1,bg Dv d193 Eb.Dq⟩::⟨Gj,1,Eb.Dw.map (AV.int .i64)⟩::⟨Gk,1,Eb.Dx.map (AV.int .i64)⟩::⟨.ptr i0 w0 0 0,3,[.agg [.fz (EK.Code.map (AV.int .u8)),.int .i64 EK.Dr,.int .u64 EK.D8]]⟩::⟨.ptr Dz DA 0 0,5,[.agg [.nil,.nil,.nil,.nil,.int .i64 0]]⟩::⟨.ptr D_ Ea 0 0,5,[.agg [FX,FY,Eh,F0,.int .i64 G0]]⟩::⟨.ptr Jg Jh 0 0,5,[.agg [F6,F7,Gj,Gk,.int .i64 Eb.Dr]]⟩::((bG Du (AV.int .i64) 1 d166 Fz) ++ (((bG Du (AV.int .i64) 1 d193 Eb.Dq) ++ (F))))):=aq.CG (bl:=[[⟨.ptr Jg Jh 0 0,5,[.agg [F6,F7,Gj,Gk,.int .i64 Eb.Dr]]⟩],[⟨SL,1,DN.map (AV.int .i64)⟩],[⟨Gk,1,Eb.Dx.map (AV.int .i64)⟩],[⟨Gj,1,Eb.Dw.map (AV.int .i64)⟩],[⟨F7,1,bg Dv d193 Eb.Dq⟩],[⟨F6,1,Eb.Ds.map (AV.int .i64)⟩],[⟨FX,1,GL.map (AV.int .i64)⟩],[⟨FY,1,bg Dv d166 Fz⟩],[⟨Eh,1,GM.map (AV.int .i64)⟩],[⟨F0,1,GN.map (AV.int .i64)⟩],[⟨.ptr i0 w0 0 0,3,[.agg [.fz (EK.Code.map (AV.int .u8)),.int .i64 EK.Dr,.int .u64 EK.D8]]⟩],[⟨.ptr Dz DA 0 0,5,[.agg [.nil,.nil,.nil,.nil,.int .i64 0]]⟩],[⟨.ptr D_ Ea 0 0,5,[.agg [FX,FY,Eh,F0,.int .i64 G0]]⟩],(bG Du (AV.int .i64) 1 d193 Eb.Dq),(bG Du (AV.int .i64) 1 d166 Fz)]) (F:=F) hS 15 rfl [6,7,8,9,5,4,3,2,10,11,12,0,14,13] (by decide)
        exact BH SM ⟨_,_,_,_,(Option.some.inj h).symm,rfl,hS⟩
      ·obtain ⟨Mp,I5,I6,I7,rfl,rfl,hS⟩:=hq;replace h:=WM;try dsimp only at h
       refine A_ WK ?_;obtain ⟨WQ,h,WR⟩:=Option.bind_eq_some_iff.1 h;refine BG gC (fun s H=> ∃Mq:List Int,∃Kj:List (List Int),∃Mr:List Int,∃Ms:List Int,∃Mt:Int,WQ=(Mq,Kj,Mr,Ms,Mt)∧ ∃ON:AV,aJ ON∧ ∃OO:AV,aJ OO∧ ∃OP:AV,aJ OP∧ ∃OQ:AV,aJ OQ∧ ∃d220:List AV,bI d220 (Kj).length∧s=(.ptr i0 w0 0 0::u:: .ptr Dz DA 0 0:: .ptr D_ Ea 0 0::u:: .int .i64 Hi::u::u::u::u::u::u::u::u::u::u::u::u::u::u::u::u::u::u::u::u::u::u::u::u::u::u::u::u::u::u::u::u::u::u::u::u::u::u::u::u::u::u::u::u::u::u::u::u::u::u::u::u::u::u::u::u::u::u::u::u::u::u::u::u::u::u::u::u::u::u::u::u::[])∧aq H (⟨ON,1,Mq.map (AV.int .i64)⟩::⟨OO,1,bg Dv d220 Kj⟩::⟨OP,1,Mr.map (AV.int .i64)⟩::⟨OQ,1,Ms.map (AV.int .i64)⟩::⟨.ptr i0 w0 0 0,3,[.agg [.fz (I5.map (AV.int .u8)),.int .i64 I6,.int .u64 I7]]⟩::⟨.ptr Dz DA 0 0,5,[.agg [.nil,.nil,.nil,.nil,.int .i64 0]]⟩::⟨.ptr D_ Ea 0 0,5,[.agg [ON,OO,OP,OQ,.int .i64 Mt]]⟩::((bG Du (AV.int .i64) 1 d220 Kj) ++ F))) (fun adI SO=> ?_) (fun s H hq=> ?_)
       ·refine AW fun adJ SP=> ?_;refine A8 ?_;simp only [W];refine Bj h (fun hc h=> ?_) (fun hc h=> ?_)
        ·refine Bk gC ?_;try simp only [W,EE,reduceIte,Nat.reduceAdd,Nat.reduceLeDiff,hS.var 11 rfl]
         refine Bt (a:= .agg [F6,F7,Gj,Gk,.int .i64 Eb.Dr]) (y' := .agg [F6,F7,Gj,Gk,.int .i64 Eb.Dr]) 10 hS rfl rfl rfl rfl rfl (by simp only [di,List.all_cons,List.all_nil,Qy.pL,Qz.pL,QA.pL,QB.pL];rfl) rfl rfl fun H hS=> ?_
         try simp only [W]
         refine A_ SP ?_;refine C4 (s' :=(.ptr i0 w0 0 0::u:: .ptr Dz DA 0 0:: .ptr D_ Ea 0 0::u:: .int .i64 Hi::u::u::u::u::u::u::u::u::u::u::u::u::u::u::u::u::u::u::u::u::u::u::u::u::u::u::u::u::u::u::u::u::u::u::u::u::u::u::u::u::u::u::u::u::u::u::u::u::u::u::u::u::u::u::u::u::u::u::u::u::u::u::u::u::u::u::u::u::u::u::u::u::[])) rfl ?_
         have hS:aq _ (⟨F6,1,Eb.Ds.map (AV.int .i64)⟩::⟨F7,1,bg Dv d193 Eb.Dq⟩::⟨Gj,1,Eb.Dw.map (AV.int .i64)⟩::⟨Gk,1,Eb.Dx.map (AV.int .i64)⟩::⟨.ptr i0 w0 0 0,3,[.agg [.fz (I5.map (AV.int .u8)),.int .i64 I6,.int .u64 I7]]⟩::⟨.ptr Dz DA 0 0,5,[.agg [.nil,.nil,.nil,.nil,.int .i64 0]]⟩::⟨.ptr D_ Ea 0 0,5,[.agg [F6,F7,Gj,Gk,.int .i64 Eb.Dr]]⟩::((bG Du (AV.int .i64) 1 d193 Eb.Dq) ++ (F))):=aq.CG (bl:=[[⟨FX,1,GL.map (AV.int .i64)⟩],[⟨FY,1,bg Dv d166 Fz⟩],[⟨Eh,1,GM.map (AV.int .i64)⟩],[⟨F0,1,GN.map (AV.int .i64)⟩],[⟨F6,1,Eb.Ds.map (AV.int .i64)⟩],[⟨F7,1,bg Dv d193 Eb.Dq⟩],[⟨Gj,1,Eb.Dw.map (AV.int .i64)⟩],[⟨Gk,1,Eb.Dx.map (AV.int .i64)⟩],[⟨.ptr i0 w0 0 0,3,[.agg [.fz (I5.map (AV.int .u8)),.int .i64 I6,.int .u64 I7]]⟩],[⟨.ptr Dz DA 0 0,5,[.agg [.nil,.nil,.nil,.nil,.int .i64 0]]⟩],[⟨.ptr D_ Ea 0 0,5,[.agg [F6,F7,Gj,Gk,.int .i64 Eb.Dr]]⟩],[⟨.ptr Jg Jh 0 0,5,[.agg [F6,F7,Gj,Gk,.int .i64 Eb.Dr]]⟩],(bG Du (AV.int .i64) 1 d166 Fz),(bG Du (AV.int .i64) 1 d193 Eb.Dq)]) (F:=F) hS 14 rfl [4,5,6,7,8,9,10,13] (by decide)
         exact BH SO ⟨_,_,_,_,_,(Option.some.inj h).symm,_,Qy,_,Qz,_,QA,_,QB,_,WJ,rfl,hS⟩
        ·refine AY ?_;refine A_ SP ?_;refine C4 (s' :=(.ptr i0 w0 0 0::u:: .ptr Dz DA 0 0:: .ptr D_ Ea 0 0::u:: .int .i64 Hi::u::u::u::u::u::u::u::u::u::u::u::u::u::u::u::u::u::u::u::u::u::u::u::u::u::u::u::u::u::u::u::u::u::u::u::u::u::u::u::u::u::u::u::u::u::u::u::u::u::u::u::u::u::u::u::u::u::u::u::u::u::u::u::u::u::u::u::u::u::u::u::u::[])) rfl ?_
         have hS:aq _ (⟨FX,1,GL.map (AV.int .i64)⟩::⟨FY,1,bg Dv d166 Fz⟩::⟨Eh,1,GM.map (AV.int .i64)⟩::⟨F0,1,GN.map (AV.int .i64)⟩::⟨.ptr i0 w0 0 0,3,[.agg [.fz (I5.map (AV.int .u8)),.int .i64 I6,.int .u64 I7]]⟩::⟨.ptr Dz DA 0 0,5,[.agg [.nil,.nil,.nil,.nil,.int .i64 0]]⟩::⟨.ptr D_ Ea 0 0,5,[.agg [FX,FY,Eh,F0,.int .i64 G0]]⟩::((bG Du (AV.int .i64) 1 d166 Fz) ++ (F))):=aq.CG (bl:=[[⟨FX,1,GL.map (AV.int .i64)⟩],[⟨FY,1,bg Dv d166 Fz⟩],[⟨Eh,1,GM.map (AV.int .i64)⟩],[⟨F0,1,GN.map (AV.int .i64)⟩],[⟨F6,1,Eb.Ds.map (AV.int .i64)⟩],[⟨F7,1,bg Dv d193 Eb.Dq⟩],[⟨Gj,1,Eb.Dw.map (AV.int .i64)⟩],[⟨Gk,1,Eb.Dx.map (AV.int .i64)⟩],[⟨.ptr i0 w0 0 0,3,[.agg [.fz (I5.map (AV.int .u8)),.int .i64 I6,.int .u64 I7]]⟩],[⟨.ptr Dz DA 0 0,5,[.agg [.nil,.nil,.nil,.nil,.int .i64 0]]⟩],[⟨.ptr D_ Ea 0 0,5,[.agg [FX,FY,Eh,F0,.int .i64 G0]]⟩],[⟨.ptr Jg Jh 0 0,5,[.agg [F6,F7,Gj,Gk,.int .i64 Eb.Dr]]⟩],(bG Du (AV.int .i64) 1 d166 Fz),(bG Du (AV.int .i64) 1 d193 Eb.Dq)]) (F:=F) hS 14 rfl [0,1,2,3,8,9,10,12] (by decide)
         exact BH SO ⟨_,_,_,_,_,(Option.some.inj h).symm,_,SH,_,SI,_,LY,_,SJ,_,SK,rfl,hS⟩
       ·obtain ⟨Mq,Kj,Mr,Ms,Mt,rfl,ON,WS,OO,WT,OP,WU,OQ,WV,d220,WW,rfl,hS⟩:=hq;replace h:=WR;try dsimp only at h
        refine Bc Wj ?_;exact BH Wi ⟨_,_,_,_,_,_,_,_,(Option.some.inj h).symm,_,WS,_,WT,_,WU,_,WV,_,WW,rfl,hS⟩
    ·obtain ⟨IE,Mu,Mw,Mx,Kk,Jr,My,Mz,rfl,OK,WX,OL,WY,JC,SQ,OM,WZ,d123,W0,rfl,hS⟩:=hq;replace h:=Wh;try dsimp only at h
     refine A_ Ql ?_;refine Bk gC ?_;try simp only [W,EE,Nat.reduceAdd]
     exact BD SB h ⟨_,WX,_,WY,_,SQ,_,WZ,_,W0,rfl,hS⟩
   ·refine A7 ?_;refine Bb OI ?_;try obtain rfl:=Option.some.inj h
    obtain rfl:=Wc _ rfl;have h:(some (Kg,Kh,Ki,Hj,F1,Ge,Hk,HD):Option ((List Int)×Int×Int×(List Int)×(List (List Int))×(List Int)×(List Int)×Int))=some (Kg,Kh,Ki,Hj,F1,Ge,Hk,HD):=rfl;refine BE SB ?_;refine Be Qh ?_;exact BH P3 ⟨_,_,_,_,_,_,_,_,(Option.some.inj h).symm,_,Qi,_,OG,_,Qj,_,Qk,_,OH,rfl,hS⟩
  ·obtain ⟨MA,MB,GZ,GC,Fb,G3,G4,HX,rfl,ES,OR,Fe,SR,Ff,QC,Fg,QD,d98,W1,rfl,hS⟩:=hq;replace h:=Wa;try dsimp only at h
   refine A_ V5 ?_;refine AW fun adK W2=> ?_;refine AW fun adL W3=> ?_;refine Bk gC ?_;try simp only [W,Nat.reduceAdd]
   refine BB h fun W4 W5 h=> ?_;obtain ⟨NW,Gf⟩:=W4;try dsimp only at h
   refine Io W5 (hS.BT 7 [4,0,1,2,3,5,6] (by decide)) fun H hS=> ?_
   try simp only [W]
   refine A_ W3 ?_;obtain ⟨W6,h,W7⟩:=Option.bind_eq_some_iff.1 h;refine BG gC (fun s H=> ∃Kl:List Int,∃Km:Int,∃Kn:Int,∃Ko:List Int,∃Kp:List Int,∃Js:Int,W6=(Kl,Km,Kn,Ko,Kp,Js)∧s=(u::u:: .ptr Dz DA 0 0:: .ptr D_ Ea 0 0::u::u::u::u::u::u::u::u::u::u::u::u::u::u::u::u::u::u::u::u::u::u::u::u::u::u::u::u::u::u::u::u::u::u::u::u::u::u::u::u::u::u::u::u::u::u::u::u::u::u::u::u::u::u::u::u::u::u::u::u::u::u::u::u::u::u::u::u::u::u::u::u::u::u::[])∧aq H (⟨ES,1,GC.map (AV.int .i64)⟩::⟨Fe,1,bg Dv d98 Fb⟩::⟨Ff,1,Ko.map (AV.int .i64)⟩::⟨Fg,1,Kp.map (AV.int .i64)⟩::⟨.ptr i0 w0 0 0,3,[.agg [.fz (Kl.map (AV.int .u8)),.int .i64 Km,.int .u64 Kn]]⟩::⟨.ptr Dz DA 0 0,5,[.agg [.nil,.nil,.nil,.nil,.int .i64 0]]⟩::⟨.ptr D_ Ea 0 0,5,[.agg [ES,Fe,Ff,Fg,.int .i64 Js]]⟩::((bG Du (AV.int .i64) 1 d98 Fb) ++ F))) (fun adM W8=> ?_) (fun s H hq=> ?_)
   ·refine AX fun adN W9=> ?_;refine AW fun adO W_=> ?_;refine Bk gC ?_;try simp only [W,EE,Nat.reduceAdd]
    refine A_ W_ ?_;obtain ⟨Xa,h,Xb⟩:=Option.bind_eq_some_iff.1 h;refine BG gC (fun s H=> ∃MJ:List Int,∃MK:Int,∃ML:Int,∃MN:List Int,∃MO:List Int,∃MP:Int,Xa=(MJ,MK,ML,MN,MO,MP)∧s=(u::u:: .ptr Dz DA 0 0:: .ptr D_ Ea 0 0::u::u::u::u::u::u::u::u::u::u::u::u::u::u::u::u::u::u::u::u::u::u::u::u::u::u::u::u::u::u::u::u::u::u::u::u::u::u::u::u::u::u::u::u::u::u::u::u::u::u::u::u::u::u::u::u::u::u::u::u::u::u::u::u::u::u::u::u::u::u::u::u::u::u::[])∧aq H (⟨ES,1,GC.map (AV.int .i64)⟩::⟨Fe,1,bg Dv d98 Fb⟩::⟨Ff,1,MN.map (AV.int .i64)⟩::⟨Fg,1,MO.map (AV.int .i64)⟩::⟨.ptr i0 w0 0 0,3,[.agg [.fz (MJ.map (AV.int .u8)),.int .i64 MK,.int .u64 ML]]⟩::⟨.ptr Dz DA 0 0,5,[.agg [.nil,.nil,.nil,.nil,.int .i64 0]]⟩::⟨.ptr D_ Ea 0 0,5,[.agg [ES,Fe,Ff,Fg,.int .i64 MP]]⟩::((bG Du (AV.int .i64) 1 d98 Fb) ++ F))) (fun adP SS=> ?_) (fun s H hq=> ?_)
    ·refine AW fun adQ SU=> ?_;refine A8 ?_;simp only [W];refine Bj h (fun hc h=> ?_) (fun hc h=> ?_)
     ·refine Bk gC ?_;try simp only [W,Nat.reduceAdd]
      refine BB h fun Xc Xd h=> ?_;obtain ⟨Lv,I8⟩:=Xc;try dsimp only at h
      refine Io Xd hS fun H hS=> ?_;try simp only [W,EE,Nat.reduceAdd,Nat.reduceBEq,hS.var 6 rfl]
      refine Bt (a:= .int .i64 (IntKind.i64.wrap (Lv-1))) (y' := .agg [ES,Fe,Ff,Fg,.int .i64 (IntKind.i64.wrap (Lv-1))]) 6 hS rfl rfl rfl rfl rfl rfl rfl rfl fun H hS=> ?_
      try simp only [W]
      refine A_ SU ?_;refine C4 (s' :=(u::u:: .ptr Dz DA 0 0:: .ptr D_ Ea 0 0::u::u::u::u::u::u::u::u::u::u::u::u::u::u::u::u::u::u::u::u::u::u::u::u::u::u::u::u::u::u::u::u::u::u::u::u::u::u::u::u::u::u::u::u::u::u::u::u::u::u::u::u::u::u::u::u::u::u::u::u::u::u::u::u::u::u::u::u::u::u::u::u::u::u::[])) rfl ?_
      have hS:aq _ (⟨ES,1,GC.map (AV.int .i64)⟩::⟨Fe,1,bg Dv d98 Fb⟩::⟨Ff,1,G3.map (AV.int .i64)⟩::⟨Fg,1,G4.map (AV.int .i64)⟩::⟨.ptr i0 w0 0 0,3,[.agg [.fz (I8.Code.map (AV.int .u8)),.int .i64 I8.Dr,.int .u64 I8.D8]]⟩::⟨.ptr Dz DA 0 0,5,[.agg [.nil,.nil,.nil,.nil,.int .i64 0]]⟩::⟨.ptr D_ Ea 0 0,5,[.agg [ES,Fe,Ff,Fg,.int .i64 (IntKind.i64.wrap (Lv-1))]]⟩::((bG Du (AV.int .i64) 1 d98 Fb) ++ (F))):=aq.CG (bl:=[[⟨.ptr i0 w0 0 0,3,[.agg [.fz (I8.Code.map (AV.int .u8)),.int .i64 I8.Dr,.int .u64 I8.D8]]⟩],[⟨ES,1,GC.map (AV.int .i64)⟩],[⟨Fe,1,bg Dv d98 Fb⟩],[⟨Ff,1,G3.map (AV.int .i64)⟩],[⟨Fg,1,G4.map (AV.int .i64)⟩],[⟨.ptr Dz DA 0 0,5,[.agg [.nil,.nil,.nil,.nil,.int .i64 0]]⟩],[⟨.ptr D_ Ea 0 0,5,[.agg [ES,Fe,Ff,Fg,.int .i64 (IntKind.i64.wrap (Lv-1))]]⟩],(bG Du (AV.int .i64) 1 d98 Fb)]) (F:=F) hS 8 rfl [1,2,3,4,0,5,6,7] (by decide)
      exact BH SS ⟨_,_,_,_,_,_,(Option.some.inj h).symm,rfl,hS⟩
     ·refine AW fun Xe J1=> ?_;refine Bk gC ?_;try simp only [W,EE,Nat.reduceAdd]
      refine A_ J1 ?_;obtain ⟨Xf,h,Xg⟩:=Option.bind_eq_some_iff.1 h;refine BG gC (fun s H=> ∃MD:List Int,∃ME:Int,∃MF:Int,∃MH:List Int,∃MI:List Int,Xf=(MD,ME,MF,MH,MI)∧s=(u::u:: .ptr Dz DA 0 0:: .ptr D_ Ea 0 0::u::u::u::u::u::u::u::u::u::u::u::u::u::u::u::u::u::u::u::u::u::u::u::u::u::u::u::u::u::u::u::u::u::u::u::u::u::u::u::u::u::u::u::u::u::u::u::u::u::u::u::u::u::u::u::u::u::u::u::u::u::u::u::u::u::u::u::u::u::u::u::u::u::u::[])∧aq H (⟨ES,1,GC.map (AV.int .i64)⟩::⟨Fe,1,bg Dv d98 Fb⟩::⟨Ff,1,MH.map (AV.int .i64)⟩::⟨Fg,1,MI.map (AV.int .i64)⟩::⟨.ptr i0 w0 0 0,3,[.agg [.fz (MD.map (AV.int .u8)),.int .i64 ME,.int .u64 MF]]⟩::⟨.ptr Dz DA 0 0,5,[.agg [.nil,.nil,.nil,.nil,.int .i64 0]]⟩::⟨.ptr D_ Ea 0 0,5,[.agg [ES,Fe,Ff,Fg,.int .i64 HX]]⟩::((bG Du (AV.int .i64) 1 d98 Fb) ++ F))) (fun adR SV=> ?_) (fun s H hq=> ?_)
      ·refine AW fun adS SW=> ?_;refine A8 ?_;simp only [W];refine Bj h (fun hc h=> ?_) (fun hc h=> ?_)
       ·refine BY gC [(3,[0,1]),(5,[])] (by kernel_rfl) rfl (by kernel_rfl) ?_
        try simp only [W,EE,reduceIte,Nat.reduceAdd,Nat.reduceBEq,hS.var 6 rfl,iG,ln,Nat.reduceEqDiff]
        refine BB h fun Xh Xi h=> ?_;obtain ⟨Lw,I9⟩:=Xh;try dsimp only at h
        refine Io Xi hS fun H hS=> ?_;refine BZ ?_;refine B0 (by first|rfl|(simp [aK,W,EE,hS.var 6 rfl];done)) ?_
        refine B0 (by first|rfl|(simp [aK,W,EE,bO,ju,aG,AV.cells,hS.var 6 rfl];done)) ?_
        refine B1 ?_;try simp only [W,EE]
        refine Bw 3 hS rfl rfl rfl rfl rfl h (fun adT adU adV adW SX h SY=> ?_) QC.ne;obtain ⟨adX,adY,adZ⟩:=hS.elem 3 rfl SY SX;try simp only [W]
        refine Bx (a:= .int .i64 Lw) (y' :=Lw) 3 hS rfl SY SX rfl rfl rfl rfl rfl rfl rfl fun H hS=> ?_
        try simp only [W]
        refine A_ SW ?_;refine C4 (s' :=(u::u:: .ptr Dz DA 0 0:: .ptr D_ Ea 0 0::u::u::u::u::u::u::u::u::u::u::u::u::u::u::u::u::u::u::u::u::u::u::u::u::u::u::u::u::u::u::u::u::u::u::u::u::u::u::u::u::u::u::u::u::u::u::u::u::u::u::u::u::u::u::u::u::u::u::u::u::u::u::u::u::u::u::u::u::u::u::u::u::u::u::[])) rfl ?_
        have hS:aq _ (⟨ES,1,GC.map (AV.int .i64)⟩::⟨Fe,1,bg Dv d98 Fb⟩::⟨Ff,1,(G3.set (0:Int).toNat Lw).map (AV.int .i64)⟩::⟨Fg,1,G4.map (AV.int .i64)⟩::⟨.ptr i0 w0 0 0,3,[.agg [.fz (I9.Code.map (AV.int .u8)),.int .i64 I9.Dr,.int .u64 I9.D8]]⟩::⟨.ptr Dz DA 0 0,5,[.agg [.nil,.nil,.nil,.nil,.int .i64 0]]⟩::⟨.ptr D_ Ea 0 0,5,[.agg [ES,Fe,Ff,Fg,.int .i64 HX]]⟩::((bG Du (AV.int .i64) 1 d98 Fb) ++ (F))):=aq.CG (bl:=[[⟨.ptr i0 w0 0 0,3,[.agg [.fz (I9.Code.map (AV.int .u8)),.int .i64 I9.Dr,.int .u64 I9.D8]]⟩],[⟨ES,1,GC.map (AV.int .i64)⟩],[⟨Fe,1,bg Dv d98 Fb⟩],[⟨Ff,1,(G3.set (0:Int).toNat Lw).map (AV.int .i64)⟩],[⟨Fg,1,G4.map (AV.int .i64)⟩],[⟨.ptr Dz DA 0 0,5,[.agg [.nil,.nil,.nil,.nil,.int .i64 0]]⟩],[⟨.ptr D_ Ea 0 0,5,[.agg [ES,Fe,Ff,Fg,.int .i64 HX]]⟩],(bG Du (AV.int .i64) 1 d98 Fb)]) (F:=F) hS 8 rfl [1,2,3,4,0,5,6,7] (by decide)
        exact BH SV ⟨_,_,_,_,_,(Option.some.inj h).symm,rfl,hS⟩
       ·refine AW fun ad0 Xj=> ?_;refine Bk gC ?_;try simp only [W,EE,Nat.reduceAdd]
        refine A_ Xj ?_;obtain ⟨Xk,h,Xl⟩:=Option.bind_eq_some_iff.1 h;refine BG gC (fun s H=> ∃MC:List Int,Xk=(MC)∧s=(u::u:: .ptr Dz DA 0 0:: .ptr D_ Ea 0 0::u::u::u::u::u::u::u::u::u::u::u::u::u::u::u::u::u::u::u::u::u::u::u::u::u::u::u::u::u::u::u::u::u::u::u::u::u::u::u::u::u::u::u::u::u::u::u::u::u::u::u::u::u::u::u::u::u::u::u::u::u::u::u::u::u::u::u::u::u::u::u::u::u::u::[])∧aq H (⟨ES,1,GC.map (AV.int .i64)⟩::⟨Fe,1,bg Dv d98 Fb⟩::⟨Ff,1,G3.map (AV.int .i64)⟩::⟨Fg,1,MC.map (AV.int .i64)⟩::⟨.ptr i0 w0 0 0,3,[.agg [.fz (Gf.Code.map (AV.int .u8)),.int .i64 Gf.Dr,.int .u64 Gf.D8]]⟩::⟨.ptr Dz DA 0 0,5,[.agg [.nil,.nil,.nil,.nil,.int .i64 0]]⟩::⟨.ptr D_ Ea 0 0,5,[.agg [ES,Fe,Ff,Fg,.int .i64 HX]]⟩::((bG Du (AV.int .i64) 1 d98 Fb) ++ F))) (fun ad1 SZ=> ?_) (fun s H hq=> ?_)
        ·refine AW fun ad2 S0=> ?_;refine A8 ?_;simp only [W];refine Bj h (fun hc h=> ?_) (fun hc h=> ?_)
         ·refine Bk gC ?_;try simp only [W,EE,Nat.reduceAdd,Nat.reduceBEq,hS.var 6 rfl]
          refine Bw 4 hS rfl rfl rfl rfl rfl h (fun ad3 ad4 ad5 ad6 S1 h S2=> ?_) QD.ne;obtain ⟨ad7,ad8,ad9⟩:=hS.elem 4 rfl S2 S1;try simp only [W]
          refine Bx (a:= .int .i64 1000000) (y' :=1000000) 4 hS rfl S2 S1 rfl rfl rfl rfl rfl rfl rfl fun H hS=> ?_
          try simp only [W]
          refine A_ S0 ?_;refine C4 (s' :=(u::u:: .ptr Dz DA 0 0:: .ptr D_ Ea 0 0::u::u::u::u::u::u::u::u::u::u::u::u::u::u::u::u::u::u::u::u::u::u::u::u::u::u::u::u::u::u::u::u::u::u::u::u::u::u::u::u::u::u::u::u::u::u::u::u::u::u::u::u::u::u::u::u::u::u::u::u::u::u::u::u::u::u::u::u::u::u::u::u::u::u::[])) rfl ?_
          have hS:aq _ (⟨ES,1,GC.map (AV.int .i64)⟩::⟨Fe,1,bg Dv d98 Fb⟩::⟨Ff,1,G3.map (AV.int .i64)⟩::⟨Fg,1,(G4.set (0:Int).toNat 1000000).map (AV.int .i64)⟩::⟨.ptr i0 w0 0 0,3,[.agg [.fz (Gf.Code.map (AV.int .u8)),.int .i64 Gf.Dr,.int .u64 Gf.D8]]⟩::⟨.ptr Dz DA 0 0,5,[.agg [.nil,.nil,.nil,.nil,.int .i64 0]]⟩::⟨.ptr D_ Ea 0 0,5,[.agg [ES,Fe,Ff,Fg,.int .i64 HX]]⟩::((bG Du (AV.int .i64) 1 d98 Fb) ++ (F))):=aq.CG (bl:=[[⟨.ptr i0 w0 0 0,3,[.agg [.fz (Gf.Code.map (AV.int .u8)),.int .i64 Gf.Dr,.int .u64 Gf.D8]]⟩],[⟨ES,1,GC.map (AV.int .i64)⟩],[⟨Fe,1,bg Dv d98 Fb⟩],[⟨Ff,1,G3.map (AV.int .i64)⟩],[⟨Fg,1,(G4.set (0:Int).toNat 1000000).map (AV.int .i64)⟩],[⟨.ptr Dz DA 0 0,5,[.agg [.nil,.nil,.nil,.nil,.int .i64 0]]⟩],[⟨.ptr D_ Ea 0 0,5,[.agg [ES,Fe,Ff,Fg,.int .i64 HX]]⟩],(bG Du (AV.int .i64) 1 d98 Fb)]) (F:=F) hS 8 rfl [1,2,3,4,0,5,6,7] (by decide)
          exact BH SZ ⟨_,(Option.some.inj h).symm,rfl,hS⟩
         ·refine AY ?_;refine A_ S0 ?_;refine C4 (s' :=(u::u:: .ptr Dz DA 0 0:: .ptr D_ Ea 0 0::u::u::u::u::u::u::u::u::u::u::u::u::u::u::u::u::u::u::u::u::u::u::u::u::u::u::u::u::u::u::u::u::u::u::u::u::u::u::u::u::u::u::u::u::u::u::u::u::u::u::u::u::u::u::u::u::u::u::u::u::u::u::u::u::u::u::u::u::u::u::u::u::u::u::[])) rfl ?_
          have hS:aq _ (⟨ES,1,GC.map (AV.int .i64)⟩::⟨Fe,1,bg Dv d98 Fb⟩::⟨Ff,1,G3.map (AV.int .i64)⟩::⟨Fg,1,G4.map (AV.int .i64)⟩::⟨.ptr i0 w0 0 0,3,[.agg [.fz (Gf.Code.map (AV.int .u8)),.int .i64 Gf.Dr,.int .u64 Gf.D8]]⟩::⟨.ptr Dz DA 0 0,5,[.agg [.nil,.nil,.nil,.nil,.int .i64 0]]⟩::⟨.ptr D_ Ea 0 0,5,[.agg [ES,Fe,Ff,Fg,.int .i64 HX]]⟩::((bG Du (AV.int .i64) 1 d98 Fb) ++ (F))):=aq.CG (bl:=[[⟨.ptr i0 w0 0 0,3,[.agg [.fz (Gf.Code.map (AV.int .u8)),.int .i64 Gf.Dr,.int .u64 Gf.D8]]⟩],[⟨ES,1,GC.map (AV.int .i64)⟩],[⟨Fe,1,bg Dv d98 Fb⟩],[⟨Ff,1,G3.map (AV.int .i64)⟩],[⟨Fg,1,G4.map (AV.int .i64)⟩],[⟨.ptr Dz DA 0 0,5,[.agg [.nil,.nil,.nil,.nil,.int .i64 0]]⟩],[⟨.ptr D_ Ea 0 0,5,[.agg [ES,Fe,Ff,Fg,.int .i64 HX]]⟩],(bG Du (AV.int .i64) 1 d98 Fb)]) (F:=F) hS 8 rfl [1,2,3,4,0,5,6,7] (by decide)
          exact BH SZ ⟨_,(Option.some.inj h).symm,rfl,hS⟩
        ·obtain ⟨MC,En,rfl,hS⟩:=hq;obtain rfl:=En.symm;replace h:=Xl;try dsimp only at h
         refine A_ SW ?_;refine C4 (s' :=(u::u:: .ptr Dz DA 0 0:: .ptr D_ Ea 0 0::u::u::u::u::u::u::u::u::u::u::u::u::u::u::u::u::u::u::u::u::u::u::u::u::u::u::u::u::u::u::u::u::u::u::u::u::u::u::u::u::u::u::u::u::u::u::u::u::u::u::u::u::u::u::u::u::u::u::u::u::u::u::u::u::u::u::u::u::u::u::u::u::u::u::[])) rfl ?_
         exact BH SV ⟨_,_,_,_,_,(Option.some.inj h).symm,rfl,hS⟩
      ·obtain ⟨MD,ME,MF,MH,MI,rfl,rfl,hS⟩:=hq;replace h:=Xg;try dsimp only at h
       refine A_ SU ?_;refine C4 (s' :=(u::u:: .ptr Dz DA 0 0:: .ptr D_ Ea 0 0::u::u::u::u::u::u::u::u::u::u::u::u::u::u::u::u::u::u::u::u::u::u::u::u::u::u::u::u::u::u::u::u::u::u::u::u::u::u::u::u::u::u::u::u::u::u::u::u::u::u::u::u::u::u::u::u::u::u::u::u::u::u::u::u::u::u::u::u::u::u::u::u::u::u::[])) rfl ?_
       exact BH SS ⟨_,_,_,_,_,_,(Option.some.inj h).symm,rfl,hS⟩
    ·obtain ⟨MJ,MK,ML,MN,MO,MP,rfl,rfl,hS⟩:=hq;replace h:=Xb;try dsimp only at h
     refine Bc W9 ?_;exact BH W8 ⟨_,_,_,_,_,_,(Option.some.inj h).symm,rfl,hS⟩
   ·obtain ⟨Kl,Km,Kn,Ko,Kp,Js,rfl,rfl,hS⟩:=hq;replace h:=W7;try dsimp only at h
    refine A_ W2 ?_;refine AW fun ad_ Xm=> ?_;refine Bk gC ?_;try simp only [W,EE,reduceIte,Nat.reduceAdd,Nat.reduceLeDiff,hS.var 6 rfl]
    refine Bt (a:= .agg [ES,Fe,Ff,Fg,.int .i64 Js]) (y' := .agg [ES,Fe,Ff,Fg,.int .i64 Js]) 5 hS rfl rfl rfl rfl rfl (by simp only [di,List.all_cons,List.all_nil,OR.pL,SR.pL,QC.pL,QD.pL];rfl) rfl rfl fun H hS=> ?_
    try simp only [W]
    refine A_ Xm ?_;refine AZ ?_;refine Bg DQ (BU rfl rfl (hS.var 5 rfl) rfl rfl) ?_;try obtain rfl:=Option.some.inj h
    have hS:aq _ (⟨ES,1,GC.map (AV.int .i64)⟩::⟨Fe,1,bg Dv d98 Fb⟩::⟨Ff,1,Ko.map (AV.int .i64)⟩::⟨Fg,1,Kp.map (AV.int .i64)⟩::⟨.ptr i0 w0 0 0,3,[.agg [.fz (Kl.map (AV.int .u8)),.int .i64 Km,.int .u64 Kn]]⟩::((bG Du (AV.int .i64) 1 d98 Fb) ++ (F))):=aq.CG (bl:=[[⟨ES,1,GC.map (AV.int .i64)⟩],[⟨Fe,1,bg Dv d98 Fb⟩],[⟨Ff,1,Ko.map (AV.int .i64)⟩],[⟨Fg,1,Kp.map (AV.int .i64)⟩],[⟨.ptr i0 w0 0 0,3,[.agg [.fz (Kl.map (AV.int .u8)),.int .i64 Km,.int .u64 Kn]]⟩],[⟨.ptr Dz DA 0 0,5,[.agg [ES,Fe,Ff,Fg,.int .i64 Js]]⟩],[⟨.ptr D_ Ea 0 0,5,[.agg [ES,Fe,Ff,Fg,.int .i64 Js]]⟩],(bG Du (AV.int .i64) 1 d98 Fb)]) (F:=F) hS 8 rfl [0,1,2,3,4,7] (by decide)
    exact hP _ OR _ SR _ W1 _ QC _ QD _ hS
theorem Xn {a0:List Int} {r:(DJ)} (h:NX a0=some r) {F:List It} {H:J} (hS:aq H (F)) {P:AV→J→Prop} (hP: ∀v20:AV,aJ v20→ ∀J2:AV,aJ J2→ ∀d24:List AV,bI d24 (r.Dq).length→ ∀D1:AV,aJ D1→ ∀E_:AV,aJ E_→ ∀H',aq H' (⟨v20,1,r.Ds.map (AV.int .i64)⟩::⟨J2,1,bg Dv d24 r.Dq⟩::⟨D1,1,r.Dw.map (AV.int .i64)⟩::⟨E_,1,r.Dx.map (AV.int .i64)⟩::((bG Du (AV.int .i64) 1 d24 r.Dq) ++ F))→P (.agg [v20,J2,D1,E_,.int .i64 r.Dr]) H'):aw C 146 [.fz (a0.map (AV.int .u8))] H P:=by
 refine Bn gC (res:=[.cell 2 26]) (n:=9) rfl rfl rfl rfl fun K0 DQ=> ?_;simp only [W,Nat.reduceSub,Nat.reduceAdd,List.replicate];unfold NX at h;refine AW fun K1 D5=> ?_;refine Bk gC ?_;try simp only [W,Nat.reduceAdd]
 refine Bs hS rfl rfl fun Dz DA H hS=> ?_;try simp only [W]
 refine A_ D5 ?_;refine AW fun K4 Ez=> ?_;refine Bk gC ?_;try simp only [W,EE,Nat.reduceAdd]
 refine BX rfl rfl rfl rfl rfl ?_;try simp only [W]
 refine Br hS rfl rfl rfl rfl fun KR KS H hS=> ?_;try simp only [W]
 refine A_ Ez ?_;refine AW fun K7 Fq=> ?_;refine Bk gC ?_;try simp only [W,Nat.reduceAdd]
 refine BB h fun FF Ia h=> ?_;obtain ⟨Ek,E6⟩:=FF;try dsimp only at h
 refine Sv Ia hS fun v11 JD D6 F9 d15 Nx FE Hm Ec F2 H hS=> ?_;have hS:aq _ (⟨v11,1,Ek.Ds.map (AV.int .i64)⟩::⟨D6,1,bg Dv d15 Ek.Dq⟩::⟨FE,1,Ek.Dw.map (AV.int .i64)⟩::⟨Ec,1,Ek.Dx.map (AV.int .i64)⟩::⟨.ptr KR KS 0 0,3,[.agg [.fz (E6.Code.map (AV.int .u8)),.int .i64 E6.Dr,.int .u64 E6.D8]]⟩::⟨.ptr Dz DA 0 0,5,[.agg [.nil,.nil,.nil,.nil,.int .i64 0]]⟩::((bG Du (AV.int .i64) 1 d15 Ek.Dq) ++ (F))):=aq.CG (bl:=[[⟨v11,1,Ek.Ds.map (AV.int .i64)⟩],[⟨D6,1,bg Dv d15 Ek.Dq⟩],[⟨FE,1,Ek.Dw.map (AV.int .i64)⟩],[⟨Ec,1,Ek.Dx.map (AV.int .i64)⟩],[⟨.ptr KR KS 0 0,3,[.agg [.fz (E6.Code.map (AV.int .u8)),.int .i64 E6.Dr,.int .u64 E6.D8]]⟩],(bG Du (AV.int .i64) 1 d15 Ek.Dq),[⟨.ptr Dz DA 0 0,5,[.agg [.nil,.nil,.nil,.nil,.int .i64 0]]⟩]]) (F:=F) hS 7 rfl [0,1,2,3,4,6,5] (by decide)
 try simp only [W]
 refine Bt (a:= .agg [v11,D6,FE,Ec,.int .i64 Ek.Dr]) (y' := .agg [v11,D6,FE,Ec,.int .i64 Ek.Dr]) 5 hS rfl rfl rfl rfl rfl (by simp only [di,List.all_cons,List.all_nil,JD.pL,F9.pL,Hm.pL,F2.pL];rfl) rfl rfl fun H hS=> ?_
 try simp only [W]
 refine A_ Fq ?_;refine AZ ?_;refine Bg DQ (BU rfl rfl (hS.var 5 rfl) rfl rfl) ?_;try obtain rfl:=Option.some.inj h
 have hS:aq _ (⟨v11,1,Ek.Ds.map (AV.int .i64)⟩::⟨D6,1,bg Dv d15 Ek.Dq⟩::⟨FE,1,Ek.Dw.map (AV.int .i64)⟩::⟨Ec,1,Ek.Dx.map (AV.int .i64)⟩::((bG Du (AV.int .i64) 1 d15 Ek.Dq) ++ (F))):=aq.CG (bl:=[[⟨v11,1,Ek.Ds.map (AV.int .i64)⟩],[⟨D6,1,bg Dv d15 Ek.Dq⟩],[⟨FE,1,Ek.Dw.map (AV.int .i64)⟩],[⟨Ec,1,Ek.Dx.map (AV.int .i64)⟩],[⟨.ptr KR KS 0 0,3,[.agg [.fz (E6.Code.map (AV.int .u8)),.int .i64 E6.Dr,.int .u64 E6.D8]]⟩],[⟨.ptr Dz DA 0 0,5,[.agg [v11,D6,FE,Ec,.int .i64 Ek.Dr]]⟩],(bG Du (AV.int .i64) 1 d15 Ek.Dq)]) (F:=F) hS 7 rfl [0,1,2,3,6] (by decide)
 exact hP _ JD _ F9 _ Nx _ Hm _ F2 _ hS
theorem Xo {a0:List Int} {r:(DJ)} (h:MQ a0=some r) {F:List It} {H:J} (hS:aq H (F)) {P:AV→J→Prop} (hP: ∀QE:AV,aJ QE→ ∀ER:AV,aJ ER→ ∀d19:List AV,bI d19 (r.Dq).length→ ∀v20:AV,aJ v20→ ∀J2:AV,aJ J2→ ∀H',aq H' (⟨QE,1,r.Ds.map (AV.int .i64)⟩::⟨ER,1,bg Dv d19 r.Dq⟩::⟨v20,1,r.Dw.map (AV.int .i64)⟩::⟨J2,1,r.Dx.map (AV.int .i64)⟩::((bG Du (AV.int .i64) 1 d19 r.Dq) ++ F))→P (.agg [QE,ER,v20,J2,.int .i64 r.Dr]) H'):aw C 14 [.fz (a0.map (AV.int .u8))] H P:=by
 refine Bn gC (res:=[.cell 2 26]) (n:=5) rfl rfl rfl rfl fun K0 DQ=> ?_;simp only [W,Nat.reduceSub,Nat.reduceAdd,List.replicate];unfold MQ at h;refine AW fun K1 D5=> ?_;refine Bk gC ?_;try simp only [W,Nat.reduceAdd]
 refine Bs hS rfl rfl fun Dz DA H hS=> ?_;try simp only [W]
 refine A_ D5 ?_;refine AW fun K4 Ez=> ?_;refine Bk gC ?_;try simp only [W,Nat.reduceAdd]
 refine BB h fun EO M7 h=> ?_;refine Xn M7 hS fun v6 S3 Hd LV d10 QF v11 JD D6 F9 H hS=> ?_;have hS:aq _ (⟨v6,1,EO.Ds.map (AV.int .i64)⟩::⟨Hd,1,bg Dv d10 EO.Dq⟩::⟨v11,1,EO.Dw.map (AV.int .i64)⟩::⟨D6,1,EO.Dx.map (AV.int .i64)⟩::⟨.ptr Dz DA 0 0,5,[.agg [.nil,.nil,.nil,.nil,.int .i64 0]]⟩::((bG Du (AV.int .i64) 1 d10 EO.Dq) ++ (F))):=aq.CG (bl:=[[⟨v6,1,EO.Ds.map (AV.int .i64)⟩],[⟨Hd,1,bg Dv d10 EO.Dq⟩],[⟨v11,1,EO.Dw.map (AV.int .i64)⟩],[⟨D6,1,EO.Dx.map (AV.int .i64)⟩],(bG Du (AV.int .i64) 1 d10 EO.Dq),[⟨.ptr Dz DA 0 0,5,[.agg [.nil,.nil,.nil,.nil,.int .i64 0]]⟩]]) (F:=F) hS 6 rfl [0,1,2,3,5,4] (by decide)
 try simp only [W]
 refine Bt (a:= .agg [v6,Hd,v11,D6,.int .i64 EO.Dr]) (y' := .agg [v6,Hd,v11,D6,.int .i64 EO.Dr]) 4 hS rfl rfl rfl rfl rfl (by simp only [di,List.all_cons,List.all_nil,S3.pL,LV.pL,JD.pL,F9.pL];rfl) rfl rfl fun H hS=> ?_
 try simp only [W]
 refine A_ Ez ?_;refine AZ ?_;refine Bg DQ (BU rfl rfl (hS.var 4 rfl) rfl rfl) ?_;try obtain rfl:=Option.some.inj h
 have hS:aq _ (⟨v6,1,EO.Ds.map (AV.int .i64)⟩::⟨Hd,1,bg Dv d10 EO.Dq⟩::⟨v11,1,EO.Dw.map (AV.int .i64)⟩::⟨D6,1,EO.Dx.map (AV.int .i64)⟩::((bG Du (AV.int .i64) 1 d10 EO.Dq) ++ (F))):=aq.CG (bl:=[[⟨v6,1,EO.Ds.map (AV.int .i64)⟩],[⟨Hd,1,bg Dv d10 EO.Dq⟩],[⟨v11,1,EO.Dw.map (AV.int .i64)⟩],[⟨D6,1,EO.Dx.map (AV.int .i64)⟩],[⟨.ptr Dz DA 0 0,5,[.agg [v6,Hd,v11,D6,.int .i64 EO.Dr]]⟩],(bG Du (AV.int .i64) 1 d10 EO.Dq)]) (F:=F) hS 6 rfl [0,1,2,3,5] (by decide)
 exact hP _ S3 _ LV _ QF _ JD _ F9 _ hS
theorem J3 {a0:Int} {a1:Int} {a2:Int} {r:(Bool)} (h:Ik a0 a1 a2=some r) {F:List It} {H:J} (hS:aq H (F)) {P:AV→J→Prop} (hP: ∀H',aq H' (F)→P (.bool r) H'):aw C 157 [.int .i64 a0,.int .i64 a1,.int .i64 a2] H P:=by
 refine Bn gC (res:=[.tmp 6]) (n:=15) rfl rfl rfl rfl fun K0 DQ=> ?_;simp only [W,Nat.reduceSub,Nat.reduceAdd,List.replicate];unfold Ik at h;refine AW fun K1 D5=> ?_;refine Bk gC ?_;try simp only [W,Nat.reduceAdd]
 refine A_ D5 ?_;refine AW fun K2 y7=> ?_;refine Bk gC ?_;try simp only [W,EE,Nat.reduceAdd]
 refine BW h (fun hc h=> ?_) (fun hc h=> ?_)
 ·try simp only [W,EE,reduceIte,hc]
  refine A_ y7 ?_;refine AZ ?_;refine Bh DQ rfl ?_;try obtain rfl:=Option.some.inj h
  exact hP _ hS
 ·try simp only [W,hc]
  refine A_ y7 ?_;refine AZ ?_;refine Bh DQ rfl ?_;try obtain rfl:=Option.some.inj h
  exact hP _ hS
end Go.HC
