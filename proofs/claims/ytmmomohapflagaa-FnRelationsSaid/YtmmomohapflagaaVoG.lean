import Derived.Test.YtmmomohapflagaaVoF
import Derived.Test.YtmmomohapflagaaProg
import Derived.Test.YtmmomohapflagaaVaG
import Derived.KernelRfl
open Go Go.VS
set_option maxRecDepth 8000
set_option maxHeartbeats 4000000
namespace Go.EG
def C_ (x:Span):AV:= .agg [.int .i64 x.C9,.int .i64 x.To]
def Kf (x:Df):AV:= .agg [.fz (x.Code.map (AV.int .u8)),.int .i64 x.At,.int .u64 x.Du]
def E:aM:=fun t=>match t with
 |3=>some {sz:=1,agg:=false,zero:=[AV.int IntKind.i64 0],bytes:=8,au:=UD.it IntKind.i64,j9:=true}
 |4=>some {sz:=1,agg:=false,zero:=[AV.bool false],bytes:=1,au:=UD.bl,j9:=true}
 |5=>some {sz:=1,agg:=false,zero:=[AV.int IntKind.u8 0],bytes:=1,au:=UD.it IntKind.u8,j9:=true}
 |22=>some {sz:=1,agg:=false,zero:=[AV.nil],bytes:=24,au:=UD.sl 5,j9:=true}
 |23=>some {sz:=1,agg:=false,zero:=[AV.nil],bytes:=24,au:=UD.sl 3,j9:=true}
 |104=>some {sz:=2,agg:=true,zero:=[AV.int IntKind.i64 0,AV.int IntKind.i64 0],bytes:=16,au:=UD.st [(0,3),(1,3)],j9:=true}
 |108=>some {sz:=1,agg:=false,zero:=[AV.nil],bytes:=24,au:=UD.sl 104,j9:=true}
 |163=>some {sz:=1,agg:=false,zero:=[AV.dr],bytes:=8,au:=UD.pt,j9:=true}
 |164=>some {sz:=1,agg:=false,zero:=[AV.int IntKind.u64 0],bytes:=8,au:=UD.it IntKind.u64,j9:=true}
 |166=>some {sz:=3,agg:=true,zero:=[AV.nil,AV.int IntKind.i64 0,AV.int IntKind.u64 0],bytes:=40,au:=UD.st [(0,22),(1,3),(2,164)],j9:=true}
 |209=>some {sz:=1,agg:=false,zero:=[AV.undef],bytes:=8,au:=UD.ot,j9:=true}
 |210=>some {sz:=1,agg:=false,zero:=[AV.undef],bytes:=8,au:=UD.ot,j9:=true}
 |211=>some {sz:=8,agg:=true,zero:=[AV.int IntKind.i64 0,AV.int IntKind.i64 0,AV.int IntKind.i64 0,AV.int IntKind.i64 0,AV.int IntKind.i64 0,AV.int IntKind.i64 0,AV.int IntKind.i64 0,AV.int IntKind.i64 0],bytes:=64,au:=UD.ar 8 3,j9:=true}
 |_=>none
def gb:FuncId→kd:=fun f=>match f with
 |10=>{cb:=[[.sc]],blocks:=[(0,[1,7,11,12,13,14,15])],fA:=[(6,[],some [1,5,6,7,8,58]),(21,[],some [1,7,11,12,13,14,15,16]),(22,[],some [1,133])],fz:=[(10,[(4,[([68],[.sl [.sc,.sc]]),([70],[.sl [.sc,.sc]])])])],wC:=[(59,[1]),(76,[1,7,11,12,13,14,15]),(79,[1,7,11,12,13,14,15]),(84,[1,7,11,12,13,14,15]),(89,[1,7,11,12,13,14,15])]}
 |98=>{cb:=[[.sc,.sc],[.sc,.sc]],nl:=[(3,[4,7],[]),(5,[4,7],[]),(7,[2,3,4],[]),(8,[2,3],[])],f_:=[(7,[0,2,1,3,4])]}
 |99=>{cb:=[[.sc],[.sc]],fA:=[(1,[],some [2,3,14])]}
 |100=>{cb:=[[.sc],[.sc]],fA:=[(1,[],some [2,3,15])]}
 |101=>{cb:=[[.sl [.sc,.sc]],[.sc]],fA:=[(1,[],some [0,1,13]),(2,[([4],[.sl [.sc,.sc]])],none)],fz:=[(3,[(3,[([16],[.sl [.sc,.sc]])])])]}
 |102=>{cb:=[[.sl [.sc,.sc]],[.sc]]}
 |103=>{cb:=[[.sc],[.sc]]}
 |104=>{cb:=[[.sc],[.sc]]}
 |105=>{cb:=[[.sl [.sc,.sc]]]}
 |106=>{cb:=[[.sc],[.sc]]}
 |107=>{cb:=[[.sc],[.sc]]}
 |114=>{cb:=[[.sc]],loops:=[(0,{bJ:=[0,5,6,7]})],blocks:=[(0,[0])],fA:=[(4,[],some [0,5,6,7,29])]}
 |162=>{cb:=[[.sc]],wC:=[(11,[1,5])]}
 |163=>{cb:=[[.sc]]}
 |188=>{cb:=[[.sc]]}
 |232=>{cb:=[[.sc,.sc]],fz:=[(2,[(2,[([7],[.sl [.sc]])]),(5,[([10],[.sl [.sc]])])])]}
 |233=>{cb:=[[.sc]]}
 |234=>{cb:=[[.sc]],fA:=[(7,[],some [2,3,21]),(9,[],some [2,3,34]),(11,[],some [2,3,47]),(13,[],some [60])]}
 |235=>{cb:=[[.sc]]}
 |236=>{cb:=[[.sc]],fA:=[(7,[],some [2,3,21]),(9,[],some [2,3,34]),(11,[],some [2,3,47]),(13,[],some [60])]}
 |237=>{cb:=[[.sc]],loops:=[(0,{bJ:=[0,8,9,10]})],blocks:=[(0,[])],fA:=[(6,[],some [0,8,9,10,32])]}
 |238=>{cb:=[[.sl [.sc,.sc]],[.sc]],fA:=[(2,[([2],[.sl [.sc,.sc]])],none)]}
 |239=>{cb:=[[.sl [.sc,.sc]]],loops:=[(0,{bJ:=[1,5,12,13,14]}),(2,{bJ:=[1,5,7,12,13,14,18,19,20]})],blocks:=[(3,[1,5,7,12,13,14,18,19,20]),(2,[1,5,12,13,14]),(0,[5])],nl:=[(13,[],[1])],wC:=[(39,[1,5,7,12,13,14,18,19,20])]}
 |240=>{cb:=[[.sl [.sc,.sc]]],loops:=[(0,{bJ:=[0,3,4,5]})],blocks:=[(0,[0,3])],fA:=[(11,[],some [3,42])],wC:=[(10,[0,3,4]),(42,[3])]}
 |241=>{cb:=[[.sc]]}
 |242=>{cb:=[[.sc]],loops:=[(0,{bJ:=[1,7,8,9]})],blocks:=[(0,[])],fA:=[(4,[],some [1,7,8,9,22])]}
 |243=>{cb:=[[.sl [.sc,.sc]]]}
 |244=>{cb:=[[.sc]],loops:=[(0,{bJ:=[3,6,7,8]})],blocks:=[(0,[3])]}
 |245=>{cb:=[[.sc]],loops:=[(0,{bJ:=[3,6,7,8]})],blocks:=[(0,[3])]}
 |246=>{cb:=[[.sl [.sc,.sc]]],loops:=[(0,{bJ:=[4,13,14,15]})],blocks:=[(1,[4,13,14,15]),(0,[4])],nl:=[(8,[12],[])],fA:=[(7,[],some [4,6,7,13,14,15,33])]}
 |254=>{cb:=[[.sl [.sc,.sc]]]}
 |282=>{cb:=[[.sc]],wC:=[(13,[0,3])]}
 |309=>{cb:=[[.sc]]}
 |310=>{cb:=[[.sc]]}
 |311=>{cb:=[]}
 |335=>{cb:=[[.sc]],loops:=[(0,{bJ:=[0,1,7,8]})],blocks:=[(0,[])]}
 |_=>{}
noncomputable def code:FuncId→Option Func:=fun f=>match f with
 |10=>some Go.Proofs.Try.f10
 |98=>some Go.Proofs.Try.f98
 |99=>some Go.Proofs.Try.f99
 |100=>some Go.Proofs.Try.f100
 |101=>some Go.Proofs.Try.f101
 |102=>some Go.Proofs.Try.f102
 |103=>some Go.Proofs.Try.f103
 |104=>some Go.Proofs.Try.f104
 |105=>some Go.Proofs.Try.f105
 |106=>some Go.Proofs.Try.f106
 |107=>some Go.Proofs.Try.f107
 |114=>some Go.Proofs.Try.f114
 |162=>some Go.Proofs.Try.f162
 |163=>some Go.Proofs.Try.f163
 |188=>some Go.Proofs.Try.f188
 |232=>some Go.Proofs.Try.f232
 |233=>some Go.Proofs.Try.f233
 |234=>some Go.Proofs.Try.f234
 |235=>some Go.Proofs.Try.f235
 |236=>some Go.Proofs.Try.f236
 |237=>some Go.Proofs.Try.f237
 |238=>some Go.Proofs.Try.f238
 |239=>some Go.Proofs.Try.f239
 |240=>some Go.Proofs.Try.f240
 |241=>some Go.Proofs.Try.f241
 |242=>some Go.Proofs.Try.f242
 |243=>some Go.Proofs.Try.f243
 |244=>some Go.Proofs.Try.f244
 |245=>some Go.Proofs.Try.f245
 |246=>some Go.Proofs.Try.f246
 |282=>some Go.Proofs.Try.f282
 |309=>some Go.Proofs.Try.f309
 |310=>some Go.Proofs.Try.f310
 |335=>some Go.Proofs.Try.f335
 |_=>none
def Fl:List (FuncId×Nat×Nat):=[(254,2,16)]
def gF:List (FuncId×FuncId×Nat):=[(311,312,2)]
noncomputable def C:aI:=⟨E,gb,code,ng Fl gF⟩
theorem gC:Go.VS.Good C:=C4 (ids:=Fl) (gF:=gF) rfl
theorem I8:C.E=E:=rfl
theorem E3:E 3=some {sz:=1,agg:=false,zero:=[AV.int IntKind.i64 0],bytes:=8,au:=UD.it IntKind.i64,j9:=true}:=rfl
theorem E4:E 4=some {sz:=1,agg:=false,zero:=[AV.bool false],bytes:=1,au:=UD.bl,j9:=true}:=rfl
theorem E5:E 5=some {sz:=1,agg:=false,zero:=[AV.int IntKind.u8 0],bytes:=1,au:=UD.it IntKind.u8,j9:=true}:=rfl
theorem I9:E 22=some {sz:=1,agg:=false,zero:=[AV.nil],bytes:=24,au:=UD.sl 5,j9:=true}:=rfl
theorem I_:E 23=some {sz:=1,agg:=false,zero:=[AV.nil],bytes:=24,au:=UD.sl 3,j9:=true}:=rfl
theorem Ja:E 104=some {sz:=2,agg:=true,zero:=[AV.int IntKind.i64 0,AV.int IntKind.i64 0],bytes:=16,au:=UD.st [(0,3),(1,3)],j9:=true}:=rfl
theorem Jb:E 108=some {sz:=1,agg:=false,zero:=[AV.nil],bytes:=24,au:=UD.sl 104,j9:=true}:=rfl
theorem Jc:E 163=some {sz:=1,agg:=false,zero:=[AV.dr],bytes:=8,au:=UD.pt,j9:=true}:=rfl
theorem Jd:E 164=some {sz:=1,agg:=false,zero:=[AV.int IntKind.u64 0],bytes:=8,au:=UD.it IntKind.u64,j9:=true}:=rfl
theorem Je:E 166=some {sz:=3,agg:=true,zero:=[AV.nil,AV.int IntKind.i64 0,AV.int IntKind.u64 0],bytes:=40,au:=UD.st [(0,22),(1,3),(2,164)],j9:=true}:=rfl
theorem Jf:E 209=some {sz:=1,agg:=false,zero:=[AV.undef],bytes:=8,au:=UD.ot,j9:=true}:=rfl
theorem Jg:E 210=some {sz:=1,agg:=false,zero:=[AV.undef],bytes:=8,au:=UD.ot,j9:=true}:=rfl
theorem Jh:E 211=some {sz:=8,agg:=true,zero:=[AV.int IntKind.i64 0,AV.int IntKind.i64 0,AV.int IntKind.i64 0,AV.int IntKind.i64 0,AV.int IntKind.i64 0,AV.int IntKind.i64 0,AV.int IntKind.i64 0,AV.int IntKind.i64 0],bytes:=64,au:=UD.ar 8 3,j9:=true}:=rfl
theorem EE:type_of% (And.intro @I8<|And.intro @E3<|And.intro @E4<|And.intro @E5<|And.intro @I9<|And.intro @I_<|And.intro @Ja<|And.intro @Jb<|And.intro @Jc<|And.intro @Jd<|And.intro @Je<|And.intro @Jf<|And.intro @Jg @Jh):=And.intro @I8<|And.intro @E3<|And.intro @E4<|And.intro @E5<|And.intro @I9<|And.intro @I_<|And.intro @Ja<|And.intro @Jb<|And.intro @Jc<|And.intro @Jd<|And.intro @Je<|And.intro @Jf<|And.intro @Jg @Jh
theorem Ji (x:Df):Kf x= .agg [.fz (x.Code.map (AV.int .u8)),.int .i64 x.At,.int .u64 x.Du]:=rfl
theorem Jj (x:Span):C_ x= .agg [.int .i64 x.C9,.int .i64 x.To]:=rfl
theorem EN:type_of% (And.intro @Ji<|And.intro @Jj<|And.intro @CD @uj):=And.intro @Ji<|And.intro @Jj<|And.intro @CD @uj
theorem Jk {a0:Df} {i0:Nat} {w0:Nat} {r:(Int×Df)} (h:FA a0=some r) {F:List It} {H:J} (hS:aD H (⟨.ptr i0 w0 0 0,3,[.agg [.fz (a0.Code.map (AV.int .u8)),.int .i64 a0.At,.int .u64 a0.Du]]⟩::F)) {P:AV→J→Prop} (hP: ∀H',aD H' (⟨.ptr i0 w0 0 0,3,[.agg [.fz (r.2.Code.map (AV.int .u8)),.int .i64 r.2.At,.int .u64 r.2.Du]]⟩::F)→P (.int .i64 r.1) H'):aq C 282 [.ptr i0 w0 0 0] H P:=by
 refine BC gC (res:=[.tmp 2]) (n:=62) rfl rfl rfl rfl fun K0 Da=> ?_;simp only [W,Nat.reduceSub,Nat.reduceAdd,List.replicate];unfold FA at h;refine Bh fun K1 Db=> ?_;refine Bz gC ?_;try simp only [W,Nat.reduceAdd]
 refine Bo Db ?_;refine Bh fun K2 zh=> ?_;refine Bz gC ?_;try simp only [W,Nat.reduceAdd]
 refine Bo zh ?_;refine Bh fun K3 Dp=> ?_;refine Bh fun K4 Dt=> ?_;refine BB gC (by kernel_rfl) ?_
 try simp only [W,EE,Nat.reduceAdd,Nat.reduceBEq,hS.var 0 rfl]
 refine Bo Dt ?_;obtain ⟨Kg,h,g7⟩:=Option.bind_eq_some_iff.1 h;refine BU gC (fun s H=> ∃Dh:Int,Kg=(Dh)∧s=(.ptr i0 w0 0 0::u::u:: .int .i64 Dh::u::u::u::u::u::u::u::u::u::u::u::u::u::u::u::u::u::u::u::u::u::u::u::u::u::u::u::u::u::u::u::u::u::u::u::u::u::u::u::u::u::u::u::u::u::u::u::u::u::u::u::u::u::u::u::u::u::u::[])∧aD H (⟨.ptr i0 w0 0 0,3,[.agg [.fz (a0.Code.map (AV.int .u8)),.int .i64 a0.At,.int .u64 a0.Du]]⟩::F)) (fun K8 DL=> ?_) (fun s H hq=> ?_)
 ·refine Bh fun K9 Dz=> ?_;refine Bm ?_;simp only [W];refine By h (fun hc h=> ?_) (fun hc h=> ?_)
  ·refine BB gC (by kernel_rfl) ?_
   try simp only [W,EE,Nat.reduceAdd,Nat.reduceBEq,hS.var 0 rfl]
   refine BJ rfl rfl rfl (fun _=>rfl) h fun El Hs h=> ?_;try simp only [W,EE]
   refine Bo Dz ?_;refine CH (s' :=(.ptr i0 w0 0 0::u::u:: .int .i64 (IntKind.i64.wrap El)::u::u::u::u::u::u::u::u::u::u::u::u::u::u::u::u::u::u::u::u::u::u::u::u::u::u::u::u::u::u::u::u::u::u::u::u::u::u::u::u::u::u::u::u::u::u::u::u::u::u::u::u::u::u::u::u::u::u::[])) rfl ?_
   exact BV DL ⟨_,(Option.some.inj h).symm,rfl,hS⟩
  ·refine Bj ?_;refine Bo Dz ?_;refine CH (s' :=(.ptr i0 w0 0 0::u::u:: .int .i64 0::u::u::u::u::u::u::u::u::u::u::u::u::u::u::u::u::u::u::u::u::u::u::u::u::u::u::u::u::u::u::u::u::u::u::u::u::u::u::u::u::u::u::u::u::u::u::u::u::u::u::u::u::u::u::u::u::u::u::[])) rfl ?_
   exact BV DL ⟨_,(Option.some.inj h).symm,rfl,hS⟩
 ·obtain ⟨Dh,Dc,rfl,hS⟩:=hq;obtain rfl:=Dc.symm;replace h:=g7;try dsimp only at h
  refine Bo Dp ?_;refine Bh fun E2 DW=> ?_;refine Bz gC ?_;try simp only [W,EE,Nat.reduceAdd,Nat.reduceBEq,hS.var 0 rfl]
  refine BH (a:= .int .i64 (IntKind.i64.wrap (a0.At+1))) (y' := .agg [.fz (a0.Code.map (AV.int .u8)),.int .i64 (IntKind.i64.wrap (a0.At+1)),.int .u64 a0.Du]) 0 hS rfl rfl rfl rfl rfl rfl rfl rfl fun H hS=> ?_
  try simp only [W]
  refine Bo DW ?_;refine Bh fun E6 DF=> ?_;refine Bz gC ?_;try simp only [W,EE,Nat.reduceAdd,Nat.reduceBEq,hS.var 0 rfl]
  refine BH (a:= .int .u64 (IntKind.u64.wrap ((IntKind.u64.wrap ((IntKind.u64.wrap (a0.Du*6364136223846793005))+(IntKind.u64.wrap Dh)))+1442695040888963407))) (y' := .agg [.fz (a0.Code.map (AV.int .u8)),.int .i64 (IntKind.i64.wrap (a0.At+1)),.int .u64 (IntKind.u64.wrap ((IntKind.u64.wrap ((IntKind.u64.wrap (a0.Du*6364136223846793005))+(IntKind.u64.wrap Dh)))+1442695040888963407))]) 0 hS rfl rfl rfl rfl rfl rfl rfl rfl fun H hS=> ?_
  try simp only [W]
  refine Bo DF ?_;refine Bh fun E7 D5=> ?_;refine Bh fun FX Ea=> ?_;refine BB gC (by kernel_rfl) ?_
  try simp only [W,EE,Nat.reduceAdd,Nat.reduceBEq,hS.var 0 rfl]
  refine Bo Ea ?_;refine Bm ?_;simp only [W];refine By h (fun hc h=> ?_) (fun hc h=> ?_)
  ·refine Bh fun Fm D1=> ?_;refine Bz gC ?_;try simp only [W,Nat.reduceAdd]
   refine Bo D1 ?_;refine Bk ?_;refine Bp D5 ?_;refine Bw Da rfl ?_;try obtain rfl:=Option.some.inj h
   exact hP _ hS
  ·refine Bj ?_;refine Bo D5 ?_;refine Bh fun E8 DM=> ?_;refine Bz gC ?_;try simp only [W,EE,Nat.reduceAdd,Nat.reduceBEq,hS.var 0 rfl]
   rw [BY _ _ _ rfl,Option.map_some,sG];try simp only [W,EE]
   refine Bo DM ?_;refine Bk ?_;refine Bw Da rfl ?_;try obtain rfl:=Option.some.inj h
   exact hP _ hS
theorem Eh {a0:Df} {a1:Int} {i0:Nat} {w0:Nat} {r:(Int×Df)} (h:DX a0 a1=some r) {F:List It} {H:J} (hS:aD H (⟨.ptr i0 w0 0 0,3,[.agg [.fz (a0.Code.map (AV.int .u8)),.int .i64 a0.At,.int .u64 a0.Du]]⟩::F)) {P:AV→J→Prop} (hP: ∀H',aD H' (⟨.ptr i0 w0 0 0,3,[.agg [.fz (r.2.Code.map (AV.int .u8)),.int .i64 r.2.At,.int .u64 r.2.Du]]⟩::F)→P (.int .i64 r.1) H'):aq C 162 [.ptr i0 w0 0 0,.int .i64 a1] H P:=by
 refine BC gC (res:=[.tmp 4]) (n:=20) rfl rfl rfl rfl fun K0 Da=> ?_;simp only [W,Nat.reduceSub,Nat.reduceAdd,List.replicate];unfold DX at h;refine Bh fun K1 Db=> ?_;refine Bz gC ?_;try simp only [W,Nat.reduceAdd]
 refine Bo Db ?_;refine Bh fun K2 zh=> ?_;refine Bh fun K3 Dp=> ?_;refine Bz gC ?_;try simp only [W,EE,Nat.reduceAdd]
 refine Bo Dp ?_;refine Bm ?_;simp only [W];refine By h (fun hc h=> ?_) (fun hc h=> ?_)
 ·refine Bh fun K4 Dt=> ?_;refine Bz gC ?_;try simp only [W,Nat.reduceAdd]
  refine Bo Dt ?_;refine Bk ?_;refine Bp zh ?_;refine Bw Da rfl ?_;try obtain rfl:=Option.some.inj h
  exact hP _ hS
 ·refine Bj ?_;refine Bo zh ?_;refine Bh fun K5 DN=> ?_;refine Bz gC ?_;try simp only [W,Nat.reduceAdd]
  refine BP h fun Eb EJ h=> ?_;obtain ⟨De,Dy⟩:=Eb;try dsimp only at h
  refine Jk EJ hS fun H hS=> ?_;try simp only [W]
  refine Bo DN ?_;refine Bh fun K9 Dz=> ?_;refine Bh fun GL Eu=> ?_;refine Bz gC ?_;try simp only [W,EE,Nat.reduceAdd]
  refine Bo Eu ?_;obtain ⟨Kh,h,g16⟩:=Option.bind_eq_some_iff.1 h;refine BU gC (fun s H=> ∃Gb:Int,∃Ew:List Int,∃DS:Int,∃D8:Int,Kh=(Gb,Ew,DS,D8)∧s=[u,.int .i64 a1,u,u,u,.int .i64 Gb,u,u,u,u,u,u,u,u,u,u,u,u,u,u]∧aD H (⟨.ptr i0 w0 0 0,3,[.agg [.fz (Ew.map (AV.int .u8)),.int .i64 DS,.int .u64 D8]]⟩::F)) (fun EP DG=> ?_) (fun s H hq=> ?_)
  ·refine Bh fun E9 DO=> ?_;refine Bm ?_;simp only [W];refine By h (fun hc h=> ?_) (fun hc h=> ?_)
   ·refine Bz gC ?_;try simp only [W,EE,Nat.reduceAdd]
    refine BP h fun Ee Jl h=> ?_;obtain ⟨Et,Dd⟩:=Ee;try dsimp only at h
    refine Jk Jl hS fun H hS=> ?_;try simp only [W,EE]
    refine Bo DO ?_;refine Bn ?_;exact BV DG ⟨_,_,_,_,(Option.some.inj h).symm,rfl,hS⟩
   ·refine Bj ?_;refine Bo DO ?_;refine Bn ?_;exact BV DG ⟨_,_,_,_,(Option.some.inj h).symm,rfl,hS⟩
  ·obtain ⟨Gb,Ew,DS,D8,rfl,rfl,hS⟩:=hq;replace h:=g16;try dsimp only at h
   refine Bo Dz ?_;refine Bh fun Jm GM=> ?_;refine Bz gC ?_;try simp only [W,EE,Nat.reduceAdd]
   refine w_num _ h fun EU N9 h=> ?_;try simp only [W]
   refine Bo GM ?_;refine Bk ?_;refine Bw Da rfl ?_;try obtain rfl:=Option.some.inj h
   exact hP _ hS
theorem Ht {a0:Df} {a1:Int} {i0:Nat} {w0:Nat} {r:(Bool×Df)} (h:EO a0 a1=some r) {F:List It} {H:J} (hS:aD H (⟨.ptr i0 w0 0 0,3,[.agg [.fz (a0.Code.map (AV.int .u8)),.int .i64 a0.At,.int .u64 a0.Du]]⟩::F)) {P:AV→J→Prop} (hP: ∀H',aD H' (⟨.ptr i0 w0 0 0,3,[.agg [.fz (r.2.Code.map (AV.int .u8)),.int .i64 r.2.At,.int .u64 r.2.Du]]⟩::F)→P (.bool r.1) H'):aq C 188 [.ptr i0 w0 0 0,.int .i64 a1] H P:=by
 refine BC gC (res:=[.tmp 4]) (n:=9) rfl rfl rfl rfl fun K0 Da=> ?_;simp only [W,Nat.reduceSub,Nat.reduceAdd,List.replicate];unfold EO at h;refine Bh fun K1 Db=> ?_;refine Bz gC ?_;try simp only [W,Nat.reduceAdd]
 refine Bo Db ?_;refine Bh fun K2 zh=> ?_;refine Bz gC ?_;try simp only [W,Nat.reduceAdd]
 refine BP h fun b3 kB h=> ?_;obtain ⟨DY,Ey⟩:=b3;try dsimp only at h
 refine Eh kB hS fun H hS=> ?_;try simp only [W,EE]
 refine Bo zh ?_;refine Bk ?_;refine Bw Da rfl ?_;try obtain rfl:=Option.some.inj h
 exact hP _ hS
theorem Jn {a0:Df} {a1:List Int} {i0:Nat} {w0:Nat} {r:(Int×Df)} (h:Fe a0 a1=some r) {F:List It} {H:J} (hS:aD H (⟨.ptr i0 w0 0 0,3,[.agg [.fz (a0.Code.map (AV.int .u8)),.int .i64 a0.At,.int .u64 a0.Du]]⟩::F)) {P:AV→J→Prop} (hP: ∀H',aD H' (⟨.ptr i0 w0 0 0,3,[.agg [.fz (r.2.Code.map (AV.int .u8)),.int .i64 r.2.At,.int .u64 r.2.Du]]⟩::F)→P (.int .i64 r.1) H'):aq C 163 [.ptr i0 w0 0 0,.fz (a1.map (AV.int .i64))] H P:=by
 refine BC gC (res:=[.tmp 4]) (n:=12) rfl rfl rfl rfl fun K0 Da=> ?_;simp only [W,Nat.reduceSub,Nat.reduceAdd,List.replicate];unfold Fe at h;refine Bh fun K1 Db=> ?_;refine Bz gC ?_;try simp only [W,Nat.reduceAdd]
 refine Bo Db ?_;refine Bh fun K2 zh=> ?_;refine Bz gC ?_;try simp only [W,EE,Nat.reduceAdd]
 refine BP h fun b3 kB h=> ?_;obtain ⟨DY,Ey⟩:=b3;try dsimp only at h
 refine Eh kB hS fun H hS=> ?_;try simp only [W,EE]
 refine BJ rfl rfl rfl (fun _=>rfl) h fun Eb EJ h=> ?_;try simp only [W,EE]
 refine Bo zh ?_;refine Bk ?_;refine Bw Da rfl ?_;try obtain rfl:=Option.some.inj h
 exact hP _ hS
theorem Ki {a0:Df} {i0:Nat} {w0:Nat} {r:(Span×Df)} (h:Gc a0=some r) {F:List It} {H:J} (hS:aD H (⟨.ptr i0 w0 0 0,3,[.agg [.fz (a0.Code.map (AV.int .u8)),.int .i64 a0.At,.int .u64 a0.Du]]⟩::F)) {P:AV→J→Prop} (hP: ∀H',aD H' (⟨.ptr i0 w0 0 0,3,[.agg [.fz (r.2.Code.map (AV.int .u8)),.int .i64 r.2.At,.int .u64 r.2.Du]]⟩::F)→P (.agg [.int .i64 r.1.C9,.int .i64 r.1.To]) H'):aq C 232 [.ptr i0 w0 0 0] H P:=by
 refine BC gC (res:=[.cell 2 104]) (n:=22) rfl rfl rfl rfl fun K0 Da=> ?_;simp only [W,Nat.reduceSub,Nat.reduceAdd,List.replicate];unfold Gc at h;refine Bh fun K1 Db=> ?_;refine Bz gC ?_;try simp only [W,Nat.reduceAdd]
 refine BG hS rfl rfl fun Dk Dl H hS=> ?_;try simp only [W]
 refine Bo Db ?_;refine Bh fun K4 Dt=> ?_;refine Bh fun K5 DN=> ?_;refine Bz gC ?_;try simp only [W,Nat.reduceAdd]
 refine BP h fun Eb EJ h=> ?_;obtain ⟨De,Dy⟩:=Eb;try dsimp only at h
 refine Ht EJ (hS.B9 2 [1,0] (by decide)) fun H hS=> ?_
 try simp only [W]
 refine Bo DN ?_;refine Bm ?_;simp only [W];refine By h (fun hc h=> ?_) (fun hc h=> ?_)
 ·refine Bh fun K9 Dz=> ?_;refine BA (fz:=[(2,[([7],[.sl [.sc]])]),(5,[([10],[.sl [.sc]])])]) gC ?_;try simp only [W,Nat.reduceAdd,Nat.reduceBEq]
  refine BO (el:=([-1,5,999999]:List Int).map (AV.int .i64)) hS rfl rfl rfl rfl rfl rfl rfl fun v10 H H4 hS=> ?_;try simp only [W,Nat.reduceAdd]
  refine B6 0 hS rfl H4 rfl (fun _ _=>by simp [aY,aP,du]) (fun _=>rfl) fun H ry hS=> ?_
  try simp only [W]
  refine BP h fun Ff Kj h=> ?_;obtain ⟨Ez,Em⟩:=Ff;try dsimp only at h
  refine Jn Kj hS fun H hS=> ?_;try simp only [W,Nat.reduceAdd,Nat.reduceBEq]
  refine BO (el:=([0,5,1000000,1000001]:List Int).map (AV.int .i64)) hS rfl rfl rfl rfl rfl rfl rfl fun FY H GN hS=> ?_;try simp only [W,Nat.reduceAdd,Nat.reduceBEq]
  refine B6 0 hS rfl GN rfl (fun _ _=>by simp [aY,aP,du]) (fun _=>rfl) fun H ry hS=> ?_
  try simp only [W]
  refine BP h fun EH H7 h=> ?_;obtain ⟨Dj,Ee⟩:=EH;try dsimp only at h
  refine Jn H7 hS fun H hS=> ?_;try simp only [W,EE,Nat.reduceAdd,Nat.reduceBEq]
  refine Cc rfl rfl rfl rfl rfl ?_;try simp only [W,Nat.reduceAdd,Nat.reduceBEq]
  refine BH (a:= .agg [.int .i64 Ez,.int .i64 Dj]) (y' := .agg [.int .i64 Ez,.int .i64 Dj]) 1 hS rfl rfl rfl rfl rfl rfl rfl rfl fun H hS=> ?_
  try simp only [W,Nat.reduceAdd]
  refine Bo Dz ?_;refine Bk ?_;refine Bp Dt ?_;refine Bv Da (Ca rfl rfl (hS.var 1 rfl) rfl rfl) ?_;try obtain rfl:=Option.some.inj h
  exact hP _ (hS.B9 2 [0] (by decide))
 ·refine Bj ?_;refine Bo Dt ?_;refine Bh fun EQ DR=> ?_;refine Bz gC ?_;try simp only [W,Nat.reduceAdd]
  refine BP h fun Dd Hu h=> ?_;obtain ⟨DC,Gd⟩:=Dd;try dsimp only at h
  refine Eh Hu hS fun H hS=> ?_;try simp only [W]
  refine Bo DR ?_;refine Bh fun H8 Fo=> ?_;refine Bz gC ?_;try simp only [W,EE,Nat.reduceAdd]
  refine BP h fun He Kk h=> ?_;obtain ⟨EA,D_⟩:=He;try dsimp only at h
  refine Eh Kk hS fun H hS=> ?_;try simp only [W,EE]
  refine Cc rfl rfl rfl rfl rfl ?_;try simp only [W]
  refine BH (a:= .agg [.int .i64 DC,.int .i64 (IntKind.i64.wrap ((IntKind.i64.wrap (DC+1))+EA))]) (y' := .agg [.int .i64 DC,.int .i64 (IntKind.i64.wrap ((IntKind.i64.wrap (DC+1))+EA))]) 1 hS rfl rfl rfl rfl rfl rfl rfl rfl fun H hS=> ?_
  try simp only [W]
  refine Bo Fo ?_;refine Bk ?_;refine Bv Da (Ca rfl rfl (hS.var 1 rfl) rfl rfl) ?_;try obtain rfl:=Option.some.inj h
  exact hP _ (hS.B9 2 [0] (by decide))
theorem Kl {a0:List Int} {r:(Span×Span)} (h:Ge a0=some r) {F:List It} {H:J} (hS:aD H (F)) {P:AV→J→Prop} (hP: ∀H',aD H' (F)→P (.aB [.agg [.int .i64 r.1.C9,.int .i64 r.1.To],.agg [.int .i64 r.2.C9,.int .i64 r.2.To]]) H'):aq C 98 [.fz (a0.map (AV.int .u8))] H P:=by
 refine BC gC (res:=[.cell 2 104,.cell 3 104]) (n:=37) rfl rfl rfl rfl fun K0 Da=> ?_;simp only [W,Nat.reduceSub,Nat.reduceAdd,List.replicate];unfold Ge at h;refine Bh fun K1 Db=> ?_;refine Bz gC ?_;try simp only [W,Nat.reduceAdd]
 refine BG hS rfl rfl fun Dk Dl H hS=> ?_;try simp only [W]
 refine BG hS rfl rfl fun Dr Ds H hS=> ?_;try simp only [W]
 refine Bo Db ?_;refine Bh fun K6 Di=> ?_;refine Bz gC ?_;try simp only [W,EE,Nat.reduceAdd]
 refine Cc rfl rfl rfl rfl rfl ?_;try simp only [W]
 refine BF hS rfl rfl rfl rfl fun N_ Oa H hS=> ?_;try simp only [W]
 refine Bo Di ?_;refine Bh fun K9 Dz=> ?_;refine Bz gC ?_;try simp only [W,Nat.reduceAdd]
 refine BP h fun El Hs h=> ?_;obtain ⟨DT,Ff⟩:=El;try dsimp only at h
 refine Eh Hs hS fun H hS=> ?_;try simp only [W,EE]
 refine Cc rfl rfl rfl rfl rfl ?_;try simp only [W]
 refine BG hS rfl rfl fun Ob Oc H hS=> ?_;try simp only [W]
 refine BH (a:= .agg [.int .i64 DT,.int .i64 0]) (y' := .agg [.int .i64 DT,.int .i64 0]) 0 hS rfl rfl rfl rfl rfl rfl rfl rfl fun H hS=> ?_
 try simp only [W]
 refine Bo Dz ?_;refine Bh fun Fm D1=> ?_;refine Cd gC [(4,[0,1,2]),(7,[])] (by kernel_rfl) rfl (by kernel_rfl) ?_
 try simp only [W,EE,reduceIte,Nat.reduceAdd,Nat.reduceBEq,hS.var 0 rfl,iH,lr,Nat.reduceEqDiff]
 refine BP h fun EY Km h=> ?_;obtain ⟨EH,Dj⟩:=EY;try dsimp only at h
 refine Eh Km (hS.B9 4 [1,0,2,3] (by decide)) fun H hS=> ?_
 refine Ce ?_;refine Cf (by first|rfl|(simp [aL,W,EE,AV.cells,hS.var 1 rfl];done)) ?_
 refine Cf (by first|rfl|(simp [aL,W,EE,bL,iJ,aE,AV.cells,hS.var 1 rfl];done)) ?_
 refine Cf (by first|rfl|(simp [aL,W,EE,EN,bL,iJ,aE,AV.cells,hS.var 0 rfl,hS.var 1 rfl,hS.var 2 rfl,hS.var 3 rfl];done)) ?_
 refine Cg ?_;try simp only [W,EE,Nat.reduceAdd,Nat.reduceBEq,hS.var 1 rfl]
 refine BH (a:= .int .i64 (IntKind.i64.wrap ((IntKind.i64.wrap (DT+1))+EH))) (y' := .agg [.int .i64 DT,.int .i64 (IntKind.i64.wrap ((IntKind.i64.wrap (DT+1))+EH))]) 1 hS rfl rfl rfl rfl rfl rfl rfl rfl fun H hS=> ?_
 try simp only [W]
 refine Bo D1 ?_;refine Bh fun EK DA=> ?_;refine Bz gC ?_;try simp only [W,Nat.reduceAdd]
 refine BP h fun Et GP h=> ?_;obtain ⟨Dd,DC⟩:=Et;try dsimp only at h
 refine Eh GP hS fun H hS=> ?_;try simp only [W,EE]
 refine Cc rfl rfl rfl rfl rfl ?_;try simp only [W]
 refine BG hS rfl rfl fun Od Oe H hS=> ?_;try simp only [W]
 refine BH (a:= .agg [.int .i64 Dd,.int .i64 0]) (y' := .agg [.int .i64 Dd,.int .i64 0]) 0 hS rfl rfl rfl rfl rfl rfl rfl rfl fun H hS=> ?_
 try simp only [W]
 refine Bo DA ?_;refine Bh fun F0 D2=> ?_;refine Cd gC [(4,[0,1,2]),(7,[])] (by kernel_rfl) rfl (by kernel_rfl) ?_
 try simp only [W,EE,reduceIte,Nat.reduceAdd,Nat.reduceBEq,hS.var 0 rfl,iH,lr,Nat.reduceEqDiff]
 refine BP h fun EA Kn h=> ?_;obtain ⟨D_,Gf⟩:=EA;try dsimp only at h
 refine Eh Kn (hS.B9 5 [1,0,2,3,4] (by decide)) fun H hS=> ?_
 refine Ce ?_;refine Cf (by first|rfl|(simp [aL,W,EE,AV.cells,hS.var 1 rfl];done)) ?_
 refine Cf (by first|rfl|(simp [aL,W,EE,bL,iJ,aE,AV.cells,hS.var 1 rfl];done)) ?_
 refine Cf (by first|rfl|(simp [aL,W,EE,EN,bL,iJ,aE,AV.cells,hS.var 0 rfl,hS.var 1 rfl,hS.var 2 rfl,hS.var 3 rfl,hS.var 4 rfl];done)) ?_
 refine Cg ?_;try simp only [W,EE,Nat.reduceAdd,Nat.reduceBEq,hS.var 1 rfl]
 refine BH (a:= .int .i64 (IntKind.i64.wrap ((IntKind.i64.wrap (Dd+1))+D_))) (y' := .agg [.int .i64 Dd,.int .i64 (IntKind.i64.wrap ((IntKind.i64.wrap (Dd+1))+D_))]) 1 hS rfl rfl rfl rfl rfl rfl rfl rfl fun H hS=> ?_
 try simp only [W]
 refine Bo D2 ?_;refine Bh fun H9 EC=> ?_;refine Bh fun Ko H_=> ?_;refine Bz gC ?_;try simp only [W,Nat.reduceAdd]
 refine BP h fun FE Jo h=> ?_;obtain ⟨IW,IX⟩:=FE;try dsimp only at h
 refine Ht Jo hS fun H hS=> ?_;try simp only [W]
 refine Bo H_ ?_;refine Bm ?_;simp only [W];refine By h (fun hc h=> ?_) (fun hc h=> ?_)
 ·refine Bh fun GQ Eo=> ?_;refine Cd gC [(2,[1]),(3,[1]),(4,[])] (by kernel_rfl) rfl (by kernel_rfl) ?_
  try simp only [W,EE,reduceIte,Nat.reduceAdd,Nat.reduceLeDiff,hS.var 1 rfl,iH,lr,Nat.reduceEqDiff,Ch,Ci,Cj,Ck,Cl,Nat.reduceEqDiff]
  refine BP h fun D4 Ia h=> ?_;obtain ⟨EV,DP⟩:=D4;try dsimp only at h
  refine Ki Ia hS fun H hS=> ?_;refine Ce ?_;refine Cf (by first|rfl|(simp [aL,W,EE,bL,iJ,aE,AV.cells,Cj,hS.var 1 rfl];done)) ?_
  refine Cg ?_;try simp only [W]
  refine BH (a:= .agg [.int .i64 EV.C9,.int .i64 EV.To]) (y' := .agg [.int .i64 EV.C9,.int .i64 EV.To]) 4 hS rfl rfl rfl rfl rfl rfl rfl rfl fun H hS=> ?_
  refine Ce ?_;refine Cf (by first|rfl|(simp [aL,W,EE,bL,iJ,aE,AV.cells,Cj,hS.var 1 rfl];done)) ?_
  refine Cg ?_;try simp only [W]
  refine BH (a:= .agg [.int .i64 Dd,.int .i64 (IntKind.i64.wrap ((IntKind.i64.wrap (Dd+1))+D_))]) (y' := .agg [.int .i64 Dd,.int .i64 (IntKind.i64.wrap ((IntKind.i64.wrap (Dd+1))+D_))]) 3 hS rfl rfl rfl rfl rfl rfl rfl rfl fun H hS=> ?_
  try simp only [W]
  refine Bo Eo ?_;refine Bk ?_;refine Bp EC ?_;refine Bv Da (Ca rfl rfl (hS.var 4 rfl) rfl (Ca rfl rfl (hS.var 3 rfl) rfl rfl)) ?_;try obtain rfl:=Option.some.inj h
  exact hP _ (hS.B9 5 [] (by decide))
 ·refine Bj ?_;refine Bo EC ?_;refine Bh fun Kp Hv=> ?_;refine Cd gC [(2,[1]),(3,[])] (by kernel_rfl) rfl (by kernel_rfl) ?_
  try simp only [W,EE,reduceIte,Nat.reduceAdd,Nat.reduceLeDiff,hS.var 2 rfl,hS.var 1 rfl,iH,lr,Nat.reduceEqDiff]
  refine BH (a:= .agg [.int .i64 DT,.int .i64 (IntKind.i64.wrap ((IntKind.i64.wrap (DT+1))+EH))]) (y' := .agg [.int .i64 DT,.int .i64 (IntKind.i64.wrap ((IntKind.i64.wrap (DT+1))+EH))]) 4 hS rfl rfl rfl rfl rfl rfl rfl rfl fun H hS=> ?_
  refine Ce ?_;refine Cf (by first|rfl|(simp [aL,W,EE,bL,iJ,aE,AV.cells,hS.var 1 rfl];done)) ?_
  refine Cg ?_;try simp only [W]
  refine BH (a:= .agg [.int .i64 Dd,.int .i64 (IntKind.i64.wrap ((IntKind.i64.wrap (Dd+1))+D_))]) (y' := .agg [.int .i64 Dd,.int .i64 (IntKind.i64.wrap ((IntKind.i64.wrap (Dd+1))+D_))]) 3 hS rfl rfl rfl rfl rfl rfl rfl rfl fun H hS=> ?_
  try simp only [W]
  refine Bo Hv ?_;refine Bk ?_;refine Bv Da (Ca rfl rfl (hS.var 4 rfl) rfl (Ca rfl rfl (hS.var 3 rfl) rfl rfl)) ?_;try obtain rfl:=Option.some.inj h
  exact hP _ (hS.B9 5 [] (by decide))
theorem Ib {a0:Span} {r:(Bool)} (h:Fg a0=some r) {F:List It} {H:J} (hS:aD H (F)) {P:AV→J→Prop} (hP: ∀H',aD H' (F)→P (.bool r) H'):aq C 233 [.agg [.int .i64 a0.C9,.int .i64 a0.To]] H P:=by
 refine BC gC (res:=[.tmp 2]) (n:=18) rfl rfl rfl rfl fun K0 Da=> ?_;simp only [W,Nat.reduceSub,Nat.reduceAdd,List.replicate];unfold Fg at h;refine Bh fun K1 Db=> ?_;refine Bz gC ?_;try simp only [W,Nat.reduceAdd]
 refine BF hS rfl rfl rfl rfl fun Dk Dl H hS=> ?_;try simp only [W]
 refine Bo Db ?_;refine Bh fun K4 Dt=> ?_;refine Bz gC ?_;try simp only [W,EE,Nat.reduceAdd,Nat.reduceBEq,hS.var 0 rfl]
 refine Cb h (fun hc h=> ?_) (fun hc h=> ?_)
 ·try simp only [W,EE,reduceIte,Nat.reduceAdd,Nat.reduceBEq,hS.var 0 rfl,hc]
  refine Cb h (fun hc h=> ?_) (fun hc h=> ?_)
  ·try simp only [W,EE,reduceIte,Nat.reduceAdd,Nat.reduceBEq,hS.var 0 rfl,hc]
   refine Bo Dt ?_;refine Bk ?_;refine Bw Da rfl ?_;try obtain rfl:=Option.some.inj h
   exact hP _ (hS.B9 1 [] (by decide))
  ·try simp only [W,hc]
   refine Bo Dt ?_;refine Bk ?_;refine Bw Da rfl ?_;try obtain rfl:=Option.some.inj h
   exact hP _ (hS.B9 1 [] (by decide))
 ·try simp only [W,hc]
  refine Bo Dt ?_;refine Bk ?_;refine Bw Da rfl ?_;try obtain rfl:=Option.some.inj h
  exact hP _ (hS.B9 1 [] (by decide))
theorem Jp {a0:Span} {a1:Span} {r:(Int)} (h:FB a0 a1=some r) {F:List It} {H:J} (hS:aD H (F)) {P:AV→J→Prop} (hP: ∀H',aD H' (F)→P (.int .i64 r) H'):aq C 234 [.agg [.int .i64 a0.C9,.int .i64 a0.To],.agg [.int .i64 a1.C9,.int .i64 a1.To]] H P:=by
 refine BC gC (res:=[.tmp 4]) (n:=80) rfl rfl rfl rfl fun K0 Da=> ?_;simp only [W,Nat.reduceSub,Nat.reduceAdd,List.replicate];unfold FB at h;refine Bh fun K1 Db=> ?_;refine Bz gC ?_;try simp only [W,Nat.reduceAdd]
 refine BF hS rfl rfl rfl rfl fun Dk Dl H hS=> ?_;try simp only [W]
 refine BF hS rfl rfl rfl rfl fun Dr Ds H hS=> ?_;try simp only [W]
 refine Bo Db ?_;refine Bh fun K6 Di=> ?_;refine Bi fun K7 Dn=> ?_;refine Bh fun K8 DL=> ?_;refine Bz gC ?_;try simp only [W,EE,Nat.reduceAdd,Nat.reduceBEq,hS.var 1 rfl,hS.var 0 rfl]
 refine Bo DL ?_;refine Bm ?_;simp only [W];refine By h (fun hc h=> ?_) (fun hc h=> ?_)
 ·refine Bh fun K9 Dz=> ?_;refine Bz gC ?_;try simp only [W,Nat.reduceAdd]
  refine Bo Dz ?_;refine Bk ?_;refine Bu Dn ?_;refine Bp Di ?_;refine Bw Da rfl ?_;try obtain rfl:=Option.some.inj h
  exact hP _ (hS.B9 2 [] (by decide))
 ·refine Bh fun GL Eu=> ?_;refine Bz gC ?_;try simp only [W,EE,Nat.reduceAdd,Nat.reduceBEq,hS.var 1 rfl,hS.var 0 rfl]
  refine Bo Eu ?_;refine Bm ?_;simp only [W];refine By h (fun hc h=> ?_) (fun hc h=> ?_)
  ·refine Bh fun E2 DW=> ?_;refine Bz gC ?_;try simp only [W,Nat.reduceAdd]
   refine Bo DW ?_;refine Bk ?_;refine Bu Dn ?_;refine Bp Di ?_;refine Bw Da rfl ?_;try obtain rfl:=Option.some.inj h
   exact hP _ (hS.B9 2 [] (by decide))
  ·refine Bh fun E6 DF=> ?_;refine Bz gC ?_;try simp only [W,EE,reduceIte,Nat.reduceAdd,Nat.reduceLeDiff,Bool.false_eq_true,hS.var 1 rfl,hS.var 0 rfl]
   refine Bo DF ?_;refine Bm ?_;simp only [W];refine By h (fun hc h=> ?_) (fun hc h=> ?_)
   ·refine Bh fun E7 D5=> ?_;refine Bz gC ?_;try simp only [W,Nat.reduceAdd]
    refine Bo D5 ?_;refine Bk ?_;refine Bu Dn ?_;refine Bp Di ?_;refine Bw Da rfl ?_;try obtain rfl:=Option.some.inj h
    exact hP _ (hS.B9 2 [] (by decide))
   ·refine Bh fun FX Ea=> ?_;obtain ⟨Fp,h,g17⟩:=Option.bind_eq_some_iff.1 h;refine BU gC (fun s H=> ∃D9:Bool,Fp=(D9)∧s=(u::u:: .ptr Dk Dl 0 0:: .ptr Dr Ds 0 0::u::u::u::u::u::u::u::u::u::u::u::u::u::u::u::u::u:: .bool D9::u::u::u::u::u::u::u::u::u::u::u::u::u::u::u::u::u::u::u::u::u::u::u::u::u::u::u::u::u::u::u::u::u::u::u::u::u::u::u::u::u::u::u::u::u::u::u::u::u::u::u::u::u::u::u::u::u::u::[])∧aD H (⟨.ptr Dk Dl 0 0,2,[.agg [.int .i64 a0.C9,.int .i64 a0.To]]⟩::⟨.ptr Dr Ds 0 0,2,[.agg [.int .i64 a1.C9,.int .i64 a1.To]]⟩::F)) (fun E9 DO=> ?_) (fun s H hq=> ?_)
    ·refine Bh fun EK DA=> ?_;refine Bz gC ?_;try simp only [W,EE,Nat.reduceAdd,Nat.reduceBEq,hS.var 1 rfl,hS.var 0 rfl]
     refine Cb h (fun hc h=> ?_) (fun hc h=> ?_)
     ·try simp only [W,EE,reduceIte,Nat.reduceAdd,Nat.reduceBEq,hS.var 1 rfl,hS.var 0 rfl,hc]
      refine Bo DA ?_;refine CH (s' :=(u::u:: .ptr Dk Dl 0 0:: .ptr Dr Ds 0 0::u::u::u::u::u::u::u::u::u::u::u::u::u::u::u::u::u:: .bool (decide (a0.To<a1.To))::u::u::u::u::u::u::u::u::u::u::u::u::u::u::u::u::u::u::u::u::u::u::u::u::u::u::u::u::u::u::u::u::u::u::u::u::u::u::u::u::u::u::u::u::u::u::u::u::u::u::u::u::u::u::u::u::u::u::[])) rfl ?_
      exact BV DO ⟨_,(Option.some.inj h).symm,rfl,(hS.B9 2 [1,0] (by decide))⟩
     ·try simp only [W,hc]
      refine Bo DA ?_;refine CH (s' :=(u::u:: .ptr Dk Dl 0 0:: .ptr Dr Ds 0 0::u::u::u::u::u::u::u::u::u::u::u::u::u::u::u::u::u:: .bool false::u::u::u::u::u::u::u::u::u::u::u::u::u::u::u::u::u::u::u::u::u::u::u::u::u::u::u::u::u::u::u::u::u::u::u::u::u::u::u::u::u::u::u::u::u::u::u::u::u::u::u::u::u::u::u::u::u::u::[])) rfl ?_
      exact BV DO ⟨_,(Option.some.inj h).symm,rfl,(hS.B9 2 [1,0] (by decide))⟩
    ·obtain ⟨D9,Dc,rfl,hS⟩:=hq;obtain rfl:=Dc.symm;replace h:=g17;try dsimp only at h
     refine Bo Ea ?_;refine Bm ?_;simp only [W];refine By h (fun hc h=> ?_) (fun hc h=> ?_)
     ·refine Bh fun EQ DR=> ?_;refine Bz gC ?_;try simp only [W,Nat.reduceAdd]
      refine Bo DR ?_;refine Bk ?_;refine Bu Dn ?_;refine Bp Di ?_;refine Bw Da rfl ?_;try obtain rfl:=Option.some.inj h
      exact hP _ (hS.B9 2 [] (by decide))
     ·refine Bh fun E_ D6=> ?_;obtain ⟨Fq,h,g24⟩:=Option.bind_eq_some_iff.1 h;refine BU gC (fun s H=> ∃DE:Bool,Fq=(DE)∧s=(u::u:: .ptr Dk Dl 0 0:: .ptr Dr Ds 0 0::u::u::u::u::u::u::u::u::u::u::u::u::u::u::u::u::u::u::u::u::u::u::u::u::u::u::u::u::u::u:: .bool DE::u::u::u::u::u::u::u::u::u::u::u::u::u::u::u::u::u::u::u::u::u::u::u::u::u::u::u::u::u::u::u::u::u::u::u::u::u::u::u::u::u::u::u::u::u::[])∧aD H (⟨.ptr Dk Dl 0 0,2,[.agg [.int .i64 a0.C9,.int .i64 a0.To]]⟩::⟨.ptr Dr Ds 0 0,2,[.agg [.int .i64 a1.C9,.int .i64 a1.To]]⟩::F)) (fun F0 D2=> ?_) (fun s H hq=> ?_)
      ·refine Bh fun Fa DH=> ?_;refine Bz gC ?_;try simp only [W,EE,Nat.reduceAdd,Nat.reduceBEq,hS.var 0 rfl,hS.var 1 rfl]
       refine Cb h (fun hc h=> ?_) (fun hc h=> ?_)
       ·try simp only [W,EE,reduceIte,Nat.reduceAdd,Nat.reduceBEq,hS.var 0 rfl,hS.var 1 rfl,hc]
        refine Bo DH ?_;refine CH (s' :=(u::u:: .ptr Dk Dl 0 0:: .ptr Dr Ds 0 0::u::u::u::u::u::u::u::u::u::u::u::u::u::u::u::u::u::u::u::u::u::u::u::u::u::u::u::u::u::u:: .bool (decide (a1.C9<a0.C9))::u::u::u::u::u::u::u::u::u::u::u::u::u::u::u::u::u::u::u::u::u::u::u::u::u::u::u::u::u::u::u::u::u::u::u::u::u::u::u::u::u::u::u::u::u::[])) rfl ?_
        exact BV D2 ⟨_,(Option.some.inj h).symm,rfl,hS⟩
       ·try simp only [W,hc]
        refine Bo DH ?_;refine CH (s' :=(u::u:: .ptr Dk Dl 0 0:: .ptr Dr Ds 0 0::u::u::u::u::u::u::u::u::u::u::u::u::u::u::u::u::u::u::u::u::u::u::u::u::u::u::u::u::u::u:: .bool false::u::u::u::u::u::u::u::u::u::u::u::u::u::u::u::u::u::u::u::u::u::u::u::u::u::u::u::u::u::u::u::u::u::u::u::u::u::u::u::u::u::u::u::u::u::[])) rfl ?_
        exact BV D2 ⟨_,(Option.some.inj h).symm,rfl,hS⟩
      ·obtain ⟨DE,Dc,rfl,hS⟩:=hq;obtain rfl:=Dc.symm;replace h:=g24;try dsimp only at h
       refine Bo D6 ?_;refine Bm ?_;simp only [W];refine By h (fun hc h=> ?_) (fun hc h=> ?_)
       ·refine Bh fun F1 Ed=> ?_;refine Bz gC ?_;try simp only [W,Nat.reduceAdd]
        refine Bo Ed ?_;refine Bk ?_;refine Bu Dn ?_;refine Bp Di ?_;refine Bw Da rfl ?_;try obtain rfl:=Option.some.inj h
        exact hP _ (hS.B9 2 [] (by decide))
       ·refine Bh fun Hw ED=> ?_;obtain ⟨Ic,h,Ie⟩:=Option.bind_eq_some_iff.1 h;refine BU gC (fun s H=> ∃EB:Bool,Ic=(EB)∧s=(u::u:: .ptr Dk Dl 0 0:: .ptr Dr Ds 0 0::u::u::u::u::u::u::u::u::u::u::u::u::u::u::u::u::u::u::u::u::u::u::u::u::u::u::u::u::u::u::u::u::u::u::u::u::u::u::u::u::u::u::u:: .bool EB::u::u::u::u::u::u::u::u::u::u::u::u::u::u::u::u::u::u::u::u::u::u::u::u::u::u::u::u::u::u::u::u::[])∧aD H (⟨.ptr Dk Dl 0 0,2,[.agg [.int .i64 a0.C9,.int .i64 a0.To]]⟩::⟨.ptr Dr Ds 0 0,2,[.agg [.int .i64 a1.C9,.int .i64 a1.To]]⟩::F)) (fun Jq Fs=> ?_) (fun s H hq=> ?_)
        ·refine Bh fun If Ev=> ?_;refine Bz gC ?_;try simp only [W,EE,Nat.reduceAdd,Nat.reduceBEq,hS.var 0 rfl,hS.var 1 rfl]
         refine Cb h (fun hc h=> ?_) (fun hc h=> ?_)
         ·try simp only [W,EE,reduceIte,Nat.reduceAdd,Nat.reduceBEq,hS.var 0 rfl,hS.var 1 rfl,hc]
          refine Bo Ev ?_;refine CH (s' :=(u::u:: .ptr Dk Dl 0 0:: .ptr Dr Ds 0 0::u::u::u::u::u::u::u::u::u::u::u::u::u::u::u::u::u::u::u::u::u::u::u::u::u::u::u::u::u::u::u::u::u::u::u::u::u::u::u::u::u::u::u:: .bool (decide (a0.To<a1.To))::u::u::u::u::u::u::u::u::u::u::u::u::u::u::u::u::u::u::u::u::u::u::u::u::u::u::u::u::u::u::u::u::[])) rfl ?_
          exact BV Fs ⟨_,(Option.some.inj h).symm,rfl,hS⟩
         ·try simp only [W,hc]
          refine Bo Ev ?_;refine CH (s' :=(u::u:: .ptr Dk Dl 0 0:: .ptr Dr Ds 0 0::u::u::u::u::u::u::u::u::u::u::u::u::u::u::u::u::u::u::u::u::u::u::u::u::u::u::u::u::u::u::u::u::u::u::u::u::u::u::u::u::u::u::u:: .bool false::u::u::u::u::u::u::u::u::u::u::u::u::u::u::u::u::u::u::u::u::u::u::u::u::u::u::u::u::u::u::u::u::[])) rfl ?_
          exact BV Fs ⟨_,(Option.some.inj h).symm,rfl,hS⟩
        ·obtain ⟨EB,Dc,rfl,hS⟩:=hq;obtain rfl:=Dc.symm;replace h:=Ie;try dsimp only at h
         refine Bo ED ?_;refine Bm ?_;simp only [W];refine By h (fun hc h=> ?_) (fun hc h=> ?_)
         ·refine Bh fun GQ Eo=> ?_;refine Bz gC ?_;try simp only [W,Nat.reduceAdd]
          refine Bo Eo ?_;refine Bk ?_;refine Bu Dn ?_;refine Bp Di ?_;refine Bw Da rfl ?_;try obtain rfl:=Option.some.inj h
          exact hP _ (hS.B9 2 [] (by decide))
         ·refine Bh fun Jr GR=> ?_;obtain ⟨Ig,h,Ih⟩:=Option.bind_eq_some_iff.1 h;refine BU gC (fun s H=> ∃DJ:Bool,Ig=(DJ)∧s=(u::u::u::u::u::u::u::u::u::u::u::u::u::u::u::u::u::u::u::u::u::u::u::u::u::u::u::u::u::u::u::u::u::u::u::u::u::u::u::u::u::u::u::u::u::u::u::u::u::u::u::u::u::u::u::u::u::u::u::u:: .bool DJ::u::u::u::u::u::u::u::u::u::u::u::u::u::u::u::u::u::u::u::[])∧aD H (F)) (fun Hy Ei=> ?_) (fun s H hq=> ?_)
          ·refine Bh fun Js ER=> ?_;refine Bz gC ?_;try simp only [W,EE,Nat.reduceAdd,Nat.reduceBEq,hS.var 0 rfl,hS.var 1 rfl]
           refine Cb h (fun hc h=> ?_) (fun hc h=> ?_)
           ·try simp only [W,EE,reduceIte,Nat.reduceAdd,Nat.reduceBEq,hS.var 0 rfl,hS.var 1 rfl,hc]
            refine Cb h (fun hc h=> ?_) (fun hc h=> ?_)
            ·try simp only [W,EE,reduceIte,Nat.reduceAdd,Nat.reduceBEq,hS.var 0 rfl,hS.var 1 rfl,hc]
             refine Bo ER ?_;refine CH (s' :=(u::u::u::u::u::u::u::u::u::u::u::u::u::u::u::u::u::u::u::u::u::u::u::u::u::u::u::u::u::u::u::u::u::u::u::u::u::u::u::u::u::u::u::u::u::u::u::u::u::u::u::u::u::u::u::u::u::u::u::u:: .bool (decide (a0.To<a1.To))::u::u::u::u::u::u::u::u::u::u::u::u::u::u::u::u::u::u::u::[])) rfl ?_
             exact BV Ei ⟨_,(Option.some.inj h).symm,rfl,(hS.B9 2 [] (by decide))⟩
            ·try simp only [W,hc]
             refine Bo ER ?_;refine CH (s' :=(u::u::u::u::u::u::u::u::u::u::u::u::u::u::u::u::u::u::u::u::u::u::u::u::u::u::u::u::u::u::u::u::u::u::u::u::u::u::u::u::u::u::u::u::u::u::u::u::u::u::u::u::u::u::u::u::u::u::u::u:: .bool false::u::u::u::u::u::u::u::u::u::u::u::u::u::u::u::u::u::u::u::[])) rfl ?_
             exact BV Ei ⟨_,(Option.some.inj h).symm,rfl,(hS.B9 2 [] (by decide))⟩
           ·try simp only [W,hc]
            refine Bo ER ?_;refine CH (s' :=(u::u::u::u::u::u::u::u::u::u::u::u::u::u::u::u::u::u::u::u::u::u::u::u::u::u::u::u::u::u::u::u::u::u::u::u::u::u::u::u::u::u::u::u::u::u::u::u::u::u::u::u::u::u::u::u::u::u::u::u:: .bool false::u::u::u::u::u::u::u::u::u::u::u::u::u::u::u::u::u::u::u::[])) rfl ?_
            exact BV Ei ⟨_,(Option.some.inj h).symm,rfl,(hS.B9 2 [] (by decide))⟩
          ·obtain ⟨DJ,Dc,rfl,hS⟩:=hq;obtain rfl:=Dc.symm;replace h:=Ih;try dsimp only at h
           refine Bo GR ?_;refine Bm ?_;simp only [W];refine By h (fun hc h=> ?_) (fun hc h=> ?_)
           ·refine Bh fun Jt GS=> ?_;refine Bz gC ?_;try simp only [W,Nat.reduceAdd]
            refine Bo GS ?_;refine Bk ?_;refine Bu Dn ?_;refine Bp Di ?_;refine Bw Da rfl ?_;try obtain rfl:=Option.some.inj h
            exact hP _ hS
           ·refine Bj ?_;refine Bs Dn ?_;refine Bo Di ?_;refine Bh fun Ju GU=> ?_;refine Bz gC ?_;try simp only [W,Nat.reduceAdd]
            refine Bo GU ?_;refine Bk ?_;refine Bw Da rfl ?_;try obtain rfl:=Option.some.inj h
            exact hP _ hS
theorem Jv {a0:Span} {a1:Span} {r:(Int×Bool)} (h:FC a0 a1=some r) {F:List It} {H:J} (hS:aD H (F)) {P:AV→J→Prop} (hP: ∀H',aD H' (F)→P (.aB [.int .i64 r.1,.bool r.2]) H'):aq C 99 [.agg [.int .i64 a0.C9,.int .i64 a0.To],.agg [.int .i64 a1.C9,.int .i64 a1.To]] H P:=by
 refine BC gC (res:=[.tmp 4,.tmp 5]) (n:=26) rfl rfl rfl rfl fun K0 Da=> ?_;simp only [W,Nat.reduceSub,Nat.reduceAdd,List.replicate];unfold FC at h;refine Bh fun K1 Db=> ?_;refine Bz gC ?_;try simp only [W,Nat.reduceAdd]
 refine BF hS rfl rfl rfl rfl fun Dk Dl H hS=> ?_;try simp only [W]
 refine BF hS rfl rfl rfl rfl fun Dr Ds H hS=> ?_;try simp only [W]
 refine Bo Db ?_;refine Bh fun K6 Di=> ?_;refine Bh fun K7 Dn=> ?_;obtain ⟨Ii,h,g10⟩:=Option.bind_eq_some_iff.1 h;refine BU gC (fun s H=> ∃DK:Bool,Ii=(DK)∧s=[u,u,.ptr Dk Dl 0 0,.ptr Dr Ds 0 0,u,u,u,u,u,u,u,u,u,u,.bool DK,u,u,u,u,u,u,u,u,u,u,u]∧aD H (⟨.ptr Dk Dl 0 0,2,[.agg [.int .i64 a0.C9,.int .i64 a0.To]]⟩::⟨.ptr Dr Ds 0 0,2,[.agg [.int .i64 a1.C9,.int .i64 a1.To]]⟩::F)) (fun E2 DW=> ?_) (fun s H hq=> ?_)
 ·refine Bh fun E6 DF=> ?_;refine Bz gC ?_;try simp only [W,EE,reduceIte,Nat.reduceAdd,Nat.reduceLeDiff,hS.var 1 rfl]
  refine BP h fun Ez Ij h=> ?_;refine Ib Ij hS fun H hS=> ?_;try simp only [W]
  refine Cb h (fun hc h=> ?_) (fun hc h=> ?_)
  ·try simp only [W,hc]
   refine Bo DF ?_;refine Bn ?_;exact BV DW ⟨_,(Option.some.inj h).symm,rfl,(hS.B9 2 [1,0] (by decide))⟩
  ·try simp only [W,EE,reduceIte,Nat.reduceAdd,Nat.reduceLeDiff,hS.var 0 rfl,hc]
   refine BP h fun Em Ft h=> ?_;refine Ib Ft hS fun H hS=> ?_;try simp only [W,reduceIte,Bool.false_eq_true]
   refine Bo DF ?_;refine Bn ?_;exact BV DW ⟨_,(Option.some.inj h).symm,rfl,(hS.B9 2 [1,0] (by decide))⟩
 ·obtain ⟨DK,Dc,rfl,hS⟩:=hq;obtain rfl:=Dc.symm;replace h:=g10;try dsimp only at h
  refine Bo Dn ?_;refine Bm ?_;simp only [W];refine By h (fun hc h=> ?_) (fun hc h=> ?_)
  ·refine Bh fun Fm D1=> ?_;refine Bz gC ?_;try simp only [W,Nat.reduceAdd]
   refine Bo D1 ?_;refine Bk ?_;refine Bp Di ?_;refine Bx Da rfl rfl ?_;try obtain rfl:=Option.some.inj h
   exact hP _ (hS.B9 2 [] (by decide))
  ·refine Bj ?_;refine Bo Di ?_;refine Bh fun E8 DM=> ?_;refine Bh fun EP DG=> ?_;refine Bz gC ?_;try simp only [W,EE,reduceIte,Nat.reduceAdd,Nat.reduceLeDiff,hS.var 0 rfl,hS.var 1 rfl]
   refine BP h fun Dj Fu h=> ?_;refine Jp Fu hS fun H hS=> ?_;try simp only [W]
   refine Bo DG ?_;refine Bh fun EK DA=> ?_;refine Bz gC ?_;try simp only [W,EE,Nat.reduceAdd]
   refine Bo DA ?_;refine Bm ?_;simp only [W];refine By h (fun hc h=> ?_) (fun hc h=> ?_)
   ·refine Bh fun EQ DR=> ?_;refine Bz gC ?_;try simp only [W,Nat.reduceAdd]
    refine Bo DR ?_;refine Bk ?_;refine Bp DM ?_;refine Bx Da rfl rfl ?_;try obtain rfl:=Option.some.inj h
    exact hP _ (hS.B9 2 [] (by decide))
   ·refine Bj ?_;refine Bo DM ?_;refine Bh fun E_ D6=> ?_;refine Bz gC ?_;try simp only [W,EE,Nat.reduceAdd]
    refine CI rfl rfl rfl rfl rfl ?_;try simp only [W,EE,reduceIte,Nat.reduceAdd,Nat.reduceLeDiff,Nat.reduceMul,hS.var 0 rfl,hS.var 1 rfl]
    refine BP h fun DC Ik h=> ?_;refine Jp Ik hS fun H hS=> ?_;try simp only [W,EE]
    refine CJ (l:=([0,8,9,3,10,11,12,13]:List Int)) rfl rfl rfl rfl rfl h fun Gd Og h=> ?_;try simp only [W]
    refine Bo D6 ?_;refine Bk ?_;refine Bx Da rfl rfl ?_;try obtain rfl:=Option.some.inj h
    exact hP _ (hS.B9 2 [] (by decide))
theorem Il {a0:Span} {r:(Bool)} (h:FD a0=some r) {F:List It} {H:J} (hS:aD H (F)) {P:AV→J→Prop} (hP: ∀H',aD H' (F)→P (.bool r) H'):aq C 235 [.agg [.int .i64 a0.C9,.int .i64 a0.To]] H P:=by
 refine BC gC (res:=[.tmp 2]) (n:=18) rfl rfl rfl rfl fun K0 Da=> ?_;simp only [W,Nat.reduceSub,Nat.reduceAdd,List.replicate];unfold FD at h;refine Bh fun K1 Db=> ?_;refine Bz gC ?_;try simp only [W,Nat.reduceAdd]
 refine BF hS rfl rfl rfl rfl fun Dk Dl H hS=> ?_;try simp only [W]
 refine Bo Db ?_;refine Bh fun K4 Dt=> ?_;refine Bz gC ?_;try simp only [W,EE,Nat.reduceAdd,Nat.reduceBEq,hS.var 0 rfl]
 refine Cb h (fun hc h=> ?_) (fun hc h=> ?_)
 ·try simp only [W,EE,reduceIte,Nat.reduceAdd,Nat.reduceBEq,hS.var 0 rfl,hc]
  refine Cb h (fun hc h=> ?_) (fun hc h=> ?_)
  ·try simp only [W,EE,reduceIte,Nat.reduceAdd,Nat.reduceBEq,hS.var 0 rfl,hc]
   refine Bo Dt ?_;refine Bk ?_;refine Bw Da rfl ?_;try obtain rfl:=Option.some.inj h
   exact hP _ (hS.B9 1 [] (by decide))
  ·try simp only [W,hc]
   refine Bo Dt ?_;refine Bk ?_;refine Bw Da rfl ?_;try obtain rfl:=Option.some.inj h
   exact hP _ (hS.B9 1 [] (by decide))
 ·try simp only [W,hc]
  refine Bo Dt ?_;refine Bk ?_;refine Bw Da rfl ?_;try obtain rfl:=Option.some.inj h
  exact hP _ (hS.B9 1 [] (by decide))
theorem Jw {a0:Span} {a1:Span} {r:(Int)} (h:Gg a0 a1=some r) {F:List It} {H:J} (hS:aD H (F)) {P:AV→J→Prop} (hP: ∀H',aD H' (F)→P (.int .i64 r) H'):aq C 236 [.agg [.int .i64 a0.C9,.int .i64 a0.To],.agg [.int .i64 a1.C9,.int .i64 a1.To]] H P:=by
 refine BC gC (res:=[.tmp 4]) (n:=80) rfl rfl rfl rfl fun K0 Da=> ?_;simp only [W,Nat.reduceSub,Nat.reduceAdd,List.replicate];unfold Gg at h;refine Bh fun K1 Db=> ?_;refine Bz gC ?_;try simp only [W,Nat.reduceAdd]
 refine BF hS rfl rfl rfl rfl fun Dk Dl H hS=> ?_;try simp only [W]
 refine BF hS rfl rfl rfl rfl fun Dr Ds H hS=> ?_;try simp only [W]
 refine Bo Db ?_;refine Bh fun K6 Di=> ?_;refine Bi fun K7 Dn=> ?_;refine Bh fun K8 DL=> ?_;refine Bz gC ?_;try simp only [W,EE,Nat.reduceAdd,Nat.reduceBEq,hS.var 1 rfl,hS.var 0 rfl]
 refine Bo DL ?_;refine Bm ?_;simp only [W];refine By h (fun hc h=> ?_) (fun hc h=> ?_)
 ·refine Bh fun K9 Dz=> ?_;refine Bz gC ?_;try simp only [W,Nat.reduceAdd]
  refine Bo Dz ?_;refine Bk ?_;refine Bu Dn ?_;refine Bp Di ?_;refine Bw Da rfl ?_;try obtain rfl:=Option.some.inj h
  exact hP _ (hS.B9 2 [] (by decide))
 ·refine Bh fun GL Eu=> ?_;refine Bz gC ?_;try simp only [W,EE,Nat.reduceAdd,Nat.reduceBEq,hS.var 1 rfl,hS.var 0 rfl]
  refine Bo Eu ?_;refine Bm ?_;simp only [W];refine By h (fun hc h=> ?_) (fun hc h=> ?_)
  ·refine Bh fun E2 DW=> ?_;refine Bz gC ?_;try simp only [W,Nat.reduceAdd]
   refine Bo DW ?_;refine Bk ?_;refine Bu Dn ?_;refine Bp Di ?_;refine Bw Da rfl ?_;try obtain rfl:=Option.some.inj h
   exact hP _ (hS.B9 2 [] (by decide))
  ·refine Bh fun E6 DF=> ?_;refine Bz gC ?_;try simp only [W,EE,reduceIte,Nat.reduceAdd,Nat.reduceLeDiff,Bool.false_eq_true,hS.var 1 rfl,hS.var 0 rfl]
   refine Bo DF ?_;refine Bm ?_;simp only [W];refine By h (fun hc h=> ?_) (fun hc h=> ?_)
   ·refine Bh fun E7 D5=> ?_;refine Bz gC ?_;try simp only [W,Nat.reduceAdd]
    refine Bo D5 ?_;refine Bk ?_;refine Bu Dn ?_;refine Bp Di ?_;refine Bw Da rfl ?_;try obtain rfl:=Option.some.inj h
    exact hP _ (hS.B9 2 [] (by decide))
   ·refine Bh fun FX Ea=> ?_;obtain ⟨Fp,h,g17⟩:=Option.bind_eq_some_iff.1 h;refine BU gC (fun s H=> ∃D9:Bool,Fp=(D9)∧s=(u::u:: .ptr Dk Dl 0 0:: .ptr Dr Ds 0 0::u::u::u::u::u::u::u::u::u::u::u::u::u::u::u::u::u:: .bool D9::u::u::u::u::u::u::u::u::u::u::u::u::u::u::u::u::u::u::u::u::u::u::u::u::u::u::u::u::u::u::u::u::u::u::u::u::u::u::u::u::u::u::u::u::u::u::u::u::u::u::u::u::u::u::u::u::u::u::[])∧aD H (⟨.ptr Dk Dl 0 0,2,[.agg [.int .i64 a0.C9,.int .i64 a0.To]]⟩::⟨.ptr Dr Ds 0 0,2,[.agg [.int .i64 a1.C9,.int .i64 a1.To]]⟩::F)) (fun E9 DO=> ?_) (fun s H hq=> ?_)
    ·refine Bh fun EK DA=> ?_;refine Bz gC ?_;try simp only [W,EE,Nat.reduceAdd,Nat.reduceBEq,hS.var 1 rfl,hS.var 0 rfl]
     refine Cb h (fun hc h=> ?_) (fun hc h=> ?_)
     ·try simp only [W,EE,reduceIte,Nat.reduceAdd,Nat.reduceBEq,hS.var 1 rfl,hS.var 0 rfl,hc]
      refine Bo DA ?_;refine CH (s' :=(u::u:: .ptr Dk Dl 0 0:: .ptr Dr Ds 0 0::u::u::u::u::u::u::u::u::u::u::u::u::u::u::u::u::u:: .bool (decide (a0.To<a1.To))::u::u::u::u::u::u::u::u::u::u::u::u::u::u::u::u::u::u::u::u::u::u::u::u::u::u::u::u::u::u::u::u::u::u::u::u::u::u::u::u::u::u::u::u::u::u::u::u::u::u::u::u::u::u::u::u::u::u::[])) rfl ?_
      exact BV DO ⟨_,(Option.some.inj h).symm,rfl,(hS.B9 2 [1,0] (by decide))⟩
     ·try simp only [W,hc]
      refine Bo DA ?_;refine CH (s' :=(u::u:: .ptr Dk Dl 0 0:: .ptr Dr Ds 0 0::u::u::u::u::u::u::u::u::u::u::u::u::u::u::u::u::u:: .bool false::u::u::u::u::u::u::u::u::u::u::u::u::u::u::u::u::u::u::u::u::u::u::u::u::u::u::u::u::u::u::u::u::u::u::u::u::u::u::u::u::u::u::u::u::u::u::u::u::u::u::u::u::u::u::u::u::u::u::[])) rfl ?_
      exact BV DO ⟨_,(Option.some.inj h).symm,rfl,(hS.B9 2 [1,0] (by decide))⟩
    ·obtain ⟨D9,Dc,rfl,hS⟩:=hq;obtain rfl:=Dc.symm;replace h:=g17;try dsimp only at h
     refine Bo Ea ?_;refine Bm ?_;simp only [W];refine By h (fun hc h=> ?_) (fun hc h=> ?_)
     ·refine Bh fun EQ DR=> ?_;refine Bz gC ?_;try simp only [W,Nat.reduceAdd]
      refine Bo DR ?_;refine Bk ?_;refine Bu Dn ?_;refine Bp Di ?_;refine Bw Da rfl ?_;try obtain rfl:=Option.some.inj h
      exact hP _ (hS.B9 2 [] (by decide))
     ·refine Bh fun E_ D6=> ?_;obtain ⟨Fq,h,g24⟩:=Option.bind_eq_some_iff.1 h;refine BU gC (fun s H=> ∃DE:Bool,Fq=(DE)∧s=(u::u:: .ptr Dk Dl 0 0:: .ptr Dr Ds 0 0::u::u::u::u::u::u::u::u::u::u::u::u::u::u::u::u::u::u::u::u::u::u::u::u::u::u::u::u::u::u:: .bool DE::u::u::u::u::u::u::u::u::u::u::u::u::u::u::u::u::u::u::u::u::u::u::u::u::u::u::u::u::u::u::u::u::u::u::u::u::u::u::u::u::u::u::u::u::u::[])∧aD H (⟨.ptr Dk Dl 0 0,2,[.agg [.int .i64 a0.C9,.int .i64 a0.To]]⟩::⟨.ptr Dr Ds 0 0,2,[.agg [.int .i64 a1.C9,.int .i64 a1.To]]⟩::F)) (fun F0 D2=> ?_) (fun s H hq=> ?_)
      ·refine Bh fun Fa DH=> ?_;refine Bz gC ?_;try simp only [W,EE,Nat.reduceAdd,Nat.reduceBEq,hS.var 0 rfl,hS.var 1 rfl]
       refine Cb h (fun hc h=> ?_) (fun hc h=> ?_)
       ·try simp only [W,EE,reduceIte,Nat.reduceAdd,Nat.reduceBEq,hS.var 0 rfl,hS.var 1 rfl,hc]
        refine Bo DH ?_;refine CH (s' :=(u::u:: .ptr Dk Dl 0 0:: .ptr Dr Ds 0 0::u::u::u::u::u::u::u::u::u::u::u::u::u::u::u::u::u::u::u::u::u::u::u::u::u::u::u::u::u::u:: .bool (decide (a1.C9<a0.C9))::u::u::u::u::u::u::u::u::u::u::u::u::u::u::u::u::u::u::u::u::u::u::u::u::u::u::u::u::u::u::u::u::u::u::u::u::u::u::u::u::u::u::u::u::u::[])) rfl ?_
        exact BV D2 ⟨_,(Option.some.inj h).symm,rfl,hS⟩
       ·try simp only [W,hc]
        refine Bo DH ?_;refine CH (s' :=(u::u:: .ptr Dk Dl 0 0:: .ptr Dr Ds 0 0::u::u::u::u::u::u::u::u::u::u::u::u::u::u::u::u::u::u::u::u::u::u::u::u::u::u::u::u::u::u:: .bool false::u::u::u::u::u::u::u::u::u::u::u::u::u::u::u::u::u::u::u::u::u::u::u::u::u::u::u::u::u::u::u::u::u::u::u::u::u::u::u::u::u::u::u::u::u::[])) rfl ?_
        exact BV D2 ⟨_,(Option.some.inj h).symm,rfl,hS⟩
      ·obtain ⟨DE,Dc,rfl,hS⟩:=hq;obtain rfl:=Dc.symm;replace h:=g24;try dsimp only at h
       refine Bo D6 ?_;refine Bm ?_;simp only [W];refine By h (fun hc h=> ?_) (fun hc h=> ?_)
       ·refine Bh fun F1 Ed=> ?_;refine Bz gC ?_;try simp only [W,Nat.reduceAdd]
        refine Bo Ed ?_;refine Bk ?_;refine Bu Dn ?_;refine Bp Di ?_;refine Bw Da rfl ?_;try obtain rfl:=Option.some.inj h
        exact hP _ (hS.B9 2 [] (by decide))
       ·refine Bh fun Hw ED=> ?_;obtain ⟨Ic,h,Ie⟩:=Option.bind_eq_some_iff.1 h;refine BU gC (fun s H=> ∃EB:Bool,Ic=(EB)∧s=(u::u:: .ptr Dk Dl 0 0:: .ptr Dr Ds 0 0::u::u::u::u::u::u::u::u::u::u::u::u::u::u::u::u::u::u::u::u::u::u::u::u::u::u::u::u::u::u::u::u::u::u::u::u::u::u::u::u::u::u::u:: .bool EB::u::u::u::u::u::u::u::u::u::u::u::u::u::u::u::u::u::u::u::u::u::u::u::u::u::u::u::u::u::u::u::u::[])∧aD H (⟨.ptr Dk Dl 0 0,2,[.agg [.int .i64 a0.C9,.int .i64 a0.To]]⟩::⟨.ptr Dr Ds 0 0,2,[.agg [.int .i64 a1.C9,.int .i64 a1.To]]⟩::F)) (fun Jq Fs=> ?_) (fun s H hq=> ?_)
        ·refine Bh fun If Ev=> ?_;refine Bz gC ?_;try simp only [W,EE,Nat.reduceAdd,Nat.reduceBEq,hS.var 0 rfl,hS.var 1 rfl]
         refine Cb h (fun hc h=> ?_) (fun hc h=> ?_)
         ·try simp only [W,EE,reduceIte,Nat.reduceAdd,Nat.reduceBEq,hS.var 0 rfl,hS.var 1 rfl,hc]
          refine Bo Ev ?_;refine CH (s' :=(u::u:: .ptr Dk Dl 0 0:: .ptr Dr Ds 0 0::u::u::u::u::u::u::u::u::u::u::u::u::u::u::u::u::u::u::u::u::u::u::u::u::u::u::u::u::u::u::u::u::u::u::u::u::u::u::u::u::u::u::u:: .bool (decide (a0.To<a1.To))::u::u::u::u::u::u::u::u::u::u::u::u::u::u::u::u::u::u::u::u::u::u::u::u::u::u::u::u::u::u::u::u::[])) rfl ?_
          exact BV Fs ⟨_,(Option.some.inj h).symm,rfl,hS⟩
         ·try simp only [W,hc]
          refine Bo Ev ?_;refine CH (s' :=(u::u:: .ptr Dk Dl 0 0:: .ptr Dr Ds 0 0::u::u::u::u::u::u::u::u::u::u::u::u::u::u::u::u::u::u::u::u::u::u::u::u::u::u::u::u::u::u::u::u::u::u::u::u::u::u::u::u::u::u::u:: .bool false::u::u::u::u::u::u::u::u::u::u::u::u::u::u::u::u::u::u::u::u::u::u::u::u::u::u::u::u::u::u::u::u::[])) rfl ?_
          exact BV Fs ⟨_,(Option.some.inj h).symm,rfl,hS⟩
        ·obtain ⟨EB,Dc,rfl,hS⟩:=hq;obtain rfl:=Dc.symm;replace h:=Ie;try dsimp only at h
         refine Bo ED ?_;refine Bm ?_;simp only [W];refine By h (fun hc h=> ?_) (fun hc h=> ?_)
         ·refine Bh fun GQ Eo=> ?_;refine Bz gC ?_;try simp only [W,Nat.reduceAdd]
          refine Bo Eo ?_;refine Bk ?_;refine Bu Dn ?_;refine Bp Di ?_;refine Bw Da rfl ?_;try obtain rfl:=Option.some.inj h
          exact hP _ (hS.B9 2 [] (by decide))
         ·refine Bh fun Jr GR=> ?_;obtain ⟨Ig,h,Ih⟩:=Option.bind_eq_some_iff.1 h;refine BU gC (fun s H=> ∃DJ:Bool,Ig=(DJ)∧s=(u::u::u::u::u::u::u::u::u::u::u::u::u::u::u::u::u::u::u::u::u::u::u::u::u::u::u::u::u::u::u::u::u::u::u::u::u::u::u::u::u::u::u::u::u::u::u::u::u::u::u::u::u::u::u::u::u::u::u::u:: .bool DJ::u::u::u::u::u::u::u::u::u::u::u::u::u::u::u::u::u::u::u::[])∧aD H (F)) (fun Hy Ei=> ?_) (fun s H hq=> ?_)
          ·refine Bh fun Js ER=> ?_;refine Bz gC ?_;try simp only [W,EE,Nat.reduceAdd,Nat.reduceBEq,hS.var 0 rfl,hS.var 1 rfl]
           refine Cb h (fun hc h=> ?_) (fun hc h=> ?_)
           ·try simp only [W,EE,reduceIte,Nat.reduceAdd,Nat.reduceBEq,hS.var 0 rfl,hS.var 1 rfl,hc]
            refine Cb h (fun hc h=> ?_) (fun hc h=> ?_)
            ·try simp only [W,EE,reduceIte,Nat.reduceAdd,Nat.reduceBEq,hS.var 0 rfl,hS.var 1 rfl,hc]
             refine Bo ER ?_;refine CH (s' :=(u::u::u::u::u::u::u::u::u::u::u::u::u::u::u::u::u::u::u::u::u::u::u::u::u::u::u::u::u::u::u::u::u::u::u::u::u::u::u::u::u::u::u::u::u::u::u::u::u::u::u::u::u::u::u::u::u::u::u::u:: .bool (decide (a0.To<a1.To))::u::u::u::u::u::u::u::u::u::u::u::u::u::u::u::u::u::u::u::[])) rfl ?_
             exact BV Ei ⟨_,(Option.some.inj h).symm,rfl,(hS.B9 2 [] (by decide))⟩
            ·try simp only [W,hc]
             refine Bo ER ?_;refine CH (s' :=(u::u::u::u::u::u::u::u::u::u::u::u::u::u::u::u::u::u::u::u::u::u::u::u::u::u::u::u::u::u::u::u::u::u::u::u::u::u::u::u::u::u::u::u::u::u::u::u::u::u::u::u::u::u::u::u::u::u::u::u:: .bool false::u::u::u::u::u::u::u::u::u::u::u::u::u::u::u::u::u::u::u::[])) rfl ?_
             exact BV Ei ⟨_,(Option.some.inj h).symm,rfl,(hS.B9 2 [] (by decide))⟩
           ·try simp only [W,hc]
            refine Bo ER ?_;refine CH (s' :=(u::u::u::u::u::u::u::u::u::u::u::u::u::u::u::u::u::u::u::u::u::u::u::u::u::u::u::u::u::u::u::u::u::u::u::u::u::u::u::u::u::u::u::u::u::u::u::u::u::u::u::u::u::u::u::u::u::u::u::u:: .bool false::u::u::u::u::u::u::u::u::u::u::u::u::u::u::u::u::u::u::u::[])) rfl ?_
            exact BV Ei ⟨_,(Option.some.inj h).symm,rfl,(hS.B9 2 [] (by decide))⟩
          ·obtain ⟨DJ,Dc,rfl,hS⟩:=hq;obtain rfl:=Dc.symm;replace h:=Ih;try dsimp only at h
           refine Bo GR ?_;refine Bm ?_;simp only [W];refine By h (fun hc h=> ?_) (fun hc h=> ?_)
           ·refine Bh fun Jt GS=> ?_;refine Bz gC ?_;try simp only [W,Nat.reduceAdd]
            refine Bo GS ?_;refine Bk ?_;refine Bu Dn ?_;refine Bp Di ?_;refine Bw Da rfl ?_;try obtain rfl:=Option.some.inj h
            exact hP _ hS
           ·refine Bj ?_;refine Bs Dn ?_;refine Bo Di ?_;refine Bh fun Ju GU=> ?_;refine Bz gC ?_;try simp only [W,Nat.reduceAdd]
            refine Bo GU ?_;refine Bk ?_;refine Bw Da rfl ?_;try obtain rfl:=Option.some.inj h
            exact hP _ hS
theorem Kq {a0:Span} {a1:Span} {r:(Int×Bool)} (h:Gh a0 a1=some r) {F:List It} {H:J} (hS:aD H (F)) {P:AV→J→Prop} (hP: ∀H',aD H' (F)→P (.aB [.int .i64 r.1,.bool r.2]) H'):aq C 100 [.agg [.int .i64 a0.C9,.int .i64 a0.To],.agg [.int .i64 a1.C9,.int .i64 a1.To]] H P:=by
 refine BC gC (res:=[.tmp 4,.tmp 5]) (n:=31) rfl rfl rfl rfl fun K0 Da=> ?_;simp only [W,Nat.reduceSub,Nat.reduceAdd,List.replicate];unfold Gh at h;refine Bh fun K1 Db=> ?_;refine Bz gC ?_;try simp only [W,Nat.reduceAdd]
 refine BF hS rfl rfl rfl rfl fun Dk Dl H hS=> ?_;try simp only [W]
 refine BF hS rfl rfl rfl rfl fun Dr Ds H hS=> ?_;try simp only [W]
 refine Bo Db ?_;refine Bh fun K6 Di=> ?_;refine Bh fun K7 Dn=> ?_;obtain ⟨Ii,h,g10⟩:=Option.bind_eq_some_iff.1 h;refine BU gC (fun s H=> ∃DK:Bool,Ii=(DK)∧s=[u,u,.ptr Dk Dl 0 0,.ptr Dr Ds 0 0,u,u,u,u,u,u,u,u,u,u,u,.bool DK,u,u,u,u,u,u,u,u,u,u,u,u,u,u,u]∧aD H (⟨.ptr Dk Dl 0 0,2,[.agg [.int .i64 a0.C9,.int .i64 a0.To]]⟩::⟨.ptr Dr Ds 0 0,2,[.agg [.int .i64 a1.C9,.int .i64 a1.To]]⟩::F)) (fun E2 DW=> ?_) (fun s H hq=> ?_)
 ·refine Bh fun E6 DF=> ?_;refine Bz gC ?_;try simp only [W,EE,reduceIte,Nat.reduceAdd,Nat.reduceLeDiff,hS.var 1 rfl]
  refine BP h fun Ez Ij h=> ?_;refine Il Ij hS fun H hS=> ?_;try simp only [W]
  refine Cb h (fun hc h=> ?_) (fun hc h=> ?_)
  ·try simp only [W,hc]
   refine Bo DF ?_;refine Bn ?_;exact BV DW ⟨_,(Option.some.inj h).symm,rfl,(hS.B9 2 [1,0] (by decide))⟩
  ·try simp only [W,EE,reduceIte,Nat.reduceAdd,Nat.reduceLeDiff,hS.var 0 rfl,hc]
   refine BP h fun Em Ft h=> ?_;refine Il Ft hS fun H hS=> ?_;try simp only [W,reduceIte,Bool.false_eq_true]
   refine Bo DF ?_;refine Bn ?_;exact BV DW ⟨_,(Option.some.inj h).symm,rfl,(hS.B9 2 [1,0] (by decide))⟩
 ·obtain ⟨DK,Dc,rfl,hS⟩:=hq;obtain rfl:=Dc.symm;replace h:=g10;try dsimp only at h
  refine Bo Dn ?_;refine Bm ?_;simp only [W];refine By h (fun hc h=> ?_) (fun hc h=> ?_)
  ·refine Bh fun Fm D1=> ?_;refine Bz gC ?_;try simp only [W,Nat.reduceAdd]
   refine Bo D1 ?_;refine Bk ?_;refine Bp Di ?_;refine Bx Da rfl rfl ?_;try obtain rfl:=Option.some.inj h
   exact hP _ (hS.B9 2 [] (by decide))
  ·refine Bj ?_;refine Bo Di ?_;refine Bh fun E8 DM=> ?_;refine Bh fun EP DG=> ?_;refine Bz gC ?_;try simp only [W,EE,reduceIte,Nat.reduceAdd,Nat.reduceLeDiff,hS.var 0 rfl,hS.var 1 rfl]
   refine BP h fun Dj Fu h=> ?_;refine Jw Fu hS fun H hS=> ?_;try simp only [W]
   refine Bo DG ?_;refine Bh fun EK DA=> ?_;refine Bz gC ?_;try simp only [W,EE,Nat.reduceAdd]
   refine Bo DA ?_;refine Bm ?_;simp only [W];refine By h (fun hc h=> ?_) (fun hc h=> ?_)
   ·refine Bh fun EQ DR=> ?_;refine Bz gC ?_;try simp only [W,Nat.reduceAdd]
    refine Bo DR ?_;refine Bk ?_;refine Bp DM ?_;refine Bx Da rfl rfl ?_;try obtain rfl:=Option.some.inj h
    exact hP _ (hS.B9 2 [] (by decide))
   ·refine Bj ?_;refine Bo DM ?_;refine Bh fun E_ D6=> ?_;refine Bz gC ?_;try simp only [W,EE,reduceIte,Nat.reduceAdd,Nat.reduceLeDiff,hS.var 0 rfl,hS.var 1 rfl]
    refine BP h fun DC Ik h=> ?_;refine Jw Ik hS fun H hS=> ?_;try simp only [W]
    refine Bo D6 ?_;refine Bh fun Jx F2=> ?_;refine Bh fun H8 Fo=> ?_;refine Bz gC ?_;try simp only [W,EE,Nat.reduceAdd]
    refine Bo Fo ?_;refine Bm ?_;simp only [W];refine By h (fun hc h=> ?_) (fun hc h=> ?_)
    ·refine Bh fun F0 D2=> ?_;refine Bz gC ?_;try simp only [W,EE,Nat.reduceAdd]
     refine Bo D2 ?_;refine Bk ?_;refine Bp F2 ?_;refine Bx Da rfl rfl ?_;try obtain rfl:=Option.some.inj h
     exact hP _ (hS.B9 2 [] (by decide))
    ·refine Bj ?_;refine Bo F2 ?_;refine Bh fun Fa DH=> ?_;refine Bz gC ?_;try simp only [W,EE,Nat.reduceAdd]
     refine Bo DH ?_;refine Bk ?_;refine Bx Da rfl rfl ?_;try obtain rfl:=Option.some.inj h
     exact hP _ (hS.B9 2 [] (by decide))
theorem Hz {a0:List Span} {r:(Bool)} (h:EW a0=some r) {F:List It} {H:J} (hS:aD H (F)) {P:AV→J→Prop} (hP: ∀H',aD H' (F)→P (.bool r) H'):aq C 237 [.fz (a0.map C_)] H P:=by
 refine BC gC (res:=[.tmp 2]) (n:=34) rfl rfl rfl rfl fun K0 Da=> ?_;simp only [W,Nat.reduceSub,Nat.reduceAdd,List.replicate];unfold EW at h;refine Bh fun K1 Db=> ?_;refine Bz gC ?_;try simp only [W,Nat.reduceAdd]
 refine Bo Db ?_;refine Bh fun K2 zh=> ?_;refine Bh fun K3 Dp=> ?_;refine Bz gC ?_;try simp only [W,EE,Nat.reduceAdd]
 refine Bo Dp ?_;refine Bm ?_;simp only [W];refine By h (fun hc h=> ?_) (fun hc h=> ?_)
 ·refine Bh fun K4 Dt=> ?_;refine Bz gC ?_;try simp only [W,Nat.reduceAdd]
  refine Bo Dt ?_;refine Bk ?_;refine Bp zh ?_;refine Bw Da rfl ?_;try obtain rfl:=Option.some.inj h
  exact hP _ hS
 ·refine Bj ?_;refine Bo zh ?_;refine Bh fun K5 DN=> ?_;refine Bh fun K6 Di=> ?_;refine Bz gC ?_;try simp only [W,EE,Nat.reduceAdd]
  refine Bo Di ?_;obtain ⟨GV,GW,g15⟩:=Option.bind_eq_some_iff.1 h;refine BU gC (fun s H=>GV=LR.next ()∧s=[u,u,u,u,u,u,u,u,u,u,u,u,u,u,u,u,u,u,u,u,u,u,u,u,u,u,u,u,u,u,u,u,u,u]∧aD H (F)) (fun GL Eu=> ?_) (fun s H hq=> ?_)
  ·refine Bi fun E2 DW=> ?_;refine BQ gC GW (fun x s H=>s=[.fz (a0.map C_),u,u,u,u,u,u,u,.fz (a0.map C_),.int .i64 (a0.length:Int),.int .i64 x,u,u,u,u,u,u,u,u,u,u,u,u,u,u,u,u,u,u,u,u,u,u,u]∧aD H (F)) ⟨rfl,hS⟩ (fun DZ Jy s H h F3 hi E6 DF=> ?_)
   skip
   try dsimp only at hi
   obtain ⟨rfl,hS⟩:=hi;simp only [Gi] at h;refine Bh fun E8 DM=> ?_;refine Bz gC ?_;try simp only [W,EE,Nat.reduceAdd]
   refine Bo DM ?_;refine Bh fun EP DG=> ?_;refine Bm ?_;simp only [W];refine By h (fun hc h=> ?_) (fun hc h=> ?_)
   ·refine Bj ?_;refine Bo DG ?_;refine Bh fun E9 DO=> ?_;refine Bi fun EK DA=> ?_;refine Bh fun EQ DR=> ?_;refine Bz gC ?_;try simp only [W,EE,Nat.reduceAdd]
    refine BJ rfl rfl rfl (fun _=>rfl) h fun Dd Hu h=> ?_;try simp only [W,EE,EN,reduceIte,Nat.reduceAdd,Nat.reduceLeDiff]
    refine BG hS rfl rfl fun Jz JA H hS=> ?_;try simp only [W]
    refine BH (a:= .agg [.int .i64 Dd.C9,.int .i64 Dd.To]) (y' := .agg [.int .i64 Dd.C9,.int .i64 Dd.To]) 0 hS rfl rfl rfl rfl rfl rfl rfl rfl fun H hS=> ?_
    try simp only [W]
    refine Bo DR ?_;refine Bh fun H8 Fo=> ?_;obtain ⟨Kr,h,Ks⟩:=Option.bind_eq_some_iff.1 h;refine BU gC (fun s H=> ∃Gk:Bool,Kr=(Gk)∧s=[.fz (a0.map C_),u,u,u,u,u,u,u,.fz (a0.map C_),.int .i64 (a0.length:Int),.int .i64 DZ,u,u,u,u,u,u,u,u,u,u,u,u,u,u,u,u,u,u,u,u,u,.bool Gk,u]∧aD H (F)) (fun Hw ED=> ?_) (fun s H hq=> ?_)
    ·refine Bh fun H9 EC=> ?_;refine BB gC (by kernel_rfl) ?_
     try simp only [W,EE,reduceIte,Nat.reduceAdd,Nat.reduceLeDiff,hS.var 0 rfl]
     refine Cw (cb:=[[.sc]]) (ys:=[.agg [.int .i64 Dd.C9,.int .i64 Dd.To]]) h rfl (by rfl) fun Gj Kt h=>⟨.bool Gj,Ib Kt (aD.nil _) fun H hS=>Cs rfl (Cq rfl (Cp rfl)),⟨rfl,rfl,fun _=>rfl⟩,?_⟩
     try simp only [W]
     refine Cb h (fun hc h=> ?_) (fun hc h=> ?_)
     ·try simp only [W,hc]
      refine Bo EC ?_;refine Bn ?_;exact BV ED ⟨_,(Option.some.inj h).symm,rfl,(hS.B9 1 [] (by decide))⟩
     ·try simp only [W,EE,hc]
      refine Cb h (fun hc h=> ?_) (fun hc h=> ?_)
      ·try simp only [W,EE,Nat.reduceAdd,Nat.reduceBEq,hS.var 0 rfl,hc]
       refine BJ rfl rfl rfl (fun _=>rfl) h fun FE Jo h=> ?_;try simp only [W,EE,EN,reduceIte,Nat.reduceAdd,Nat.reduceBEq,Bool.false_eq_true]
       refine Bo EC ?_;refine Bn ?_;exact BV ED ⟨_,(Option.some.inj h).symm,rfl,(hS.B9 1 [] (by decide))⟩
      ·try simp only [W,reduceIte,Bool.false_eq_true,hc]
       refine Bo EC ?_;refine Bn ?_;exact BV ED ⟨_,(Option.some.inj h).symm,rfl,(hS.B9 1 [] (by decide))⟩
    ·obtain ⟨Gk,Dc,rfl,hS⟩:=hq;obtain rfl:=Dc.symm;replace h:=Ks;try dsimp only at h
     refine Bo Fo ?_;refine Bm ?_;simp only [W];refine By h (fun hc h=> ?_) (fun hc h=> ?_)
     ·refine Bh fun Jq Fs=> ?_;refine Bz gC ?_;try simp only [W,Nat.reduceAdd]
      refine Bo Fs ?_;refine Bk ?_;refine Bu DA ?_;refine Bp DO ?_;try obtain rfl:=Option.some.inj h
      obtain rfl:=F3 _ rfl;have h:(some (LR.done false):Option (LR Unit (Bool)))=some (LR.done false):=rfl;refine BT DF ?_;refine Bu DW ?_;try obtain rfl:=Option.some.inj h
      obtain rfl:=Option.some.inj g15;have h:(some false:Option (Bool))=some false:=rfl;refine BW Eu ?_;refine Bp DN ?_;refine Bw Da rfl ?_;try obtain rfl:=Option.some.inj h
      exact hP _ hS
     ·refine Bj ?_;refine Bs DA ?_;refine Bo DO ?_;refine Bz gC ?_;try simp only [W,EE,Nat.reduceAdd]
      exact BR DF h ⟨rfl,hS⟩
   ·refine Bl ?_;refine Bq DG ?_;try obtain rfl:=Option.some.inj h
    obtain rfl:=F3 _ rfl;have h:(some (LR.next ()):Option (LR Unit (Bool)))=some (LR.next ()):=rfl
    refine BS DF ?_;refine Bt DW ?_;exact BV Eu ⟨(Option.some.inj h).symm,rfl,hS⟩
  ·obtain ⟨rfl,rfl,hS⟩:=hq;replace h:=g15;try dsimp only at h
   refine Bo DN ?_;refine Bh fun Hy Ei=> ?_;refine Bz gC ?_;try simp only [W,Nat.reduceAdd]
   refine Bo Ei ?_;refine Bk ?_;refine Bw Da rfl ?_;try obtain rfl:=Option.some.inj h
   exact hP _ hS
theorem Ku {a0:List Span} {r:List Span} (h:HU a0=some r) {F:List It} {H:J} (hS:aD H F) {P:AV→J→Prop} (hP: ∀v0:AV,bQ v0→ ∀H',aD H' (⟨v0,2,r.map C_⟩::F)→P v0 H'):aq C 254 [.fz (a0.map C_)] H P:=
 C6 (ids:=Fl) (gF:=gF) rfl (sz:=2) (b:=16) (by simp [Fl]) (fun _=>rfl) (by decide) h hS hP
theorem Kv {a0 r:List Span} (h:HV a0=some r) {F:List It} {H:J} {m0:AV} (hS:aD H (⟨m0,2,a0.map C_⟩::F)) (Kw:bQ m0) {P:AV→J→Prop} (hP: ∀H',aD H' (⟨m0,2,r.map C_⟩::F)→P (.aB []) H'):aq C 311 [m0,.fn 312 []] H P:=
 C7 (ids:=Fl) (gF:=gF) rfl (by simp [gF]) (by decide) (fun _=>rfl) (fun _=>rfl) h hS Kw hP
theorem Kx {a0:List Span} {r:(List Span)} (h:EX a0=some r) {F:List It} {H:J} (hS:aD H (F)) {P:AV→J→Prop} (hP: ∀Im:AV,bQ Im→ ∀H',aD H' (⟨Im,2,r.map C_⟩::F)→P (Im) H'):aq C 246 [.fz (a0.map C_)] H P:=by
 refine BC gC (res:=[.tmp 2]) (n:=52) rfl rfl rfl rfl fun K0 Da=> ?_;simp only [W,Nat.reduceSub,Nat.reduceAdd,List.replicate];unfold EX at h;refine Bh fun K1 Db=> ?_;refine Bz gC ?_;try simp only [W,Nat.reduceAdd]
 refine Bo Db ?_;refine Bh fun K2 zh=> ?_;refine Bz gC ?_;try simp only [W,Nat.reduceAdd]
 refine BP h fun b3 kB h=> ?_;refine Ku kB hS fun v4 GX H hS=> ?_;try simp only [W]
 refine BN rfl rfl ?_;try simp only [W]
 refine Bo zh ?_;refine Bh fun K6 Di=> ?_;refine Bz gC ?_;try simp only [W,Nat.reduceAdd]
 refine BP h fun De ES h=> ?_;refine Kv ES hS GX fun H hS=> ?_;try simp only [W]
 refine Bo Di ?_;refine Bh fun K8 DL=> ?_;refine Bh fun K9 Dz=> ?_;refine Bz gC ?_;try simp only [W,EE,Nat.reduceAdd]
 refine BM 0 hS rfl GX rfl ?_;try simp only [W]
 refine Bo Dz ?_;obtain ⟨Fp,Ky,g23⟩:=Option.bind_eq_some_iff.1 h;refine BU gC (fun s H=> ∃D8:List Span,Fp=(D8)∧ ∃FY:AV,bQ FY∧s=[u,u,u,u,FY,u,u,u,u,u,u,u,u,u,u,u,u,u,u,u,u,u,u,u,u,u,u,u,u,u,u,u,u,u,u,u,u,u,u,u,u,u,u,u,u,u,u,u,u,u,u,u]∧aD H (⟨FY,2,D8.map C_⟩::F)) (fun E9 DO=> ?_) (fun s H hq=> ?_)
 ·refine Bi fun EK DA=> ?_;refine BQ gC Ky (fun x s H=>match x with|(D0,DS)=> ∃v11:AV,bQ v11∧s=[u,u,u,u,v11,u,u,u,u,u,u,u,u,v4,.int .i64 (De.length:Int),.int .i64 DS,u,u,u,u,u,u,u,u,u,u,u,u,u,u,u,u,u,u,u,u,u,u,u,u,u,u,u,u,u,u,u,u,u,u,u,u]∧aD H (⟨v11,2,D0.map C_⟩::⟨v4,2,De.map C_⟩::F)) ⟨_,ua,rfl,(hS.zJ 2)⟩ (fun x Oh s H h Kz hi EQ DR=> ?_)
  obtain ⟨D0,DS⟩:=x;try dsimp only at hi
  obtain ⟨v11,Fv,rfl,hS⟩:=hi;simp only [Gl] at h;refine Bh fun H8 Fo=> ?_;refine Bz gC ?_;try simp only [W,EE,Nat.reduceAdd]
  refine Bo Fo ?_;refine Bh fun F0 D2=> ?_;refine Bm ?_;simp only [W];refine By h (fun hc h=> ?_) (fun hc h=> ?_)
  ·refine Bj ?_;refine Bo D2 ?_;refine Bh fun Fa DH=> ?_;obtain ⟨Io,h,HA⟩:=Option.bind_eq_some_iff.1 h;refine BU gC (fun s H=> ∃DB:List Span,Io=(DB)∧ ∃Ej:AV,bQ Ej∧s=[u,u,u,u,Ej,u,u,u,u,u,u,u,u,v4,.int .i64 (De.length:Int),.int .i64 DS,u,u,u,u,u,u,u,u,u,u,u,u,u,u,u,u,u,u,u,u,u,u,u,u,u,u,u,u,u,u,u,u,u,u,u,u]∧aD H (⟨Ej,2,DB.map C_⟩::⟨v4,2,De.map C_⟩::F)) (fun If Ev=> ?_) (fun s H hq=> ?_)
   ·refine Bi fun F1 Ed=> ?_;refine Bh fun GQ Eo=> ?_;refine Bz gC ?_;try simp only [W,EE,Nat.reduceAdd]
    refine BK 1 hS rfl rfl rfl rfl rfl h (fun D4 Oi Oj Ol Ia h KA=> ?_) GX.ne;obtain ⟨Om,KB,KC⟩:=hS.elem 1 rfl KA Ia;try simp only [W,EE,EN,reduceIte,Nat.reduceAdd,Nat.reduceLeDiff,KB,KC]
    refine BG hS rfl rfl fun JB JC H hS=> ?_;try simp only [W]
    refine BH (a:= .agg [.int .i64 D4.C9,.int .i64 D4.To]) (y' := .agg [.int .i64 D4.C9,.int .i64 D4.To]) 0 hS rfl rfl rfl rfl rfl rfl rfl rfl fun H hS=> ?_
    try simp only [W]
    refine Bo Eo ?_;refine Bh fun Hy Ei=> ?_;refine Bh fun Js ER=> ?_;refine Bz gC ?_;try simp only [W,EE,Nat.reduceAdd]
    refine BM 1 hS rfl Fv rfl ?_;try simp only [W,EE]
    refine Bo ER ?_;refine Bh fun Jt GS=> ?_;obtain ⟨KD,h,KE⟩:=Option.bind_eq_some_iff.1 h;refine BU gC (fun s H=> ∃Gm:Bool,KD=(Gm)∧s=[u,u,u,u,v11,u,.ptr JB JC 0 0,.int .i64 (IntKind.i64.wrap ((D0.length:Int)-1)),u,u,u,u,u,v4,.int .i64 (De.length:Int),.int .i64 DS,u,u,u,u,u,u,u,u,u,u,u,u,u,u,u,u,u,.bool Gm,u,u,u,u,u,u,u,u,u,u,u,u,u,u,u,u,u,u]∧aD H (⟨v11,2,D0.map C_⟩::⟨v4,2,De.map C_⟩::⟨.ptr JB JC 0 0,2,[.agg [.int .i64 D4.C9,.int .i64 D4.To]]⟩::F)) (fun JD Fw=> ?_) (fun s H hq=> ?_)
    ·refine Bh fun On JE=> ?_;refine BB gC (by kernel_rfl) ?_
     try simp only [W,EE,Nat.reduceAdd]
     refine Cb h (fun hc h=> ?_) (fun hc h=> ?_)
     ·try simp only [W,EE,Nat.reduceAdd,Nat.reduceBEq,hS.var 0 rfl,hc]
      refine BK 1 hS rfl rfl rfl rfl rfl h (fun I0 Oo Oq Ot KF h KG=> ?_) Fv.ne;obtain ⟨Ou,KH,KI⟩:=hS.elem 1 rfl KG KF;try simp only [W,EE,EN,reduceIte,Nat.reduceAdd,Nat.reduceBEq,KH,KI]
      refine Bo JE ?_;refine Bn ?_;exact BV Fw ⟨_,(Option.some.inj h).symm,rfl,(hS.B9 3 [1,2,0] (by decide))⟩
     ·try simp only [W,hc]
      refine Bo JE ?_;refine Bn ?_;exact BV Fw ⟨_,(Option.some.inj h).symm,rfl,(hS.B9 3 [1,2,0] (by decide))⟩
    ·obtain ⟨Gm,Dc,rfl,hS⟩:=hq;obtain rfl:=Dc.symm;replace h:=KE;try dsimp only at h
     refine Bo GS ?_;refine Bm ?_;simp only [W];refine By h (fun hc h=> ?_) (fun hc h=> ?_)
     ·refine Bh fun JF F4=> ?_;refine Cd gC [(12,[])] (by kernel_rfl) rfl (by kernel_rfl) ?_
      try simp only [W,EE,reduceIte,Nat.reduceAdd,iH,lr,Nat.reduceEqDiff]
      refine BK 0 hS rfl rfl rfl rfl rfl h (fun Fh Ov Ox Oy KJ h KK=> ?_) Fv.ne;obtain ⟨Oz,KL,KM⟩:=hS.elem 0 rfl KK KJ;try simp only [W,EE,EN,Nat.reduceAdd,Nat.reduceBEq,hS.var 2 rfl,KL,KM]
      refine BK 0 hS rfl rfl rfl rfl rfl h (fun Dv OA OB OC Ip h JG=> ?_) Fv.ne;obtain ⟨OD,KN,OE⟩:=hS.elem 0 rfl JG Ip;try simp only [W,EE,Nat.reduceAdd,Nat.reduceBEq,KN]
      refine BL (a:= .int .i64 (if D4.To>Fh.To then D4.To else Fh.To)) (y' :=(⟨Dv.C9,(if D4.To>Fh.To then D4.To else Fh.To)⟩:Span)) 0 hS rfl JG Ip rfl rfl rfl rfl rfl rfl rfl fun H hS=> ?_
      try simp only [W]
      refine Bo F4 ?_;refine Bl ?_;refine Bq Ei ?_;refine Bt Ed ?_;exact BV Ev ⟨_,(Option.some.inj h).symm,_,Fv,rfl,(hS.B9 3 [0,1] (by decide))⟩
     ·refine Bj ?_;refine Bo Ei ?_;refine Bz gC ?_;try simp only [W,EE,reduceIte,Nat.reduceAdd,Nat.reduceLeDiff,hS.var 2 rfl]
      refine BO (el:=([D4]:List Span).map C_) hS rfl rfl rfl rfl rfl rfl rfl fun v54 H KO hS=> ?_;try simp only [W,EE]
      refine B3 (l:=D0) (c:=C_) 1 hS rfl Fv rfl rfl rfl (hS.hZ 0 rfl KO) (fun _=>rfl) rfl h fun OF H I1 KP hm h hS=> ?_;try simp only [W]
      refine Br Ed ?_;exact BV Ev ⟨_,(Option.some.inj h).symm,_,KP,rfl,(hS.B9 4 [1,2] (by decide))⟩
   ·obtain ⟨DB,Dc,Ej,Fb,rfl,hS⟩:=hq;obtain rfl:=Dc.symm;replace h:=HA;try dsimp only at h
    refine Bo DH ?_;refine Bz gC ?_;try simp only [W,EE,Nat.reduceAdd]
    exact BR DR h ⟨_,Fb,rfl,hS⟩
  ·refine Bl ?_;refine Bq D2 ?_;try obtain rfl:=Option.some.inj h
   obtain rfl:=Kz _ rfl;have h:(some (D0):Option ((List Span)))=some (D0):=rfl;refine BS DR ?_;refine Bt DA ?_;exact BV DO ⟨_,(Option.some.inj h).symm,_,Fv,rfl,(hS.B9 2 [0] (by decide))⟩
 ·obtain ⟨D8,Dc,FY,GN,rfl,hS⟩:=hq;obtain rfl:=Dc.symm;replace h:=g23;try dsimp only at h
  refine Bo DL ?_;refine Bh fun OG KQ=> ?_;refine Bz gC ?_;try simp only [W,Nat.reduceAdd]
  refine Bo KQ ?_;refine Bk ?_;refine Bw Da rfl ?_;try obtain rfl:=Option.some.inj h
  exact hP _ GN _ hS
theorem KR {a0:List Span} {a1:List Span} {r:(List Span)} (h:Gr a0 a1=some r) {F:List It} {H:J} (hS:aD H (F)) {P:AV→J→Prop} (hP: ∀v80:AV,bQ v80→ ∀H',aD H' (⟨v80,2,r.map C_⟩::F)→P (v80) H'):aq C 239 [.fz (a0.map C_),.fz (a1.map C_)] H P:=by
 refine BC gC (res:=[.tmp 4]) (n:=48) rfl rfl rfl rfl fun K0 Da=> ?_;simp only [W,Nat.reduceSub,Nat.reduceAdd,List.replicate];unfold Gr at h;refine Bh fun K1 Db=> ?_;refine Bz gC ?_;try simp only [W,Nat.reduceAdd]
 refine Bo Db ?_;refine Bh fun K2 zh=> ?_;refine Bz gC ?_;try simp only [W,Nat.reduceAdd]
 refine BN rfl rfl ?_;try simp only [W]
 refine Bo zh ?_;refine Bh fun K3 Dp=> ?_;refine Bh fun K4 Dt=> ?_;refine Bz gC ?_;try simp only [W,EE,Nat.reduceAdd]
 refine Bo Dt ?_;obtain ⟨HB,KS,g18⟩:=Option.bind_eq_some_iff.1 h;refine BU gC (fun s H=> ∃FG:List Span,HB=(FG)∧ ∃v10:AV,bQ v10∧s=[u,u,u,u,u,v10,u,u,u,u,u,u,u,u,u,u,u,u,u,u,u,u,u,u,u,u,u,u,u,u,u,u,u,u,u,u,u,u,u,u,u,u,u,u,u,u,u,u]∧aD H (⟨v10,2,FG.map C_⟩::F)) (fun E7 D5=> ?_) (fun s H hq=> ?_)
 ·refine Bi fun FX Ea=> ?_;refine BQ gC KS (fun x s H=>match x with|(Dh,DK)=> ∃v6:AV,bQ v6∧s=[u,.fz (a1.map C_),u,u,u,v6,u,u,u,u,u,u,.fz (a0.map C_),.int .i64 (a0.length:Int),.int .i64 DK,u,u,u,u,u,u,u,u,u,u,u,u,u,u,u,u,u,u,u,u,u,u,u,u,u,u,u,u,u,u,u,u,u]∧aD H (⟨v6,2,Dh.map C_⟩::F)) ⟨_,ua,rfl,(hS.zJ 2)⟩ (fun x OH s H h KT hi Fm D1=> ?_)
  obtain ⟨Dh,DK⟩:=x;try dsimp only at hi
  obtain ⟨v6,JH,rfl,hS⟩:=hi;simp only [Gq] at h;refine Bh fun EK DA=> ?_;refine Bz gC ?_;try simp only [W,EE,Nat.reduceAdd]
  refine Bo DA ?_;refine Bh fun EQ DR=> ?_;refine Bm ?_;simp only [W];refine By h (fun hc h=> ?_) (fun hc h=> ?_)
  ·refine Bj ?_;refine Bo DR ?_;refine Bh fun E_ D6=> ?_;refine Bi fun Jm GM=> ?_;refine Bh fun Jx F2=> ?_;refine Bz gC ?_;try simp only [W,EE,Nat.reduceAdd]
   refine BJ rfl rfl rfl (fun _=>rfl) h fun Dm JI h=> ?_;try simp only [W,EE,EN,reduceIte,Nat.reduceAdd,Nat.reduceLeDiff]
   refine BG hS rfl rfl fun F5 F6 H hS=> ?_;try simp only [W]
   refine BH (a:= .agg [.int .i64 Dm.C9,.int .i64 Dm.To]) (y' := .agg [.int .i64 Dm.C9,.int .i64 Dm.To]) 0 hS rfl rfl rfl rfl rfl rfl rfl rfl fun H hS=> ?_
   try simp only [W]
   refine Bo F2 ?_;refine Bh fun F1 Ed=> ?_;refine Bz gC ?_;try simp only [W,EE,Nat.reduceAdd]
   refine Bo Ed ?_;obtain ⟨KU,KV,KW⟩:=Option.bind_eq_some_iff.1 h;refine BU gC (fun s H=> ∃Eg:List Span,KU=(Eg)∧ ∃v33:AV,bQ v33∧s=[u,.fz (a1.map C_),u,u,u,v33,u,u,u,u,u,u,.fz (a0.map C_),.int .i64 (a0.length:Int),.int .i64 DK,u,u,u,u,u,u,u,u,u,u,u,u,u,u,u,u,u,u,u,u,u,u,u,u,u,u,u,u,u,u,u,u,u]∧aD H (⟨v33,2,Eg.map C_⟩::F)) (fun KX Iq=> ?_) (fun s H hq=> ?_)
   ·refine Bi fun OI KY=> ?_;refine BQ gC KV (fun x s H=>match x with|(DB,Ef)=> ∃Ej:AV,bQ Ej∧s=[u,.fz (a1.map C_),u,u,u,Ej,u,.ptr F5 F6 0 0,u,u,u,u,.fz (a0.map C_),.int .i64 (a0.length:Int),.int .i64 DK,u,u,u,.fz (a1.map C_),.int .i64 (a1.length:Int),.int .i64 Ef,u,u,u,u,u,u,u,u,u,u,u,u,u,u,u,u,u,u,u,u,u,u,u,u,u,u,u]∧aD H (⟨Ej,2,DB.map C_⟩::⟨.ptr F5 F6 0 0,2,[.agg [.int .i64 Dm.C9,.int .i64 Dm.To]]⟩::F)) ⟨_,JH,rfl,(hS.B9 2 [1,0] (by decide))⟩ (fun x OJ s H h KZ hi Kp Hv=> ?_)
    obtain ⟨DB,Ef⟩:=x;try dsimp only at hi
    obtain ⟨Ej,Fb,rfl,hS⟩:=hi;simp only [FF] at h;refine Bh fun Ju GU=> ?_;refine Bz gC ?_;try simp only [W,EE,Nat.reduceAdd]
    refine Bo GU ?_;refine Bh fun K_ HC=> ?_;refine Bm ?_;simp only [W];refine By h (fun hc h=> ?_) (fun hc h=> ?_)
    ·refine Bj ?_;refine Bo HC ?_;refine Bh fun La Ir=> ?_;obtain ⟨Lb,h,Lc⟩:=Option.bind_eq_some_iff.1 h;refine BU gC (fun s H=> ∃Gp:List Span,Lb=(Gp)∧ ∃HD:AV,bQ HD∧s=[u,.fz (a1.map C_),u,u,u,HD,u,.ptr F5 F6 0 0,u,u,u,u,.fz (a0.map C_),.int .i64 (a0.length:Int),.int .i64 DK,u,u,u,.fz (a1.map C_),.int .i64 (a1.length:Int),.int .i64 Ef,u,u,u,u,u,u,u,u,u,u,u,u,u,u,u,u,u,u,u,u,u,u,u,u,u,u,u]∧aD H (⟨HD,2,Gp.map C_⟩::⟨.ptr F5 F6 0 0,2,[.agg [.int .i64 Dm.C9,.int .i64 Dm.To]]⟩::F)) (fun Ld Is=> ?_) (fun s H hq=> ?_)
     ·refine Bi fun JD Fw=> ?_;refine Bh fun Le Iu=> ?_;refine Bz gC ?_;try simp only [W,EE,Nat.reduceAdd]
      refine BJ rfl rfl rfl (fun _=>rfl) h fun Dv Ip h=> ?_;try simp only [W,EE,EN,reduceIte,Nat.reduceAdd,Nat.reduceLeDiff]
      refine BG hS rfl rfl fun OK OL H hS=> ?_;try simp only [W]
      refine BH (a:= .agg [.int .i64 Dv.C9,.int .i64 Dv.To]) (y' := .agg [.int .i64 Dv.C9,.int .i64 Dv.To]) 0 hS rfl rfl rfl rfl rfl rfl rfl rfl fun H hS=> ?_
      try simp only [W]
      refine Bo Iu ?_;refine Bh fun OM Lf=> ?_;refine Bz gC ?_;try simp only [W,EE,Nat.reduceAdd,Nat.reduceBEq,hS.var 2 rfl,hS.var 0 rfl]
      refine Cc rfl rfl rfl rfl rfl ?_;try simp only [W]
      refine BG hS rfl rfl fun ON OO H hS=> ?_;try simp only [W]
      refine BH (a:= .agg [.int .i64 (if Dv.C9>Dm.C9 then Dv.C9 else Dm.C9),.int .i64 (if Dv.To<Dm.To then Dv.To else Dm.To)]) (y' := .agg [.int .i64 (if Dv.C9>Dm.C9 then Dv.C9 else Dm.C9),.int .i64 (if Dv.To<Dm.To then Dv.To else Dm.To)]) 0 hS rfl rfl rfl rfl rfl rfl rfl rfl fun H hS=> ?_
      try simp only [W]
      refine Bo Lf ?_;refine Bh fun Lg HE=> ?_;refine Bz gC ?_;try simp only [W,EE,Nat.reduceAdd,Nat.reduceBEq,hS.var 0 rfl]
      refine Bo HE ?_;obtain ⟨Iv,h,Iw⟩:=Option.bind_eq_some_iff.1 h;refine BU gC (fun s H=> ∃Gn:List Span,Iv=(Gn)∧ ∃v60:AV,bQ v60∧s=[u,.fz (a1.map C_),u,u,u,v60,u,.ptr F5 F6 0 0,u,u,u,u,.fz (a0.map C_),.int .i64 (a0.length:Int),.int .i64 DK,u,u,u,.fz (a1.map C_),.int .i64 (a1.length:Int),.int .i64 Ef,u,u,u,u,u,u,u,u,u,u,u,u,u,u,u,u,u,u,u,u,u,u,u,u,u,u,u]∧aD H (⟨v60,2,Gn.map C_⟩::⟨.ptr F5 F6 0 0,2,[.agg [.int .i64 Dm.C9,.int .i64 Dm.To]]⟩::F)) (fun Lh GY=> ?_) (fun s H hq=> ?_)
      ·refine Bh fun Li GZ=> ?_;refine Bm ?_;simp only [W];refine By h (fun hc h=> ?_) (fun hc h=> ?_)
       ·refine Bz gC ?_;try simp only [W,EE,reduceIte,Nat.reduceAdd,Nat.reduceLeDiff,hS.var 0 rfl]
        refine BO (el:=([(⟨(if Dv.C9>Dm.C9 then Dv.C9 else Dm.C9),(if Dv.To<Dm.To then Dv.To else Dm.To)⟩:Span)]:List Span).map C_) hS rfl rfl rfl rfl rfl rfl rfl fun v66 H Lj hS=> ?_;try simp only [W,EE]
        refine B3 (l:=DB) (c:=C_) 3 hS rfl Fb rfl rfl rfl (hS.hZ 0 rfl Lj) (fun _=>rfl) rfl h fun OP H I2 Lk hm h hS=> ?_;try simp only [W]
        refine Bo GZ ?_;refine Bn ?_;exact BV GY ⟨_,(Option.some.inj h).symm,_,Lk,rfl,(hS.B9 5 [3,4] (by decide))⟩
       ·refine Bj ?_;refine Bo GZ ?_;refine Bn ?_;exact BV GY ⟨_,(Option.some.inj h).symm,_,Fb,rfl,(hS.B9 4 [2,3] (by decide))⟩
      ·obtain ⟨Gn,Dc,v60,Ll,rfl,hS⟩:=hq;obtain rfl:=Dc.symm;replace h:=Iw;try dsimp only at h
       refine Br Fw ?_;exact BV Is ⟨_,(Option.some.inj h).symm,_,Ll,rfl,hS⟩
     ·obtain ⟨Gp,Dc,HD,Ln,rfl,hS⟩:=hq;obtain rfl:=Dc.symm;replace h:=Lc;try dsimp only at h
      refine Bo Ir ?_;refine Bz gC ?_;try simp only [W,EE,Nat.reduceAdd]
      exact BR Hv h ⟨_,Ln,rfl,hS⟩
    ·refine Bl ?_;refine Bq HC ?_;try obtain rfl:=Option.some.inj h
     obtain rfl:=KZ _ rfl;have h:(some (DB):Option ((List Span)))=some (DB):=rfl;refine BS Hv ?_;refine Bt KY ?_;exact BV Iq ⟨_,(Option.some.inj h).symm,_,Fb,rfl,(hS.B9 2 [0] (by decide))⟩
   ·obtain ⟨Eg,Dc,v33,Lo,rfl,hS⟩:=hq;obtain rfl:=Dc.symm;replace h:=KW;try dsimp only at h
    refine Bs GM ?_;refine Bo D6 ?_;refine Bz gC ?_;try simp only [W,EE,Nat.reduceAdd]
    exact BR D1 h ⟨_,Lo,rfl,hS⟩
  ·refine Bl ?_;refine Bq DR ?_;try obtain rfl:=Option.some.inj h
   obtain rfl:=KT _ rfl;have h:(some (Dh):Option ((List Span)))=some (Dh):=rfl;refine BS D1 ?_;refine Bt Ea ?_;exact BV D5 ⟨_,(Option.some.inj h).symm,_,JH,rfl,hS⟩
 ·obtain ⟨FG,Dc,v10,H4,rfl,hS⟩:=hq;obtain rfl:=Dc.symm;replace h:=g18;try dsimp only at h
  refine Bo Dp ?_;refine Bh fun OQ Lp=> ?_;refine Bz gC ?_;try simp only [W,Nat.reduceAdd,Nat.reduceBEq,List.contains_cons,Nat.reduceBEq,Bool.or_self]
  refine Cx (cb:=[[.sl [.sc,.sc]]]) (ys:=[.fz (FG.map C_)]) h rfl (Co (Cm hS 0 rfl H4 (fun _=>rfl)) Cn) fun HW Lq h=>⟨.own 2 (HW.map C_),Kx Lq (aD.nil _) fun v77 Lr H hS=>Cs rfl (Cr 0 hS rfl Lr (fun _ _=>by simp [aY,aP,ct,du,C_]) fun H hS=>Cp rfl),(Cy _ (fun _=>rfl) _),?_⟩
  refine Cv ?_;refine Cu hS (fun _ _=>rfl) (fun _=>rfl) fun v79 H Ls hS=> ?_;refine Ct ?_;try simp only [List.headD_cons]
  try simp only [W]
  refine Bo Lp ?_;refine Bk ?_;refine Bw Da rfl ?_;try obtain rfl:=Option.some.inj h
  exact hP _ Ls _ (hS.B9 2 [0] (by decide))
theorem Lt {a0:List Span} {r:(List Span×Bool)} (h:Gs a0=some r) {F:List It} {H:J} (hS:aD H (F)) {P:AV→J→Prop} (hP: ∀H',aD H' (F)→P (.aB [.fz (r.1.map C_),.bool r.2]) H'):aq C 238 [.fz (a0.map C_)] H P:=by
 refine BC gC (res:=[.tmp 2,.tmp 3]) (n:=8) rfl rfl rfl rfl fun K0 Da=> ?_;simp only [W,Nat.reduceSub,Nat.reduceAdd,List.replicate];unfold Gs at h;refine Bh fun K1 Db=> ?_;refine Bz gC ?_;try simp only [W,Nat.reduceAdd]
 refine Bo Db ?_;refine Bh fun K2 zh=> ?_;refine Bh fun K3 Dp=> ?_;refine Bz gC ?_;try simp only [W,EE,Nat.reduceAdd]
 refine Bo Dp ?_;refine Bm ?_;simp only [W];refine By h (fun hc h=> ?_) (fun hc h=> ?_)
 ·refine Bh fun K4 Dt=> ?_;refine Bh fun K5 DN=> ?_;refine Bz gC ?_;try simp only [W,Nat.reduceAdd]
  refine Bo DN ?_;refine B8 ?_;refine B7 rfl ?_;simp only [W];refine Bo Dt ?_;refine Bk ?_;refine Bp zh ?_;refine Bx Da rfl rfl ?_;try obtain rfl:=Option.some.inj h
  exact hP _ hS
 ·refine Bj ?_;refine Bo zh ?_;refine Bh fun K6 Di=> ?_;refine Bz gC ?_;try simp only [W,Nat.reduceAdd]
  refine Bo Di ?_;refine Bk ?_;refine Bx Da rfl rfl ?_;try obtain rfl:=Option.some.inj h
  exact hP _ hS
theorem Lu {a0:List Span} {a1:List Span} {r:(List Span×Bool)} (h:FH a0 a1=some r) {F:List It} {H:J} (hS:aD H (F)) {P:AV→J→Prop} (hP: ∀H',aD H' (F)→P (.aB [.fz (r.1.map C_),.bool r.2]) H'):aq C 101 [.fz (a0.map C_),.fz (a1.map C_)] H P:=by
 refine BC gC (res:=[.tmp 4,.tmp 5]) (n:=20) rfl rfl rfl rfl fun K0 Da=> ?_;simp only [W,Nat.reduceSub,Nat.reduceAdd,List.replicate];unfold FH at h;refine Bh fun K1 Db=> ?_;refine Bz gC ?_;try simp only [W,Nat.reduceAdd]
 refine Bo Db ?_;refine Bh fun K2 zh=> ?_;refine Bh fun K3 Dp=> ?_;obtain ⟨Fx,h,g6⟩:=Option.bind_eq_some_iff.1 h;refine BU gC (fun s H=> ∃Dw:Bool,Fx=(Dw)∧s=[.fz (a0.map C_),.fz (a1.map C_),u,u,u,u,u,u,u,u,u,u,u,.bool Dw,u,u,u,u,u,u]∧aD H (F)) (fun K7 Dn=> ?_) (fun s H hq=> ?_)
 ·refine Bh fun K8 DL=> ?_;refine Bz gC ?_;try simp only [W,Nat.reduceAdd]
  refine BP h fun Hb Ix h=> ?_;refine Hz Ix hS fun H hS=> ?_;try simp only [W]
  refine Cb h (fun hc h=> ?_) (fun hc h=> ?_)
  ·try simp only [W,hc]
   refine Bo DL ?_;refine Bn ?_;exact BV Dn ⟨_,(Option.some.inj h).symm,rfl,hS⟩
  ·try simp only [W,hc]
   refine BP h fun El Hs h=> ?_;refine Hz Hs hS fun H hS=> ?_;try simp only [W,reduceIte,Bool.false_eq_true]
   refine Bo DL ?_;refine Bn ?_;exact BV Dn ⟨_,(Option.some.inj h).symm,rfl,hS⟩
 ·obtain ⟨Dw,Dc,rfl,hS⟩:=hq;obtain rfl:=Dc.symm;replace h:=g6;try dsimp only at h
  refine Bo Dp ?_;refine Bm ?_;simp only [W];refine By h (fun hc h=> ?_) (fun hc h=> ?_)
  ·refine Bh fun E2 DW=> ?_;refine Bh fun E6 DF=> ?_;refine Bz gC ?_;try simp only [W,Nat.reduceAdd]
   refine Bo DF ?_;refine B8 ?_;refine B7 rfl ?_;simp only [W];refine Bo DW ?_;refine Bk ?_;refine Bp zh ?_;refine Bx Da rfl rfl ?_;try obtain rfl:=Option.some.inj h
   exact hP _ hS
  ·refine Bj ?_;refine Bo zh ?_;refine Bh fun E7 D5=> ?_;refine BA (fz:=[(3,[([16],[.sl [.sc,.sc]])])]) gC ?_;try simp only [W,Nat.reduceAdd,Nat.reduceBEq]
   refine BP h fun Em Ft h=> ?_;refine KR Ft hS fun FY GN H hS=> ?_;try simp only [W,Nat.reduceAdd]
   refine B6 0 hS rfl GN rfl (fun _ _=>by simp [aY,aP,ct,du,C_]) (fun _=>rfl) fun H ry hS=> ?_
   try simp only [W]
   refine BP h fun EH H7 h=> ?_;obtain ⟨Dj,Ee⟩:=EH;try dsimp only at h
   refine Lt H7 hS fun H hS=> ?_;try simp only [W,Nat.reduceAdd,Nat.reduceBEq]
   refine Bo D5 ?_;refine Bk ?_;refine Bx Da rfl rfl ?_;try obtain rfl:=Option.some.inj h
   exact hP _ hS
theorem JJ {a0:Df} {i0:Nat} {w0:Nat} {r:(List Span×Df)} (h:FI a0=some r) {F:List It} {H:J} (hS:aD H (⟨.ptr i0 w0 0 0,3,[.agg [.fz (a0.Code.map (AV.int .u8)),.int .i64 a0.At,.int .u64 a0.Du]]⟩::F)) {P:AV→J→Prop} (hP: ∀v91:AV,bQ v91→ ∀H',aD H' (⟨v91,2,r.1.map C_⟩::⟨.ptr i0 w0 0 0,3,[.agg [.fz (r.2.Code.map (AV.int .u8)),.int .i64 r.2.At,.int .u64 r.2.Du]]⟩::F)→P (v91) H'):aq C 240 [.ptr i0 w0 0 0] H P:=by
 refine BC gC (res:=[.tmp 2]) (n:=51) rfl rfl rfl rfl fun K0 Da=> ?_;simp only [W,Nat.reduceSub,Nat.reduceAdd,List.replicate];unfold FI at h;refine Bh fun K1 Db=> ?_;refine Bz gC ?_;try simp only [W,Nat.reduceAdd]
 refine Bo Db ?_;refine Bh fun K2 zh=> ?_;refine Bz gC ?_;try simp only [W,Nat.reduceAdd]
 refine Bo zh ?_;refine Bh fun K3 Dp=> ?_;refine Bz gC ?_;try simp only [W,Nat.reduceAdd]
 refine BP h fun DY ET h=> ?_;obtain ⟨Ey,Eb⟩:=DY;try dsimp only at h
 refine Eh ET hS fun H hS=> ?_;try simp only [W]
 refine Bo Dp ?_;refine Bh fun K7 Dn=> ?_;refine Bh fun K8 DL=> ?_;refine Bz gC ?_;try simp only [W,Nat.reduceAdd]
 refine BP h fun Hb Ix h=> ?_;obtain ⟨El,DT⟩:=Hb;try dsimp only at h
 refine Ht Ix hS fun H hS=> ?_;try simp only [W]
 refine Bo DL ?_;obtain ⟨Fp,h,g17⟩:=Option.bind_eq_some_iff.1 h;refine BU gC (fun s H=> ∃Ew:Int,∃DS:List Int,∃D8:Int,∃D9:Int,Fp=(Ew,DS,D8,D9)∧s=[.ptr i0 w0 0 0,u,u,.nil,.int .i64 Ew,u,u,u,u,u,u,u,u,u,u,u,u,u,u,u,u,u,u,u,u,u,u,u,u,u,u,u,u,u,u,u,u,u,u,u,u,u,u,u,u,u,u,u,u,u,u]∧aD H (⟨.ptr i0 w0 0 0,3,[.agg [.fz (DS.map (AV.int .u8)),.int .i64 D8,.int .u64 D9]]⟩::F)) (fun E9 DO=> ?_) (fun s H hq=> ?_)
 ·refine Bh fun EK DA=> ?_;refine Bm ?_;simp only [W];refine By h (fun hc h=> ?_) (fun hc h=> ?_)
  ·refine Bz gC ?_;try simp only [W,Nat.reduceAdd]
   refine BP h fun Et GP h=> ?_;obtain ⟨Dd,DC⟩:=Et;try dsimp only at h
   refine Eh GP hS fun H hS=> ?_;try simp only [W,EE]
   refine Bo DA ?_;refine Bn ?_;exact BV DO ⟨_,_,_,_,(Option.some.inj h).symm,rfl,hS⟩
  ·refine Bj ?_;refine Bo DA ?_;refine Bn ?_;exact BV DO ⟨_,_,_,_,(Option.some.inj h).symm,rfl,hS⟩
 ·obtain ⟨Ew,DS,D8,D9,rfl,rfl,hS⟩:=hq;replace h:=g17;try dsimp only at h
  refine Bo Dn ?_;refine Bh fun Jx F2=> ?_;refine Bz gC ?_;try simp only [W,Nat.reduceAdd]
  refine BP h fun Dm JI h=> ?_;obtain ⟨He,EA⟩:=Dm;try dsimp only at h
  refine Eh JI hS fun H hS=> ?_;try simp only [W]
  refine Bo F2 ?_;refine Bh fun F1 Ed=> ?_;obtain ⟨Lv,Lw,Ly⟩:=Option.bind_eq_some_iff.1 h;refine BU gC (fun s H=> ∃DJ:List Span,∃FJ:List Int,∃FK:Int,∃FL:Int,Lv=(DJ,FJ,FK,FL)∧ ∃v37:AV,bQ v37∧s=[.ptr i0 w0 0 0,u,u,v37,u,u,u,u,u,u,u,u,u,u,u,u,u,u,u,u,u,u,u,u,u,u,u,u,u,u,u,u,u,u,u,u,u,u,u,u,u,u,u,u,u,u,u,u,u,u,u]∧aD H (⟨v37,2,DJ.map C_⟩::⟨.ptr i0 w0 0 0,3,[.agg [.fz (FJ.map (AV.int .u8)),.int .i64 FK,.int .u64 FL]]⟩::F)) (fun K_ HC=> ?_) (fun s H hq=> ?_)
  ·refine Bi fun La Ir=> ?_;refine BQ gC Lw (fun x s H=>match x with|(DB,Ef,Eg,Fi,Fj,Fk)=> ∃Ej:AV,bQ Ej∧s=[.ptr i0 w0 0 0,u,u,Ej,.int .i64 Ef,.int .i64 Eg,u,u,u,u,u,u,u,u,u,u,u,u,u,u,u,u,u,u,u,u,u,u,u,u,u,u,u,u,u,u,u,u,u,u,u,u,u,u,u,u,u,u,u,u,u]∧aD H (⟨Ej,2,DB.map C_⟩::⟨.ptr i0 w0 0 0,3,[.agg [.fz (Fi.map (AV.int .u8)),.int .i64 Fj,.int .u64 Fk]]⟩::F)) ⟨_,zu,rfl,(hS.B4 2)⟩ (fun x OR s H h Lz hi JD Fw=> ?_)
   obtain ⟨DB,Ef,Eg,Fi,Fj,Fk⟩:=x;try dsimp only at hi
   obtain ⟨Ej,Fb,rfl,hS⟩:=hi;simp only [HX] at h;refine Bh fun JF F4=> ?_;refine Bh fun Ld Is=> ?_;refine Bz gC ?_;try simp only [W,EE,Nat.reduceAdd]
   refine Bo Is ?_;refine Bm ?_;simp only [W];refine By h (fun hc h=> ?_) (fun hc h=> ?_)
   ·refine Bj ?_;refine Bo F4 ?_;refine Bh fun Le Iu=> ?_;refine Bi fun OS LA=> ?_;refine Bh fun LB Iy=> ?_;refine Bz gC ?_;try simp only [W,EE,Nat.reduceAdd]
    refine BP h fun LC LD h=> ?_;obtain ⟨Hc,I3⟩:=LC;try dsimp only at h
    refine Eh LD (hS.B9 2 [1,0] (by decide)) fun H hS=> ?_
    try simp only [W,EE]
    refine Bo Iy ?_;refine Bh fun OT LF=> ?_;refine Bz gC ?_;try simp only [W,EE,Nat.reduceAdd]
    refine Cc rfl rfl rfl rfl rfl ?_;try simp only [W]
    refine BO (el:=([(⟨Eg,(IntKind.i64.wrap ((IntKind.i64.wrap (Eg+1))+Hc))⟩:Span)]:List Span).map C_) hS rfl rfl rfl rfl rfl rfl rfl fun v58 H LG hS=> ?_;try simp only [W,EE]
    refine B3 (l:=DB) (c:=C_) 2 hS rfl Fb rfl rfl rfl (hS.hZ 0 rfl LG) (fun _=>rfl) rfl h fun OU H I4 LH hm h hS=> ?_;try simp only [W]
    refine Bo LF ?_;refine Bz gC ?_;try simp only [W,EE,Nat.reduceAdd]
    refine BP h fun LI LJ h=> ?_;obtain ⟨I5,Hd⟩:=LI;try dsimp only at h
    refine Eh LJ (hS.B9 3 [1,0,2] (by decide)) fun H hS=> ?_
    try simp only [W,EE]
    refine Bs LA ?_;refine Bo Iu ?_;refine Bz gC ?_;try simp only [W,EE,Nat.reduceAdd]
    exact BR Fw h ⟨_,LH,rfl,(hS.B9 3 [2,0] (by decide))⟩
   ·refine Bl ?_;refine Bq F4 ?_;try obtain rfl:=Option.some.inj h
    obtain rfl:=Lz _ rfl;have h:(some (DB,Fi,Fj,Fk):Option ((List Span)×(List Int)×Int×Int))=some (DB,Fi,Fj,Fk):=rfl;refine BS Fw ?_;refine Bt Ir ?_;exact BV HC ⟨_,_,_,_,(Option.some.inj h).symm,_,Fb,rfl,hS⟩
  ·obtain ⟨DJ,FJ,FK,FL,rfl,v37,HF,rfl,hS⟩:=hq;replace h:=Ly;try dsimp only at h
   refine Bo Ed ?_;refine Bh fun OV LK=> ?_;refine Bh fun OW LL=> ?_;obtain ⟨Iz,h,IA⟩:=Option.bind_eq_some_iff.1 h;refine BU gC (fun s H=> ∃Gt:Bool,∃FM:List Int,∃FN:Int,∃Ec:Int,Iz=(Gt,FM,FN,Ec)∧s=[u,u,u,v37,u,u,u,u,u,u,u,u,u,u,u,u,u,u,u,u,u,u,u,u,u,u,u,u,u,u,u,u,u,u,u,u,u,u,u,u,u,u,.bool Gt,u,u,u,u,u,u,u,u]∧aD H (⟨v37,2,DJ.map C_⟩::⟨.ptr i0 w0 0 0,3,[.agg [.fz (FM.map (AV.int .u8)),.int .i64 FN,.int .u64 Ec]]⟩::F)) (fun LM G0=> ?_) (fun s H hq=> ?_)
   ·refine Bh fun LN G3=> ?_;refine Bz gC ?_;try simp only [W,EE,Nat.reduceAdd]
    refine BM 0 hS rfl HF rfl ?_;try simp only [W,EE]
    refine Cb h (fun hc h=> ?_) (fun hc h=> ?_)
    ·try simp only [W,hc]
     refine BP h fun LO LP h=> ?_;obtain ⟨I6,Hf⟩:=LO;try dsimp only at h
     refine Ht LP (hS.B9 2 [1,0] (by decide)) fun H hS=> ?_
     try simp only [W,reduceIte]
     refine Bo G3 ?_;refine Bn ?_;exact BV G0 ⟨_,_,_,_,(Option.some.inj h).symm,rfl,(hS.B9 2 [1,0] (by decide))⟩
    ·try simp only [W,hc]
     refine Bo G3 ?_;refine Bn ?_;exact BV G0 ⟨_,_,_,_,(Option.some.inj h).symm,rfl,hS⟩
   ·obtain ⟨Gt,FM,FN,Ec,rfl,rfl,hS⟩:=hq;replace h:=IA;try dsimp only at h
    refine Bo LL ?_;obtain ⟨LQ,h,LS⟩:=Option.bind_eq_some_iff.1 h;refine BU gC (fun s H=> ∃Gu:List Span,LQ=(Gu)∧s=[u,u,u,v37,u,u,u,u,u,u,u,u,u,u,u,u,u,u,u,u,u,u,u,u,u,u,u,u,u,u,u,u,u,u,u,u,u,u,u,u,u,u,u,u,u,u,u,u,u,u,u]∧aD H (⟨v37,2,Gu.map C_⟩::⟨.ptr i0 w0 0 0,3,[.agg [.fz (FM.map (AV.int .u8)),.int .i64 FN,.int .u64 Ec]]⟩::F)) (fun LU HG=> ?_) (fun s H hq=> ?_)
    ·refine Bh fun OX JK=> ?_;refine Bm ?_;simp only [W];refine By h (fun hc h=> ?_) (fun hc h=> ?_)
     ·refine Bz gC ?_;try simp only [W,EE,Nat.reduceAdd]
      refine BK 0 hS rfl rfl rfl rfl rfl h (fun Hg OY OZ O0 LV h LW=> ?_) HF.ne;obtain ⟨O1,LX,LY⟩:=hS.elem 0 rfl LW LV;try simp only [W,EE,EN,Nat.reduceAdd,Nat.reduceBEq,LX,LY]
      refine BK 0 hS rfl rfl rfl rfl rfl h (fun HY O2 O3 O4 JL h JM=> ?_) HF.ne;obtain ⟨O5,LZ,O6⟩:=hS.elem 0 rfl JM JL;try simp only [W,EE,Nat.reduceAdd,Nat.reduceBEq,LZ]
      refine BL (a:= .int .i64 (IntKind.i64.wrap (Hg.To+3))) (y' :=(⟨HY.C9,(IntKind.i64.wrap (Hg.To+3))⟩:Span)) 0 hS rfl JM JL rfl rfl rfl rfl rfl rfl rfl fun H hS=> ?_
      try simp only [W]
      refine Bo JK ?_;refine Bn ?_;exact BV HG ⟨_,(Option.some.inj h).symm,rfl,hS⟩
     ·refine Bj ?_;refine Bo JK ?_;refine Bn ?_;exact BV HG ⟨_,(Option.some.inj h).symm,rfl,hS⟩
    ·obtain ⟨Gu,Dc,rfl,hS⟩:=hq;obtain rfl:=Dc.symm;replace h:=LS;try dsimp only at h
     refine Bo LK ?_;refine Bh fun L3 IB=> ?_;refine Bz gC ?_;try simp only [W,Nat.reduceAdd]
     refine Bo IB ?_;refine Bk ?_;refine Bw Da rfl ?_;try obtain rfl:=Option.some.inj h
     exact hP _ HF _ hS
theorem L4 {a0:List Int} {r:(List Span×Int)} (h:Gv a0=some r) {F:List It} {H:J} (hS:aD H (F)) {P:AV→J→Prop} (hP: ∀IC:AV,bQ IC→ ∀H',aD H' (⟨IC,2,r.1.map C_⟩::F)→P (.aB [IC,.int .i64 r.2]) H'):aq C 102 [.fz (a0.map (AV.int .u8))] H P:=by
 refine BC gC (res:=[.tmp 2,.tmp 3]) (n:=13) rfl rfl rfl rfl fun K0 Da=> ?_;simp only [W,Nat.reduceSub,Nat.reduceAdd,List.replicate];unfold Gv at h;refine Bh fun K1 Db=> ?_;refine Bz gC ?_;try simp only [W,Nat.reduceAdd]
 refine Bo Db ?_;refine Bh fun K2 zh=> ?_;refine Bz gC ?_;try simp only [W,EE,Nat.reduceAdd]
 refine Cc rfl rfl rfl rfl rfl ?_;try simp only [W]
 refine BF hS rfl rfl rfl rfl fun L5 L6 H hS=> ?_;try simp only [W]
 refine Bo zh ?_;refine Bh fun K5 DN=> ?_;refine Bz gC ?_;try simp only [W,Nat.reduceAdd]
 refine BP h fun Eb EJ h=> ?_;obtain ⟨De,Dy⟩:=Eb;try dsimp only at h
 refine JJ EJ hS fun v9 ID H hS=> ?_;try simp only [W]
 refine BP h fun DT L7 h=> ?_;obtain ⟨Ff,Ez⟩:=DT;try dsimp only at h
 refine Eh L7 (hS.B9 2 [1,0] (by decide)) fun H hS=> ?_
 try simp only [W,EE]
 refine Bo DN ?_;refine Bk ?_;refine Bx Da rfl rfl ?_;try obtain rfl:=Option.some.inj h
 exact hP _ ID _ (hS.B9 2 [1] (by decide))
theorem L8 {a0:Span} {a1:Int} {i1:Nat} {w1:Nat} {r:(Bool)} (h:Hh a0 a1=some r) {F:List It} {H:J} (JN:⟨.ptr i1 w1 0 0,1,[.int .i64 a1]⟩∈F) (hS:aD H (F)) {P:AV→J→Prop} (hP: ∀H',aD H' (F)→P (.bool r) H'):aq C 310 [.agg [.int .i64 a0.C9,.int .i64 a0.To],.ptr i1 w1 0 0] H P:=by
 refine BC gC (res:=[.tmp 3]) (n:=14) rfl rfl rfl rfl fun K0 Da=> ?_;simp only [W,Nat.reduceSub,Nat.reduceAdd,List.replicate];unfold Hh at h;refine Bh fun K1 Db=> ?_;refine Bz gC ?_;try simp only [W,Nat.reduceAdd]
 refine BF hS rfl rfl rfl rfl fun Dk Dl H hS=> ?_;try simp only [W]
 refine Bo Db ?_;refine Bh fun K4 Dt=> ?_;refine Bz gC ?_;try simp only [W,EE,Nat.reduceAdd,Nat.reduceBEq,hS.B5 (List.mem_cons_of_mem _ (JN)),hS.var 0 rfl]
 refine Cb h (fun hc h=> ?_) (fun hc h=> ?_)
 ·try simp only [W,EE,reduceIte,Nat.reduceAdd,Nat.reduceBEq,hS.B5 (List.mem_cons_of_mem _ (JN)),hS.var 0 rfl,hc]
  refine Bo Dt ?_;refine Bk ?_;refine Bw Da rfl ?_;try obtain rfl:=Option.some.inj h
  exact hP _ (hS.B9 1 [] (by decide))
 ·try simp only [W,hc]
  refine Bo Dt ?_;refine Bk ?_;refine Bw Da rfl ?_;try obtain rfl:=Option.some.inj h
  exact hP _ (hS.B9 1 [] (by decide))
theorem L9 {a0:List Span} {g1:Span→Option Bool} {f1:FuncId} {c1:List AV} {r:(Int)} (h:Gw a0 g1=some r) {F:List It} {H:J} (cF: ∀{x0:Span} {r:Bool},g1 x0=some r→ ∀(L:List It) (n:Nat),L.drop n=F→ ∀(H:J),aD H L→ ∀(P:AV→J→Prop),(∀H',aD H' L→P (.bool r) H')→aq C f1 ([.agg [.int .i64 x0.C9,.int .i64 x0.To]] ++ c1) H P) (hS:aD H (F)) {P:AV→J→Prop} (hP: ∀H',aD H' (F)→P (.int .i64 r) H'):aq C 335 [.fz (a0.map C_),.fn f1 c1] H P:=by
 refine BC gC (res:=[.tmp 4]) (n:=19) rfl rfl rfl rfl fun K0 Da=> ?_;simp only [W,Nat.reduceSub,Nat.reduceAdd,List.replicate];unfold Gw at h;refine Bh fun K1 Db=> ?_;refine Bz gC ?_;try simp only [W,Nat.reduceAdd]
 refine Bo Db ?_;refine Bh fun K2 zh=> ?_;refine Bh fun K3 Dp=> ?_;refine Bz gC ?_;try simp only [W,EE,Nat.reduceAdd]
 refine Bo Dp ?_;obtain ⟨Fx,G4,g12⟩:=Option.bind_eq_some_iff.1 h;refine BU gC (fun s H=>Fx=LR.next ()∧s=[u,u,u,u,u,u,u,u,u,u,u,u,u,u,u,u,u,u,u]∧aD H (F)) (fun K7 Dn=> ?_) (fun s H hq=> ?_)
 ·refine Bi fun K8 DL=> ?_;refine BQ gC G4 (fun x s H=>s=[.fz (a0.map C_),.fn f1 c1,u,u,u,u,u,.int .i64 (a0.length:Int),.int .i64 x,u,u,u,u,u,u,u,u,u,u]∧aD H (F)) ⟨rfl,hS⟩ (fun Dw HB s H h Fc hi K9 Dz=> ?_)
  skip
  try dsimp only at hi
  obtain ⟨rfl,hS⟩:=hi;simp only [HZ] at h;refine Bh fun E7 D5=> ?_;refine Bz gC ?_;try simp only [W,EE,Nat.reduceAdd]
  refine Bo D5 ?_;refine Bh fun FX Ea=> ?_;refine Bm ?_;simp only [W];refine By h (fun hc h=> ?_) (fun hc h=> ?_)
  ·refine Bj ?_;refine Bo Ea ?_;refine Bh fun Fm D1=> ?_;refine Bi fun E8 DM=> ?_;refine Bh fun EP DG=> ?_;refine Bz gC ?_;try simp only [W,Nat.reduceAdd]
   refine Bo DG ?_;refine Bh fun E9 DO=> ?_;refine Bz gC ?_;try simp only [W,EE,Nat.reduceAdd]
   refine BJ rfl rfl rfl (fun _=>rfl) h fun Ee Jl h=> ?_;try simp only [W,EE,EN,reduceIte,Nat.reduceAdd,Nat.reduceLeDiff]
   refine BP h fun Et GP h=> ?_;refine cF GP _ 0 rfl _ hS _ fun H hS=> ?_;try simp only [W]
   refine Bo DO ?_;refine Bm ?_;simp only [W];refine By h (fun hc h=> ?_) (fun hc h=> ?_)
   ·refine Bh fun E_ D6=> ?_;refine Bz gC ?_;try simp only [W,Nat.reduceAdd]
    refine Bo D6 ?_;refine Bk ?_;refine Bu DM ?_;refine Bp D1 ?_;try obtain rfl:=Option.some.inj h
    obtain rfl:=Fc _ rfl;have h:(some (LR.done Dw):Option (LR Unit (Int)))=some (LR.done Dw):=rfl;refine BT Dz ?_;refine Bu DL ?_;try obtain rfl:=Option.some.inj h
    obtain rfl:=Option.some.inj g12;have h:(some Dw:Option (Int))=some Dw:=rfl;refine BW Dn ?_;refine Bp zh ?_;refine Bw Da rfl ?_;try obtain rfl:=Option.some.inj h
    exact hP _ hS
   ·refine Bj ?_;refine Bs DM ?_;refine Bo D1 ?_;refine Bz gC ?_;try simp only [W,EE,Nat.reduceAdd]
    exact BR Dz h ⟨rfl,hS⟩
  ·refine Bl ?_;refine Bq Ea ?_;try obtain rfl:=Option.some.inj h
   obtain rfl:=Fc _ rfl;have h:(some (LR.next ()):Option (LR Unit (Int)))=some (LR.next ()):=rfl
   refine BS Dz ?_;refine Bt DL ?_;exact BV Dn ⟨(Option.some.inj h).symm,rfl,hS⟩
 ·obtain ⟨rfl,rfl,hS⟩:=hq;replace h:=g12;try dsimp only at h
  refine Bo zh ?_;refine Bh fun Hw ED=> ?_;refine Bz gC ?_;try simp only [W,Nat.reduceAdd]
  refine Bo ED ?_;refine Bk ?_;refine Bw Da rfl ?_;try obtain rfl:=Option.some.inj h
  exact hP _ hS
theorem L_ {a0:List Span} {g1:Span→Option Bool} {f1:FuncId} {c1:List AV} {r:(Bool)} (h:Gx a0 g1=some r) {F:List It} {H:J} (cF: ∀{x0:Span} {r:Bool},g1 x0=some r→ ∀(L:List It) (n:Nat),L.drop n=F→ ∀(H:J),aD H L→ ∀(P:AV→J→Prop),(∀H',aD H' L→P (.bool r) H')→aq C f1 ([.agg [.int .i64 x0.C9,.int .i64 x0.To]] ++ c1) H P) (hS:aD H (F)) {P:AV→J→Prop} (hP: ∀H',aD H' (F)→P (.bool r) H'):aq C 309 [.fz (a0.map C_),.fn f1 c1] H P:=by
 refine BC gC (res:=[.tmp 4]) (n:=9) rfl rfl rfl rfl fun K0 Da=> ?_;simp only [W,Nat.reduceSub,Nat.reduceAdd,List.replicate];unfold Gx at h;refine Bh fun K1 Db=> ?_;refine Bz gC ?_;try simp only [W,Nat.reduceAdd]
 refine Bo Db ?_;refine Bh fun K2 zh=> ?_;refine Bz gC ?_;try simp only [W,Nat.reduceAdd]
 refine BP h fun b3 kB h=> ?_;refine L9 kB cF hS fun H hS=> ?_;try simp only [W,EE]
 refine Bo zh ?_;refine Bk ?_;refine Bw Da rfl ?_;try obtain rfl:=Option.some.inj h
 exact hP _ hS
theorem Ma {a0:List Span} {a1:Int} {r:(Bool)} (h:Gy a0 a1=some r) {F:List It} {H:J} (hS:aD H (F)) {P:AV→J→Prop} (hP: ∀H',aD H' (F)→P (.bool r) H'):aq C 241 [.fz (a0.map C_),.int .i64 a1] H P:=by
 refine BC gC (res:=[.tmp 4]) (n:=8) rfl rfl rfl rfl fun K0 Da=> ?_;simp only [W,Nat.reduceSub,Nat.reduceAdd,List.replicate];unfold Gy at h;refine Bh fun K1 Db=> ?_;refine Bz gC ?_;try simp only [W,Nat.reduceAdd]
 refine BF hS rfl rfl rfl rfl fun Dk Dl H hS=> ?_;try simp only [W]
 refine Bo Db ?_;refine Bh fun K4 Dt=> ?_;refine Bz gC ?_;try simp only [W,Nat.reduceAdd]
 refine BP h fun Ey Mb h=> ?_;refine L_ Mb (fun h _ n hL _ hS _ hP=>L8 h (B_ hL (List.mem_of_getElem? (i:=0) rfl)) hS hP) hS fun H hS=> ?_;try simp only [W]
 refine Bo Dt ?_;refine Bk ?_;refine Bw Da rfl ?_;try obtain rfl:=Option.some.inj h
 exact hP _ (hS.B9 1 [] (by decide))
theorem Mc {a0:List Span} {a1:Int} {r:(Bool×Bool)} (h:FO a0 a1=some r) {F:List It} {H:J} (hS:aD H (F)) {P:AV→J→Prop} (hP: ∀H',aD H' (F)→P (.aB [.bool r.1,.bool r.2]) H'):aq C 103 [.fz (a0.map C_),.int .i64 a1] H P:=by
 refine BC gC (res:=[.tmp 4,.tmp 5]) (n:=12) rfl rfl rfl rfl fun K0 Da=> ?_;simp only [W,Nat.reduceSub,Nat.reduceAdd,List.replicate];unfold FO at h;refine Bh fun K1 Db=> ?_;refine Bz gC ?_;try simp only [W,Nat.reduceAdd]
 refine Bo Db ?_;refine Bh fun K2 zh=> ?_;refine Bh fun K3 Dp=> ?_;refine Bz gC ?_;try simp only [W,Nat.reduceAdd]
 refine BP h fun DY ET h=> ?_;refine Hz ET hS fun H hS=> ?_;try simp only [W]
 refine Bo Dp ?_;refine Bm ?_;simp only [W];refine By h (fun hc h=> ?_) (fun hc h=> ?_)
 ·refine Bh fun K5 DN=> ?_;refine Bz gC ?_;try simp only [W,Nat.reduceAdd]
  refine Bo DN ?_;refine Bk ?_;refine Bp zh ?_;refine Bx Da rfl rfl ?_;try obtain rfl:=Option.some.inj h
  exact hP _ hS
 ·refine Bj ?_;refine Bo zh ?_;refine Bh fun K6 Di=> ?_;refine Bz gC ?_;try simp only [W,Nat.reduceAdd]
  refine BP h fun De ES h=> ?_;refine Ma ES hS fun H hS=> ?_;try simp only [W]
  refine Bo Di ?_;refine Bk ?_;refine Bx Da rfl rfl ?_;try obtain rfl:=Option.some.inj h
  exact hP _ hS
theorem JO {a0:List Span} {r:(Bool)} (h:FP a0=some r) {F:List It} {H:J} (hS:aD H (F)) {P:AV→J→Prop} (hP: ∀H',aD H' (F)→P (.bool r) H'):aq C 114 [.fz (a0.map C_)] H P:=by
 refine BC gC (res:=[.tmp 2]) (n:=34) rfl rfl rfl rfl fun K0 Da=> ?_;simp only [W,Nat.reduceSub,Nat.reduceAdd,List.replicate];unfold FP at h;refine Bh fun K1 Db=> ?_;refine Bz gC ?_;try simp only [W,Nat.reduceAdd]
 refine Bo Db ?_;refine Bh fun K2 zh=> ?_;refine Bh fun K3 Dp=> ?_;refine Bz gC ?_;try simp only [W,EE,Nat.reduceAdd]
 refine Bo Dp ?_;obtain ⟨Fx,G4,g12⟩:=Option.bind_eq_some_iff.1 h;refine BU gC (fun s H=>Fx=LR.next ()∧s=[.fz (a0.map C_),u,u,u,u,u,u,u,u,u,u,u,u,u,u,u,u,u,u,u,u,u,u,u,u,u,u,u,u,u,u,u,u,u]∧aD H (F)) (fun K7 Dn=> ?_) (fun s H hq=> ?_)
 ·refine Bi fun K8 DL=> ?_;refine BQ gC G4 (fun x s H=>s=[.fz (a0.map C_),u,u,u,u,.fz (a0.map C_),.int .i64 (a0.length:Int),.int .i64 x,u,u,u,u,u,u,u,u,u,u,u,u,u,u,u,u,u,u,u,u,u,u,u,u,u,u]∧aD H (F)) ⟨rfl,hS⟩ (fun Dw HB s H h Fc hi K9 Dz=> ?_)
  skip
  try dsimp only at hi
  obtain ⟨rfl,hS⟩:=hi;simp only [Gz] at h;refine Bh fun E7 D5=> ?_;refine Bz gC ?_;try simp only [W,EE,Nat.reduceAdd]
  refine Bo D5 ?_;refine Bh fun FX Ea=> ?_;refine Bm ?_;simp only [W];refine By h (fun hc h=> ?_) (fun hc h=> ?_)
  ·refine Bj ?_;refine Bo Ea ?_;refine Bh fun Fm D1=> ?_;refine Bi fun E8 DM=> ?_;refine Bh fun EP DG=> ?_;refine Bz gC ?_;try simp only [W,EE,Nat.reduceAdd]
   refine BJ rfl rfl rfl (fun _=>rfl) h fun Dj Fu h=> ?_;try simp only [W,EE,EN,reduceIte,Nat.reduceAdd,Nat.reduceLeDiff]
   refine BG hS rfl rfl fun Md Me H hS=> ?_;try simp only [W]
   refine BH (a:= .agg [.int .i64 Dj.C9,.int .i64 Dj.To]) (y' := .agg [.int .i64 Dj.C9,.int .i64 Dj.To]) 0 hS rfl rfl rfl rfl rfl rfl rfl rfl fun H hS=> ?_
   try simp only [W]
   refine Bo DG ?_;refine Bh fun E_ D6=> ?_;obtain ⟨Fq,h,g24⟩:=Option.bind_eq_some_iff.1 h;refine BU gC (fun s H=> ∃DE:Bool,Fq=(DE)∧s=[.fz (a0.map C_),u,u,u,u,.fz (a0.map C_),.int .i64 (a0.length:Int),.int .i64 Dw,u,u,u,u,u,u,u,u,u,u,u,u,u,u,u,u,u,u,u,u,u,.bool DE,u,u,u,u]∧aD H (F)) (fun F0 D2=> ?_) (fun s H hq=> ?_)
   ·refine Bh fun Fa DH=> ?_;refine BB gC (by kernel_rfl) ?_
    try simp only [W,EE,reduceIte,Nat.reduceAdd,Nat.reduceLeDiff,hS.var 0 rfl]
    refine Cw (cb:=[[.sc]]) (ys:=[.agg [.int .i64 Dj.C9,.int .i64 Dj.To]]) h rfl (by rfl) fun D_ Mf h=>⟨.bool D_,Il Mf (aD.nil _) fun H hS=>Cs rfl (Cq rfl (Cp rfl)),⟨rfl,rfl,fun _=>rfl⟩,?_⟩
    try simp only [W]
    refine Cb h (fun hc h=> ?_) (fun hc h=> ?_)
    ·try simp only [W,hc]
     refine Bo DH ?_;refine Bn ?_;exact BV D2 ⟨_,(Option.some.inj h).symm,rfl,(hS.B9 1 [] (by decide))⟩
    ·try simp only [W,EE,hc]
     refine Cb h (fun hc h=> ?_) (fun hc h=> ?_)
     ·try simp only [W,EE,hc]
      refine BJ rfl rfl rfl (fun _=>rfl) h fun Gf O7 h=> ?_;try simp only [W,EE,EN,reduceIte,Nat.reduceAdd,Nat.reduceBEq,Bool.false_eq_true,hS.var 0 rfl]
      refine Bo DH ?_;refine Bn ?_;exact BV D2 ⟨_,(Option.some.inj h).symm,rfl,(hS.B9 1 [] (by decide))⟩
     ·try simp only [W,reduceIte,Bool.false_eq_true,hc]
      refine Bo DH ?_;refine Bn ?_;exact BV D2 ⟨_,(Option.some.inj h).symm,rfl,(hS.B9 1 [] (by decide))⟩
   ·obtain ⟨DE,Dc,rfl,hS⟩:=hq;obtain rfl:=Dc.symm;replace h:=g24;try dsimp only at h
    refine Bo D6 ?_;refine Bm ?_;simp only [W];refine By h (fun hc h=> ?_) (fun hc h=> ?_)
    ·refine Bh fun H9 EC=> ?_;refine Bz gC ?_;try simp only [W,Nat.reduceAdd]
     refine Bo EC ?_;refine Bk ?_;refine Bu DM ?_;refine Bp D1 ?_;try obtain rfl:=Option.some.inj h
     obtain rfl:=Fc _ rfl;have h:(some (LR.done false):Option (LR Unit (Bool)))=some (LR.done false):=rfl;refine BT Dz ?_;refine Bu DL ?_;try obtain rfl:=Option.some.inj h
     obtain rfl:=Option.some.inj g12;have h:(some false:Option (Bool))=some false:=rfl;refine BW Dn ?_;refine Bp zh ?_;refine Bw Da rfl ?_;try obtain rfl:=Option.some.inj h
     exact hP _ hS
    ·refine Bj ?_;refine Bs DM ?_;refine Bo D1 ?_;refine Bz gC ?_;try simp only [W,EE,Nat.reduceAdd]
     exact BR Dz h ⟨rfl,hS⟩
  ·refine Bl ?_;refine Bq Ea ?_;try obtain rfl:=Option.some.inj h
   obtain rfl:=Fc _ rfl;have h:(some (LR.next ()):Option (LR Unit (Bool)))=some (LR.next ()):=rfl
   refine BS Dz ?_;refine Bt DL ?_;exact BV Dn ⟨(Option.some.inj h).symm,rfl,hS⟩
 ·obtain ⟨rfl,rfl,hS⟩:=hq;replace h:=g12;try dsimp only at h
  refine Bo zh ?_;refine Bh fun KX Iq=> ?_;refine Bz gC ?_;try simp only [W,EE,Nat.reduceAdd]
  refine Bo Iq ?_;refine Bk ?_;refine Bw Da rfl ?_;try obtain rfl:=Option.some.inj h
  exact hP _ hS
theorem Mg {a0:List Span} {a1:Int} {r:(Bool)} (h:GB a0 a1=some r) {F:List It} {H:J} (hS:aD H (F)) {P:AV→J→Prop} (hP: ∀H',aD H' (F)→P (.bool r) H'):aq C 242 [.fz (a0.map C_),.int .i64 a1] H P:=by
 refine BC gC (res:=[.tmp 4]) (n:=24) rfl rfl rfl rfl fun K0 Da=> ?_;simp only [W,Nat.reduceSub,Nat.reduceAdd,List.replicate];unfold GB at h;refine Bh fun K1 Db=> ?_;refine Bz gC ?_;try simp only [W,Nat.reduceAdd]
 refine Bo Db ?_;refine Bh fun K2 zh=> ?_;refine Bh fun K3 Dp=> ?_;refine Bz gC ?_;try simp only [W,EE,Nat.reduceAdd]
 refine Bo Dp ?_;obtain ⟨Fx,G4,g12⟩:=Option.bind_eq_some_iff.1 h;refine BU gC (fun s H=>Fx=LR.next ()∧s=[u,u,u,u,u,u,u,u,u,u,u,u,u,u,u,u,u,u,u,u,u,u,u,u]∧aD H (F)) (fun K7 Dn=> ?_) (fun s H hq=> ?_)
 ·refine Bi fun K8 DL=> ?_;refine BQ gC G4 (fun x s H=>s=[u,.int .i64 a1,u,u,u,u,u,.fz (a0.map C_),.int .i64 (a0.length:Int),.int .i64 x,u,u,u,u,u,u,u,u,u,u,u,u,u,u]∧aD H (F)) ⟨rfl,hS⟩ (fun Dw HB s H h Fc hi K9 Dz=> ?_)
  skip
  try dsimp only at hi
  obtain ⟨rfl,hS⟩:=hi;simp only [GA] at h;refine Bh fun E7 D5=> ?_;refine Bz gC ?_;try simp only [W,EE,Nat.reduceAdd]
  refine Bo D5 ?_;refine Bh fun FX Ea=> ?_;refine Bm ?_;simp only [W];refine By h (fun hc h=> ?_) (fun hc h=> ?_)
  ·refine Bj ?_;refine Bo Ea ?_;refine Bh fun Fm D1=> ?_;refine Bi fun E8 DM=> ?_;refine Bh fun EP DG=> ?_;refine Bz gC ?_;try simp only [W,EE,Nat.reduceAdd]
   refine BJ rfl rfl rfl (fun _=>rfl) h fun Dj Fu h=> ?_;try simp only [W,EE,EN,reduceIte,Nat.reduceAdd,Nat.reduceLeDiff]
   refine BG hS rfl rfl fun Md Me H hS=> ?_;try simp only [W]
   refine BH (a:= .agg [.int .i64 Dj.C9,.int .i64 Dj.To]) (y' := .agg [.int .i64 Dj.C9,.int .i64 Dj.To]) 0 hS rfl rfl rfl rfl rfl rfl rfl rfl fun H hS=> ?_
   try simp only [W]
   refine Bo DG ?_;refine Bh fun E_ D6=> ?_;obtain ⟨Fq,h,g24⟩:=Option.bind_eq_some_iff.1 h;refine BU gC (fun s H=> ∃DE:Bool,Fq=(DE)∧s=[u,.int .i64 a1,u,u,u,u,u,.fz (a0.map C_),.int .i64 (a0.length:Int),.int .i64 Dw,u,u,u,u,u,u,u,u,u,u,u,u,.bool DE,u]∧aD H (F)) (fun F0 D2=> ?_) (fun s H hq=> ?_)
   ·refine Bh fun Fa DH=> ?_;refine Bz gC ?_;try simp only [W,EE,Nat.reduceAdd,Nat.reduceBEq,hS.var 0 rfl]
    refine Cb h (fun hc h=> ?_) (fun hc h=> ?_)
    ·try simp only [W,EE,reduceIte,Nat.reduceAdd,Nat.reduceBEq,hS.var 0 rfl,hc]
     refine Bo DH ?_;refine Bn ?_;exact BV D2 ⟨_,(Option.some.inj h).symm,rfl,(hS.B9 1 [] (by decide))⟩
    ·try simp only [W,hc]
     refine Bo DH ?_;refine Bn ?_;exact BV D2 ⟨_,(Option.some.inj h).symm,rfl,(hS.B9 1 [] (by decide))⟩
   ·obtain ⟨DE,Dc,rfl,hS⟩:=hq;obtain rfl:=Dc.symm;replace h:=g24;try dsimp only at h
    refine Bo D6 ?_;refine Bm ?_;simp only [W];refine By h (fun hc h=> ?_) (fun hc h=> ?_)
    ·refine Bh fun F1 Ed=> ?_;refine Bz gC ?_;try simp only [W,Nat.reduceAdd]
     refine Bo Ed ?_;refine Bk ?_;refine Bu DM ?_;refine Bp D1 ?_;try obtain rfl:=Option.some.inj h
     obtain rfl:=Fc _ rfl;have h:(some (LR.done true):Option (LR Unit (Bool)))=some (LR.done true):=rfl;refine BT Dz ?_;refine Bu DL ?_;try obtain rfl:=Option.some.inj h
     obtain rfl:=Option.some.inj g12;have h:(some true:Option (Bool))=some true:=rfl;refine BW Dn ?_;refine Bp zh ?_;refine Bw Da rfl ?_;try obtain rfl:=Option.some.inj h
     exact hP _ hS
    ·refine Bj ?_;refine Bs DM ?_;refine Bo D1 ?_;refine Bz gC ?_;try simp only [W,EE,Nat.reduceAdd]
     exact BR Dz h ⟨rfl,hS⟩
  ·refine Bl ?_;refine Bq Ea ?_;try obtain rfl:=Option.some.inj h
   obtain rfl:=Fc _ rfl;have h:(some (LR.next ()):Option (LR Unit (Bool)))=some (LR.next ()):=rfl
   refine BS Dz ?_;refine Bt DL ?_;exact BV Dn ⟨(Option.some.inj h).symm,rfl,hS⟩
 ·obtain ⟨rfl,rfl,hS⟩:=hq;replace h:=g12;try dsimp only at h
  refine Bo zh ?_;refine Bh fun GQ Eo=> ?_;refine Bz gC ?_;try simp only [W,Nat.reduceAdd]
  refine Bo Eo ?_;refine Bk ?_;refine Bw Da rfl ?_;try obtain rfl:=Option.some.inj h
  exact hP _ hS
theorem Mh {a0:List Span} {a1:Int} {r:(Bool×Bool)} (h:FQ a0 a1=some r) {F:List It} {H:J} (hS:aD H (F)) {P:AV→J→Prop} (hP: ∀H',aD H' (F)→P (.aB [.bool r.1,.bool r.2]) H'):aq C 104 [.fz (a0.map C_),.int .i64 a1] H P:=by
 refine BC gC (res:=[.tmp 4,.tmp 5]) (n:=12) rfl rfl rfl rfl fun K0 Da=> ?_;simp only [W,Nat.reduceSub,Nat.reduceAdd,List.replicate];unfold FQ at h;refine Bh fun K1 Db=> ?_;refine Bz gC ?_;try simp only [W,Nat.reduceAdd]
 refine Bo Db ?_;refine Bh fun K2 zh=> ?_;refine Bh fun K3 Dp=> ?_;refine Bz gC ?_;try simp only [W,Nat.reduceAdd]
 refine BP h fun DY ET h=> ?_;refine JO ET hS fun H hS=> ?_;try simp only [W]
 refine Bo Dp ?_;refine Bm ?_;simp only [W];refine By h (fun hc h=> ?_) (fun hc h=> ?_)
 ·refine Bh fun K5 DN=> ?_;refine Bz gC ?_;try simp only [W,Nat.reduceAdd]
  refine Bo DN ?_;refine Bk ?_;refine Bp zh ?_;refine Bx Da rfl rfl ?_;try obtain rfl:=Option.some.inj h
  exact hP _ hS
 ·refine Bj ?_;refine Bo zh ?_;refine Bh fun K6 Di=> ?_;refine Bz gC ?_;try simp only [W,Nat.reduceAdd]
  refine BP h fun De ES h=> ?_;refine Mg ES hS fun H hS=> ?_;try simp only [W]
  refine Bo Di ?_;refine Bk ?_;refine Bx Da rfl rfl ?_;try obtain rfl:=Option.some.inj h
  exact hP _ hS
theorem Mi {a0:List Int} {r:(List Span)} (h:Hi a0=some r) {F:List It} {H:J} (hS:aD H (F)) {P:AV→J→Prop} (hP: ∀v11:AV,bQ v11→ ∀H',aD H' (⟨v11,2,r.map C_⟩::F)→P (v11) H'):aq C 243 [.fz (a0.map (AV.int .u8))] H P:=by
 refine BC gC (res:=[.tmp 2]) (n:=9) rfl rfl rfl rfl fun K0 Da=> ?_;simp only [W,Nat.reduceSub,Nat.reduceAdd,List.replicate];unfold Hi at h;refine Bh fun K1 Db=> ?_;refine Bz gC ?_;try simp only [W,Nat.reduceAdd]
 refine Bo Db ?_;refine Bh fun K2 zh=> ?_;refine Bz gC ?_;try simp only [W,EE,Nat.reduceAdd]
 refine Cc rfl rfl rfl rfl rfl ?_;try simp only [W]
 refine BF hS rfl rfl rfl rfl fun L5 L6 H hS=> ?_;try simp only [W]
 refine Bo zh ?_;refine Bh fun K5 DN=> ?_;refine Bz gC ?_;try simp only [W,Nat.reduceAdd]
 refine BP h fun Eb EJ h=> ?_;obtain ⟨De,Dy⟩:=Eb;try dsimp only at h
 refine JJ EJ hS fun v9 ID H hS=> ?_;try simp only [W]
 refine Bo DN ?_;refine Bk ?_;refine Bw Da rfl ?_;try obtain rfl:=Option.some.inj h
 exact hP _ ID _ (hS.B9 2 [0] (by decide))
theorem Mj {a0:List Int} {r:(List Span)} (h:FT a0=some r) {F:List It} {H:J} (hS:aD H (F)) {P:AV→J→Prop} (hP: ∀v6:AV,bQ v6→ ∀H',aD H' (⟨v6,2,r.map C_⟩::F)→P (v6) H'):aq C 105 [.fz (a0.map (AV.int .u8))] H P:=by
 refine BC gC (res:=[.tmp 2]) (n:=5) rfl rfl rfl rfl fun K0 Da=> ?_;simp only [W,Nat.reduceSub,Nat.reduceAdd,List.replicate];unfold FT at h;refine Bh fun K1 Db=> ?_;refine Bz gC ?_;try simp only [W,Nat.reduceAdd]
 refine Bo Db ?_;refine Bh fun K2 zh=> ?_;refine Bz gC ?_;try simp only [W,Nat.reduceAdd]
 refine BP h fun b3 kB h=> ?_;refine Mi kB hS fun v4 GX H hS=> ?_;try simp only [W]
 refine Bo zh ?_;refine Bk ?_;refine Bw Da rfl ?_;try obtain rfl:=Option.some.inj h
 exact hP _ GX _ hS
theorem Mk {a0:List Span} {r:(Int)} (h:GD a0=some r) {F:List It} {H:J} (hS:aD H (F)) {P:AV→J→Prop} (hP: ∀H',aD H' (F)→P (.int .i64 r) H'):aq C 244 [.fz (a0.map C_)] H P:=by
 refine BC gC (res:=[.tmp 2]) (n:=21) rfl rfl rfl rfl fun K0 Da=> ?_;simp only [W,Nat.reduceSub,Nat.reduceAdd,List.replicate];unfold GD at h;refine Bh fun K1 Db=> ?_;refine Bz gC ?_;try simp only [W,Nat.reduceAdd]
 refine Bo Db ?_;refine Bh fun K2 zh=> ?_;refine Bz gC ?_;try simp only [W,Nat.reduceAdd]
 refine Bo zh ?_;refine Bh fun K3 Dp=> ?_;refine Bh fun K4 Dt=> ?_;refine Bz gC ?_;try simp only [W,EE,Nat.reduceAdd]
 refine Bo Dt ?_;obtain ⟨GV,GW,g15⟩:=Option.bind_eq_some_iff.1 h;refine BU gC (fun s H=> ∃DZ:Int,GV=(DZ)∧s=[u,u,u,.int .i64 DZ,u,u,u,u,u,u,u,u,u,u,u,u,u,u,u,u,u]∧aD H (F)) (fun GL Eu=> ?_) (fun s H hq=> ?_)
 ·refine Bi fun E2 DW=> ?_;refine BQ gC GW (fun x s H=>match x with|(Dh,En)=>s=[u,u,u,.int .i64 Dh,u,u,.fz (a0.map C_),.int .i64 (a0.length:Int),.int .i64 En,u,u,u,u,u,u,u,u,u,u,u,u]∧aD H (F)) ⟨rfl,hS⟩ (fun x Jy s H h F3 hi E6 DF=> ?_)
  obtain ⟨Dh,En⟩:=x;try dsimp only at hi
  obtain ⟨rfl,hS⟩:=hi;simp only [GC] at h;refine Bh fun E8 DM=> ?_;refine Bz gC ?_;try simp only [W,EE,Nat.reduceAdd]
  refine Bo DM ?_;refine Bh fun EP DG=> ?_;refine Bm ?_;simp only [W];refine By h (fun hc h=> ?_) (fun hc h=> ?_)
  ·refine Bj ?_;refine Bo DG ?_;refine Bh fun E9 DO=> ?_;refine Bi fun EK DA=> ?_;refine Bh fun EQ DR=> ?_;refine Bz gC ?_;try simp only [W,EE,Nat.reduceAdd]
   refine BJ rfl rfl rfl (fun _=>rfl) h fun Dd Hu h=> ?_;try simp only [W,EE,EN,reduceIte,Nat.reduceAdd,Nat.reduceLeDiff]
   refine BG hS rfl rfl fun Jz JA H hS=> ?_;try simp only [W]
   refine BH (a:= .agg [.int .i64 Dd.C9,.int .i64 Dd.To]) (y' := .agg [.int .i64 Dd.C9,.int .i64 Dd.To]) 0 hS rfl rfl rfl rfl rfl rfl rfl rfl fun H hS=> ?_
   try simp only [W]
   refine Bo DR ?_;refine Bz gC ?_;try simp only [W,EE,Nat.reduceAdd,Nat.reduceBEq,hS.var 0 rfl]
   refine Bs DA ?_;refine Bo DO ?_;refine Bz gC ?_;try simp only [W,EE,Nat.reduceAdd]
   exact BR DF h ⟨rfl,(hS.B9 1 [] (by decide))⟩
  ·refine Bl ?_;refine Bq DG ?_;try obtain rfl:=Option.some.inj h
   obtain rfl:=F3 _ rfl;have h:(some (Dh):Option (Int))=some (Dh):=rfl;refine BS DF ?_;refine Bt DW ?_;exact BV Eu ⟨_,(Option.some.inj h).symm,rfl,hS⟩
 ·obtain ⟨DZ,Dc,rfl,hS⟩:=hq;obtain rfl:=Dc.symm;replace h:=g15;try dsimp only at h
  refine Bo Dp ?_;refine Bh fun Fa DH=> ?_;refine Bz gC ?_;try simp only [W,Nat.reduceAdd]
  refine Bo DH ?_;refine Bk ?_;refine Bw Da rfl ?_;try obtain rfl:=Option.some.inj h
  exact hP _ hS
theorem Ml {a0:List Span} {r:(Int×Bool)} (h:FU a0=some r) {F:List It} {H:J} (hS:aD H (F)) {P:AV→J→Prop} (hP: ∀H',aD H' (F)→P (.aB [.int .i64 r.1,.bool r.2]) H'):aq C 106 [.fz (a0.map C_)] H P:=by
 refine BC gC (res:=[.tmp 2,.tmp 3]) (n:=9) rfl rfl rfl rfl fun K0 Da=> ?_;simp only [W,Nat.reduceSub,Nat.reduceAdd,List.replicate];unfold FU at h;refine Bh fun K1 Db=> ?_;refine Bz gC ?_;try simp only [W,Nat.reduceAdd]
 refine Bo Db ?_;refine Bh fun K2 zh=> ?_;refine Bh fun K3 Dp=> ?_;refine Bz gC ?_;try simp only [W,Nat.reduceAdd]
 refine BP h fun DY ET h=> ?_;refine Hz ET hS fun H hS=> ?_;try simp only [W]
 refine Bo Dp ?_;refine Bm ?_;simp only [W];refine By h (fun hc h=> ?_) (fun hc h=> ?_)
 ·refine Bh fun K5 DN=> ?_;refine Bz gC ?_;try simp only [W,Nat.reduceAdd]
  refine Bo DN ?_;refine Bk ?_;refine Bp zh ?_;refine Bx Da rfl rfl ?_;try obtain rfl:=Option.some.inj h
  exact hP _ hS
 ·refine Bj ?_;refine Bo zh ?_;refine Bh fun K6 Di=> ?_;refine Bz gC ?_;try simp only [W,Nat.reduceAdd]
  refine BP h fun De ES h=> ?_;refine Mk ES hS fun H hS=> ?_;try simp only [W]
  refine Bo Di ?_;refine Bk ?_;refine Bx Da rfl rfl ?_;try obtain rfl:=Option.some.inj h
  exact hP _ hS
theorem Mm {a0:List Span} {r:(Int)} (h:Hj a0=some r) {F:List It} {H:J} (hS:aD H (F)) {P:AV→J→Prop} (hP: ∀H',aD H' (F)→P (.int .i64 r) H'):aq C 245 [.fz (a0.map C_)] H P:=by
 refine BC gC (res:=[.tmp 2]) (n:=21) rfl rfl rfl rfl fun K0 Da=> ?_;simp only [W,Nat.reduceSub,Nat.reduceAdd,List.replicate];unfold Hj at h;refine Bh fun K1 Db=> ?_;refine Bz gC ?_;try simp only [W,Nat.reduceAdd]
 refine Bo Db ?_;refine Bh fun K2 zh=> ?_;refine Bz gC ?_;try simp only [W,Nat.reduceAdd]
 refine Bo zh ?_;refine Bh fun K3 Dp=> ?_;refine Bh fun K4 Dt=> ?_;refine Bz gC ?_;try simp only [W,EE,Nat.reduceAdd]
 refine Bo Dt ?_;obtain ⟨GV,GW,g15⟩:=Option.bind_eq_some_iff.1 h;refine BU gC (fun s H=> ∃DZ:Int,GV=(DZ)∧s=[u,u,u,.int .i64 DZ,u,u,u,u,u,u,u,u,u,u,u,u,u,u,u,u,u]∧aD H (F)) (fun GL Eu=> ?_) (fun s H hq=> ?_)
 ·refine Bi fun E2 DW=> ?_;refine BQ gC GW (fun x s H=>match x with|(Dh,En)=>s=[u,u,u,.int .i64 Dh,u,u,.fz (a0.map C_),.int .i64 (a0.length:Int),.int .i64 En,u,u,u,u,u,u,u,u,u,u,u,u]∧aD H (F)) ⟨rfl,hS⟩ (fun x Jy s H h F3 hi E6 DF=> ?_)
  obtain ⟨Dh,En⟩:=x;try dsimp only at hi
  obtain ⟨rfl,hS⟩:=hi;simp only [I7] at h;refine Bh fun E8 DM=> ?_;refine Bz gC ?_;try simp only [W,EE,Nat.reduceAdd]
  refine Bo DM ?_;refine Bh fun EP DG=> ?_;refine Bm ?_;simp only [W];refine By h (fun hc h=> ?_) (fun hc h=> ?_)
  ·refine Bj ?_;refine Bo DG ?_;refine Bh fun E9 DO=> ?_;refine Bi fun EK DA=> ?_;refine Bh fun EQ DR=> ?_;refine Bz gC ?_;try simp only [W,EE,Nat.reduceAdd]
   refine BJ rfl rfl rfl (fun _=>rfl) h fun Dd Hu h=> ?_;try simp only [W,EE,EN,reduceIte,Nat.reduceAdd,Nat.reduceLeDiff]
   refine BG hS rfl rfl fun Jz JA H hS=> ?_;try simp only [W]
   refine BH (a:= .agg [.int .i64 Dd.C9,.int .i64 Dd.To]) (y' := .agg [.int .i64 Dd.C9,.int .i64 Dd.To]) 0 hS rfl rfl rfl rfl rfl rfl rfl rfl fun H hS=> ?_
   try simp only [W]
   refine Bo DR ?_;refine Bz gC ?_;try simp only [W,EE,Nat.reduceAdd,Nat.reduceBEq,hS.var 0 rfl]
   refine Bs DA ?_;refine Bo DO ?_;refine Bz gC ?_;try simp only [W,EE,Nat.reduceAdd]
   exact BR DF h ⟨rfl,(hS.B9 1 [] (by decide))⟩
  ·refine Bl ?_;refine Bq DG ?_;try obtain rfl:=Option.some.inj h
   obtain rfl:=F3 _ rfl;have h:(some (Dh):Option (Int))=some (Dh):=rfl;refine BS DF ?_;refine Bt DW ?_;exact BV Eu ⟨_,(Option.some.inj h).symm,rfl,hS⟩
 ·obtain ⟨DZ,Dc,rfl,hS⟩:=hq;obtain rfl:=Dc.symm;replace h:=g15;try dsimp only at h
  refine Bo Dp ?_;refine Bh fun Fa DH=> ?_;refine Bz gC ?_;try simp only [W,Nat.reduceAdd]
  refine Bo DH ?_;refine Bk ?_;refine Bw Da rfl ?_;try obtain rfl:=Option.some.inj h
  exact hP _ hS
theorem Mn {a0:List Span} {r:(Int×Bool)} (h:FV a0=some r) {F:List It} {H:J} (hS:aD H (F)) {P:AV→J→Prop} (hP: ∀H',aD H' (F)→P (.aB [.int .i64 r.1,.bool r.2]) H'):aq C 107 [.fz (a0.map C_)] H P:=by
 refine BC gC (res:=[.tmp 2,.tmp 3]) (n:=9) rfl rfl rfl rfl fun K0 Da=> ?_;simp only [W,Nat.reduceSub,Nat.reduceAdd,List.replicate];unfold FV at h;refine Bh fun K1 Db=> ?_;refine Bz gC ?_;try simp only [W,Nat.reduceAdd]
 refine Bo Db ?_;refine Bh fun K2 zh=> ?_;refine Bh fun K3 Dp=> ?_;refine Bz gC ?_;try simp only [W,Nat.reduceAdd]
 refine BP h fun DY ET h=> ?_;refine JO ET hS fun H hS=> ?_;try simp only [W]
 refine Bo Dp ?_;refine Bm ?_;simp only [W];refine By h (fun hc h=> ?_) (fun hc h=> ?_)
 ·refine Bh fun K5 DN=> ?_;refine Bz gC ?_;try simp only [W,Nat.reduceAdd]
  refine Bo DN ?_;refine Bk ?_;refine Bp zh ?_;refine Bx Da rfl rfl ?_;try obtain rfl:=Option.some.inj h
  exact hP _ hS
 ·refine Bj ?_;refine Bo zh ?_;refine Bh fun K6 Di=> ?_;refine Bz gC ?_;try simp only [W,Nat.reduceAdd]
  refine BP h fun De ES h=> ?_;refine Mm ES hS fun H hS=> ?_;try simp only [W]
  refine Bo Di ?_;refine Bk ?_;refine Bx Da rfl rfl ?_;try obtain rfl:=Option.some.inj h
  exact hP _ hS
theorem Mo {a0:List Int} {a1:List Int} {r:(Bool)} (h:GF a0 a1=some r) {F:List It} {H:J} (hS:aD H (F)) {P:AV→J→Prop} (hP: ∀H',aD H' (F)→P (.bool r) H'):aq C 10 [.fz (a0.map (AV.int .u8)),.fz (a1.map (AV.int .u8))] H P:=by
 refine BC gC (res:=[.tmp 4]) (n:=181) rfl rfl rfl rfl fun K0 Da=> ?_;simp only [W,Nat.reduceSub,Nat.reduceAdd,List.replicate];unfold GF at h;refine Bh fun K1 Db=> ?_;refine Bz gC ?_;try simp only [W,Nat.reduceAdd]
 refine Bo Db ?_;refine Bh fun K2 zh=> ?_;refine Bh fun K3 Dp=> ?_;refine Bz gC ?_;try simp only [W,EE,Nat.reduceAdd]
 refine Bo Dp ?_;refine Bm ?_;simp only [W];refine By h (fun hc h=> ?_) (fun hc h=> ?_)
 ·refine Bh fun K4 Dt=> ?_;refine Bz gC ?_;try simp only [W,Nat.reduceAdd]
  refine Bo Dt ?_;refine Bk ?_;refine Bp zh ?_;refine Bw Da rfl ?_;try obtain rfl:=Option.some.inj h
  exact hP _ hS
 ·refine Bj ?_;refine Bo zh ?_;refine Bh fun K5 DN=> ?_;refine Bz gC ?_;try simp only [W,Nat.reduceAdd]
  refine BP h fun Eb EJ h=> ?_;obtain ⟨De,Dy⟩:=Eb;try dsimp only at h
  refine Kl EJ hS fun H hS=> ?_;try simp only [W]
  refine BG hS rfl rfl fun HH HI H hS=> ?_;try simp only [W]
  refine BG hS rfl rfl fun HJ HK H hS=> ?_;try simp only [W]
  refine BH (a:= .agg [.int .i64 De.C9,.int .i64 De.To]) (y' := .agg [.int .i64 De.C9,.int .i64 De.To]) 1 hS rfl rfl rfl rfl rfl rfl rfl rfl fun H hS=> ?_
  try simp only [W]
  refine BH (a:= .agg [.int .i64 Dy.C9,.int .i64 Dy.To]) (y' := .agg [.int .i64 Dy.C9,.int .i64 Dy.To]) 0 hS rfl rfl rfl rfl rfl rfl rfl rfl fun H hS=> ?_
  try simp only [W]
  refine Bo DN ?_;refine Bh fun E7 D5=> ?_;refine Bz gC ?_;try simp only [W,EE,reduceIte,Nat.reduceAdd,Nat.reduceLeDiff,hS.var 1 rfl,hS.var 0 rfl]
  refine BP h fun Em Ft h=> ?_;obtain ⟨Dg,EY⟩:=Em;try dsimp only at h
  refine Jv Ft hS fun H hS=> ?_;try simp only [W]
  refine Bo D5 ?_;refine Bh fun EP DG=> ?_;refine Bz gC ?_;try simp only [W,EE,reduceIte,Nat.reduceAdd,Nat.reduceLeDiff,hS.var 1 rfl,hS.var 0 rfl]
  refine BP h fun Dj Fu h=> ?_;obtain ⟨Ee,Et⟩:=Dj;try dsimp only at h
  refine Kq Fu hS fun H hS=> ?_;try simp only [W]
  refine Bo DG ?_;refine Bh fun E_ D6=> ?_;refine Bh fun Jm GM=> ?_;obtain ⟨Mp,h,Mq⟩:=Option.bind_eq_some_iff.1 h;refine BU gC (fun s H=> ∃EU:Bool,Mp=(EU)∧s=(u:: .fz (a1.map (AV.int .u8))::u::u::u:: .ptr HH HI 0 0:: .ptr HJ HK 0 0:: .int .i64 Dg:: .bool EY::u::u::u::u::u::u::u::u::u::u::u::u::u::u::u::u::u::u::u::u::u::u::u::u::u::u::u::u::u::u::u::u::u::u::u::u::u::u::u::u::u::u::u::u::u::u::u::u::u:: .bool EU::u::u::u::u::u::u::u::u::u::u::u::u::u::u::u::u::u::u::u::u::u::u::u::u::u::u::u::u::u::u::u::u::u::u::u::u::u::u::u::u::u::u::u::u::u::u::u::u::u::u::u::u::u::u::u::u::u::u::u::u::u::u::u::u::u::u::u::u::u::u::u::u::u::u::u::u::u::u::u::u::u::u::u::u::u::u::u::u::u::u::u::u::u::u::u::u::u::u::u::u::u::u::u::u::u::u::u::u::u::u::u::u::u::u::u::u::u::u::u::u::u::u::[])∧aD H (⟨.ptr HH HI 0 0,2,[.agg [.int .i64 De.C9,.int .i64 De.To]]⟩::⟨.ptr HJ HK 0 0,2,[.agg [.int .i64 Dy.C9,.int .i64 Dy.To]]⟩::F)) (fun Fa DH=> ?_) (fun s H hq=> ?_)
  ·refine Bh fun F1 Ed=> ?_;refine Bz gC ?_;try simp only [W,EE,Nat.reduceAdd]
   rw [BE _ _ _ _ (h:=rfl) rfl,sG];try simp only [W]
   refine Cb h (fun hc h=> ?_) (fun hc h=> ?_)
   ·try simp only [W,hc]
    refine Bo Ed ?_;refine CH (s' :=(u:: .fz (a1.map (AV.int .u8))::u::u::u:: .ptr HH HI 0 0:: .ptr HJ HK 0 0:: .int .i64 Dg:: .bool EY::u::u::u::u::u::u::u::u::u::u::u::u::u::u::u::u::u::u::u::u::u::u::u::u::u::u::u::u::u::u::u::u::u::u::u::u::u::u::u::u::u::u::u::u::u::u::u::u::u:: .bool true::u::u::u::u::u::u::u::u::u::u::u::u::u::u::u::u::u::u::u::u::u::u::u::u::u::u::u::u::u::u::u::u::u::u::u::u::u::u::u::u::u::u::u::u::u::u::u::u::u::u::u::u::u::u::u::u::u::u::u::u::u::u::u::u::u::u::u::u::u::u::u::u::u::u::u::u::u::u::u::u::u::u::u::u::u::u::u::u::u::u::u::u::u::u::u::u::u::u::u::u::u::u::u::u::u::u::u::u::u::u::u::u::u::u::u::u::u::u::u::u::u::u::[])) rfl ?_
    exact BV DH ⟨_,(Option.some.inj h).symm,rfl,(hS.B9 2 [1,0] (by decide))⟩
   ·try simp only [W,EE,reduceIte,Bool.false_eq_true,hc]
    refine Bo Ed ?_;refine CH (s' :=(u:: .fz (a1.map (AV.int .u8))::u::u::u:: .ptr HH HI 0 0:: .ptr HJ HK 0 0:: .int .i64 Dg:: .bool EY::u::u::u::u::u::u::u::u::u::u::u::u::u::u::u::u::u::u::u::u::u::u::u::u::u::u::u::u::u::u::u::u::u::u::u::u::u::u::u::u::u::u::u::u::u::u::u::u::u:: .bool (Dg !=Ee)::u::u::u::u::u::u::u::u::u::u::u::u::u::u::u::u::u::u::u::u::u::u::u::u::u::u::u::u::u::u::u::u::u::u::u::u::u::u::u::u::u::u::u::u::u::u::u::u::u::u::u::u::u::u::u::u::u::u::u::u::u::u::u::u::u::u::u::u::u::u::u::u::u::u::u::u::u::u::u::u::u::u::u::u::u::u::u::u::u::u::u::u::u::u::u::u::u::u::u::u::u::u::u::u::u::u::u::u::u::u::u::u::u::u::u::u::u::u::u::u::u::u::[])) rfl ?_
    exact BV DH ⟨_,(Option.some.inj h).symm,rfl,(hS.B9 2 [1,0] (by decide))⟩
  ·obtain ⟨EU,Dc,rfl,hS⟩:=hq;obtain rfl:=Dc.symm;replace h:=Mq;try dsimp only at h
   refine Bo GM ?_;refine Bm ?_;simp only [W];refine By h (fun hc h=> ?_) (fun hc h=> ?_)
   ·refine Bh fun Hw ED=> ?_;refine Bz gC ?_;try simp only [W,Nat.reduceAdd]
    refine Bo ED ?_;refine Bk ?_;refine Bp D6 ?_;refine Bw Da rfl ?_;try obtain rfl:=Option.some.inj h
    exact hP _ (hS.B9 2 [] (by decide))
   ·refine Bj ?_;refine Bo D6 ?_;refine Bh fun H9 EC=> ?_;refine Bh fun Ko H_=> ?_;refine Bz gC ?_;try simp only [W,Nat.reduceAdd]
    refine Bo H_ ?_;obtain ⟨Io,h,HA⟩:=Option.bind_eq_some_iff.1 h;refine BU gC (fun s H=>Io=LR.next ()∧s=(u:: .fz (a1.map (AV.int .u8))::u::u::u::u::u::u::u::u::u::u::u::u::u::u::u::u::u::u::u::u::u::u::u::u::u::u::u::u::u::u::u::u::u::u::u::u::u::u::u::u::u::u::u::u::u::u::u::u::u::u::u::u::u::u::u::u::u::u::u::u::u::u::u::u::u::u::u::u::u::u::u::u::u::u::u::u::u::u::u::u::u::u::u::u::u::u::u::u::u::u::u::u::u::u::u::u::u::u::u::u::u::u::u::u::u::u::u::u::u::u::u::u::u::u::u::u::u::u::u::u::u::u::u::u::u::u::u::u::u::u::u::u::u::u::u::u::u::u::u::u::u::u::u::u::u::u::u::u::u::u::u::u::u::u::u::u::u::u::u::u::u::u::u::u::u::u::u::u::u::u::u::u::u::u::u::u::u::u::u::[])∧aD H (F)) (fun If Ev=> ?_) (fun s H hq=> ?_)
    ·refine Bh fun GQ Eo=> ?_;refine Bm ?_;simp only [W];refine By h (fun hc h=> ?_) (fun hc h=> ?_)
     ·refine Bh fun Jr GR=> ?_;refine Bz gC ?_;try simp only [W,EE,reduceIte,Nat.reduceAdd,Nat.reduceLeDiff,hS.var 0 rfl,hS.var 1 rfl]
      refine BP h fun EV Mr h=> ?_;obtain ⟨DP,DU⟩:=EV;try dsimp only at h
      refine Jv Mr hS fun H hS=> ?_;try simp only [W]
      refine Bo GR ?_;refine Bh fun Hy Ei=> ?_;refine BA (fz:=[(4,[([68],[.sl [.sc,.sc]]),([70],[.sl [.sc,.sc]])])]) gC ?_;try simp only [W,EE,reduceIte,Nat.reduceAdd,Nat.reduceLeDiff,Nat.reduceBEq,hS.var 0 rfl]
      refine BO (el:=([De]:List Span).map C_) hS rfl rfl rfl rfl rfl rfl rfl fun v40 H Ms hS=> ?_;try simp only [W,EE,reduceIte,Nat.reduceAdd,Nat.reduceLeDiff,Nat.reduceBEq,hS.var 2 rfl]
      refine BO (el:=([Dy]:List Span).map C_) hS rfl rfl rfl rfl rfl rfl rfl fun O8 H Mt hS=> ?_;try simp only [W,Nat.reduceAdd]
      refine B6 1 hS rfl Ms rfl (fun _ _=>by simp [aY,aP,ct,du,C_]) (fun _=>rfl) fun H ry hS=> ?_
      refine B6 0 hS rfl Mt rfl (fun _ _=>by simp [aY,aP,ct,du,C_]) (fun _=>rfl) fun H ry hS=> ?_
      try simp only [W,EN]
      refine BP h fun Mu Mw h=> ?_;obtain ⟨DQ,DV⟩:=Mu;try dsimp only at h
      refine Lu Mw hS fun H hS=> ?_;try simp only [W,Nat.reduceAdd,Nat.reduceBEq]
      refine Bo Ei ?_;refine Bh fun O9 Mx=> ?_;refine Bz gC ?_;try simp only [W,Nat.reduceAdd]
      refine Bo Mx ?_;refine Bh fun O_ My=> ?_;obtain ⟨Mz,h,MA⟩:=Option.bind_eq_some_iff.1 h;refine BU gC (fun s H=> ∃EI:Int,Mz=(EI)∧s=(u:: .fz (a1.map (AV.int .u8))::u::u::u::u::u:: .int .i64 Dg::u::u::u:: .int .i64 DP:: .bool DU:: .fz (DQ.map C_):: .bool DV:: .int .i64 EI::u::u::u::u::u::u::u::u::u::u::u::u::u::u::u::u::u::u::u::u::u::u::u::u::u::u::u::u::u::u::u::u::u::u::u::u::u::u::u::u::u::u::u::u::u::u::u::u::u::u::u::u::u::u::u::u::u::u::u::u::u::u::u::u::u::u::u::u::u::u::u::u::u::u::u::u::u::u::u::u::u::u::u::u::u::u::u::u::u::u::u::u::u::u::u::u::u::u::u::u::u::u::u::u::u::u::u::u::u::u::u::u::u::u::u::u::u::u::u::u::u::u::u::u::u::u::u::u::u::u::u::u::u::u::u::u::u::u::u::u::u::u::u::u::u::u::u::u::u::u::u::u::u::u::u::u::u::u::u::u::u::u::u::u::u::[])∧aD H (F)) (fun LB Iy=> ?_) (fun s H hq=> ?_)
      ·refine Bi fun JF F4=> ?_;refine Bh fun Pa MB=> ?_;refine Bz gC ?_;try simp only [W,EE,Nat.reduceAdd]
       refine Bo MB ?_;obtain ⟨MC,h,MD⟩:=Option.bind_eq_some_iff.1 h;refine BU gC (fun s H=> ∃GG:Int,MC=(GG)∧s=(u:: .fz (a1.map (AV.int .u8))::u::u::u::u::u:: .int .i64 Dg::u::u::u:: .int .i64 DP:: .bool DU:: .fz (DQ.map C_):: .bool DV:: .int .i64 GG::u::u::u::u::u::u::u::u::u::u::u::u::u::u::u::u::u::u::u::u::u::u::u::u::u::u::u::u::u::u::u::u::u::u::u::u::u::u::u::u::u::u::u::u::u::u::u::u::u::u::u::u::u::u::u::u::u::u::u::u::u::u::u::u::u::u::u::u::u::u::u::u::u::u::u::u::u::u::u::u::u::u::u::u::u::u::u::u::u::u::u::u::u::u::u::u::u::u::u::u::u::u::u::u::u::u::u::u::u::u::u::u::u::u::u::u::u::u::u::u::u::u::u::u::u::u::u::u::u::u::u::u::u::u::u::u::u::u::u::u::u::u::u::u::u::u::u::u::u::u::u::u::u::u::u::u::u::u::u::u::u::u::u::u::u::[])∧aD H (F)) (fun Lg HE=> ?_) (fun s H hq=> ?_)
       ·refine Bh fun Pb JP=> ?_;refine Bm ?_;simp only [W];refine By h (fun hc h=> ?_) (fun hc h=> ?_)
        ·refine Bz gC ?_;try simp only [W,Nat.reduceAdd]
         refine Bo JP ?_;refine CH (s' :=(u:: .fz (a1.map (AV.int .u8))::u::u::u::u::u:: .int .i64 Dg::u::u::u:: .int .i64 DP:: .bool DU:: .fz (DQ.map C_):: .bool DV:: .int .i64 3::u::u::u::u::u::u::u::u::u::u::u::u::u::u::u::u::u::u::u::u::u::u::u::u::u::u::u::u::u::u::u::u::u::u::u::u::u::u::u::u::u::u::u::u::u::u::u::u::u::u::u::u::u::u::u::u::u::u::u::u::u::u::u::u::u::u::u::u::u::u::u::u::u::u::u::u::u::u::u::u::u::u::u::u::u::u::u::u::u::u::u::u::u::u::u::u::u::u::u::u::u::u::u::u::u::u::u::u::u::u::u::u::u::u::u::u::u::u::u::u::u::u::u::u::u::u::u::u::u::u::u::u::u::u::u::u::u::u::u::u::u::u::u::u::u::u::u::u::u::u::u::u::u::u::u::u::u::u::u::u::u::u::u::u::u::[])) rfl ?_
         exact BV HE ⟨_,(Option.some.inj h).symm,rfl,(hS.B9 2 [] (by decide))⟩
        ·refine Bh fun Pc ME=> ?_;refine Bz gC ?_;try simp only [W,EE,Nat.reduceAdd]
         refine Bo ME ?_;obtain ⟨Iv,h,Iw⟩:=Option.bind_eq_some_iff.1 h;refine BU gC (fun s H=> ∃E0:Int,Iv=(E0)∧s=(u:: .fz (a1.map (AV.int .u8))::u::u::u::u::u:: .int .i64 Dg::u::u::u:: .int .i64 DP:: .bool DU:: .fz (DQ.map C_):: .bool DV:: .int .i64 E0::u::u::u::u::u::u::u::u::u::u::u::u::u::u::u::u::u::u::u::u::u::u::u::u::u::u::u::u::u::u::u::u::u::u::u::u::u::u::u::u::u::u::u::u::u::u::u::u::u::u::u::u::u::u::u::u::u::u::u::u::u::u::u::u::u::u::u::u::u::u::u::u::u::u::u::u::u::u::u::u::u::u::u::u::u::u::u::u::u::u::u::u::u::u::u::u::u::u::u::u::u::u::u::u::u::u::u::u::u::u::u::u::u::u::u::u::u::u::u::u::u::u::u::u::u::u::u::u::u::u::u::u::u::u::u::u::u::u::u::u::u::u::u::u::u::u::u::u::u::u::u::u::u::u::u::u::u::u::u::u::u::u::u::u::u::[])∧aD H (F)) (fun Lh GY=> ?_) (fun s H hq=> ?_)
         ·refine Bh fun Li GZ=> ?_;refine Bm ?_;simp only [W];refine By h (fun hc h=> ?_) (fun hc h=> ?_)
          ·refine Bz gC ?_;try simp only [W,EE,Nat.reduceAdd]
           refine Bo GZ ?_;refine CH (s' :=(u:: .fz (a1.map (AV.int .u8))::u::u::u::u::u:: .int .i64 Dg::u::u::u:: .int .i64 DP:: .bool DU:: .fz (DQ.map C_):: .bool DV:: .int .i64 (IntKind.i64.wrap (Dg+7))::u::u::u::u::u::u::u::u::u::u::u::u::u::u::u::u::u::u::u::u::u::u::u::u::u::u::u::u::u::u::u::u::u::u::u::u::u::u::u::u::u::u::u::u::u::u::u::u::u::u::u::u::u::u::u::u::u::u::u::u::u::u::u::u::u::u::u::u::u::u::u::u::u::u::u::u::u::u::u::u::u::u::u::u::u::u::u::u::u::u::u::u::u::u::u::u::u::u::u::u::u::u::u::u::u::u::u::u::u::u::u::u::u::u::u::u::u::u::u::u::u::u::u::u::u::u::u::u::u::u::u::u::u::u::u::u::u::u::u::u::u::u::u::u::u::u::u::u::u::u::u::u::u::u::u::u::u::u::u::u::u::u::u::u::u::[])) rfl ?_
           exact BV GY ⟨_,(Option.some.inj h).symm,rfl,(hS.B9 2 [] (by decide))⟩
          ·refine Bh fun Pd MF=> ?_;refine Bz gC ?_;try simp only [W,EE,Nat.reduceAdd]
           refine Bo MF ?_;obtain ⟨MH,h,MI⟩:=Option.bind_eq_some_iff.1 h;refine BU gC (fun s H=> ∃EZ:Int,MH=(EZ)∧s=(u:: .fz (a1.map (AV.int .u8))::u::u::u::u::u:: .int .i64 Dg::u::u::u:: .int .i64 DP:: .bool DU:: .fz (DQ.map C_):: .bool DV:: .int .i64 EZ::u::u::u::u::u::u::u::u::u::u::u::u::u::u::u::u::u::u::u::u::u::u::u::u::u::u::u::u::u::u::u::u::u::u::u::u::u::u::u::u::u::u::u::u::u::u::u::u::u::u::u::u::u::u::u::u::u::u::u::u::u::u::u::u::u::u::u::u::u::u::u::u::u::u::u::u::u::u::u::u::u::u::u::u::u::u::u::u::u::u::u::u::u::u::u::u::u::u::u::u::u::u::u::u::u::u::u::u::u::u::u::u::u::u::u::u::u::u::u::u::u::u::u::u::u::u::u::u::u::u::u::u::u::u::u::u::u::u::u::u::u::u::u::u::u::u::u::u::u::u::u::u::u::u::u::u::u::u::u::u::u::u::u::u::u::[])∧aD H (F)) (fun Pe JQ=> ?_) (fun s H hq=> ?_)
           ·refine Bh fun Pf JR=> ?_;refine Bm ?_;simp only [W];refine By h (fun hc h=> ?_) (fun hc h=> ?_)
            ·refine Bz gC ?_;try simp only [W,EE,Nat.reduceAdd]
             refine Bo JR ?_;refine CH (s' :=(u:: .fz (a1.map (AV.int .u8))::u::u::u::u::u:: .int .i64 Dg::u::u::u:: .int .i64 DP:: .bool DU:: .fz (DQ.map C_):: .bool DV:: .int .i64 (IntKind.i64.wrap (Dg+6))::u::u::u::u::u::u::u::u::u::u::u::u::u::u::u::u::u::u::u::u::u::u::u::u::u::u::u::u::u::u::u::u::u::u::u::u::u::u::u::u::u::u::u::u::u::u::u::u::u::u::u::u::u::u::u::u::u::u::u::u::u::u::u::u::u::u::u::u::u::u::u::u::u::u::u::u::u::u::u::u::u::u::u::u::u::u::u::u::u::u::u::u::u::u::u::u::u::u::u::u::u::u::u::u::u::u::u::u::u::u::u::u::u::u::u::u::u::u::u::u::u::u::u::u::u::u::u::u::u::u::u::u::u::u::u::u::u::u::u::u::u::u::u::u::u::u::u::u::u::u::u::u::u::u::u::u::u::u::u::u::u::u::u::u::u::[])) rfl ?_
             exact BV JQ ⟨_,(Option.some.inj h).symm,rfl,(hS.B9 2 [] (by decide))⟩
            ·refine Bh fun Pg MJ=> ?_;refine Bz gC ?_;try simp only [W,EE,Nat.reduceAdd]
             refine Bo MJ ?_;obtain ⟨Iz,h,IA⟩:=Option.bind_eq_some_iff.1 h;refine BU gC (fun s H=> ∃Ec:Int,Iz=(Ec)∧s=(u:: .fz (a1.map (AV.int .u8))::u::u::u::u::u:: .int .i64 Dg::u::u::u:: .int .i64 DP:: .bool DU:: .fz (DQ.map C_):: .bool DV:: .int .i64 Ec::u::u::u::u::u::u::u::u::u::u::u::u::u::u::u::u::u::u::u::u::u::u::u::u::u::u::u::u::u::u::u::u::u::u::u::u::u::u::u::u::u::u::u::u::u::u::u::u::u::u::u::u::u::u::u::u::u::u::u::u::u::u::u::u::u::u::u::u::u::u::u::u::u::u::u::u::u::u::u::u::u::u::u::u::u::u::u::u::u::u::u::u::u::u::u::u::u::u::u::u::u::u::u::u::u::u::u::u::u::u::u::u::u::u::u::u::u::u::u::u::u::u::u::u::u::u::u::u::u::u::u::u::u::u::u::u::u::u::u::u::u::u::u::u::u::u::u::u::u::u::u::u::u::u::u::u::u::u::u::u::u::u::u::u::u::[])∧aD H (F)) (fun LM G0=> ?_) (fun s H hq=> ?_)
             ·refine Bh fun LN G3=> ?_;refine Bm ?_;simp only [W];refine By h (fun hc h=> ?_) (fun hc h=> ?_)
              ·refine Bz gC ?_;try simp only [W,EE,Nat.reduceAdd]
               refine Bo G3 ?_;refine CH (s' :=(u:: .fz (a1.map (AV.int .u8))::u::u::u::u::u:: .int .i64 Dg::u::u::u:: .int .i64 DP:: .bool DU:: .fz (DQ.map C_):: .bool DV:: .int .i64 (IntKind.i64.wrap (Dg-7))::u::u::u::u::u::u::u::u::u::u::u::u::u::u::u::u::u::u::u::u::u::u::u::u::u::u::u::u::u::u::u::u::u::u::u::u::u::u::u::u::u::u::u::u::u::u::u::u::u::u::u::u::u::u::u::u::u::u::u::u::u::u::u::u::u::u::u::u::u::u::u::u::u::u::u::u::u::u::u::u::u::u::u::u::u::u::u::u::u::u::u::u::u::u::u::u::u::u::u::u::u::u::u::u::u::u::u::u::u::u::u::u::u::u::u::u::u::u::u::u::u::u::u::u::u::u::u::u::u::u::u::u::u::u::u::u::u::u::u::u::u::u::u::u::u::u::u::u::u::u::u::u::u::u::u::u::u::u::u::u::u::u::u::u::u::[])) rfl ?_
               exact BV G0 ⟨_,(Option.some.inj h).symm,rfl,(hS.B9 2 [] (by decide))⟩
              ·refine Bz gC ?_;try simp only [W,EE,Nat.reduceAdd]
               refine Bo G3 ?_;refine CH (s' :=(u:: .fz (a1.map (AV.int .u8))::u::u::u::u::u:: .int .i64 Dg::u::u::u:: .int .i64 DP:: .bool DU:: .fz (DQ.map C_):: .bool DV:: .int .i64 (IntKind.i64.wrap (Dg-6))::u::u::u::u::u::u::u::u::u::u::u::u::u::u::u::u::u::u::u::u::u::u::u::u::u::u::u::u::u::u::u::u::u::u::u::u::u::u::u::u::u::u::u::u::u::u::u::u::u::u::u::u::u::u::u::u::u::u::u::u::u::u::u::u::u::u::u::u::u::u::u::u::u::u::u::u::u::u::u::u::u::u::u::u::u::u::u::u::u::u::u::u::u::u::u::u::u::u::u::u::u::u::u::u::u::u::u::u::u::u::u::u::u::u::u::u::u::u::u::u::u::u::u::u::u::u::u::u::u::u::u::u::u::u::u::u::u::u::u::u::u::u::u::u::u::u::u::u::u::u::u::u::u::u::u::u::u::u::u::u::u::u::u::u::u::[])) rfl ?_
               exact BV G0 ⟨_,(Option.some.inj h).symm,rfl,(hS.B9 2 [] (by decide))⟩
             ·obtain ⟨Ec,Dc,rfl,hS⟩:=hq;obtain rfl:=Dc.symm;replace h:=IA;try dsimp only at h
              refine Bo JR ?_;refine CH (s' :=(u:: .fz (a1.map (AV.int .u8))::u::u::u::u::u:: .int .i64 Dg::u::u::u:: .int .i64 DP:: .bool DU:: .fz (DQ.map C_):: .bool DV:: .int .i64 Ec::u::u::u::u::u::u::u::u::u::u::u::u::u::u::u::u::u::u::u::u::u::u::u::u::u::u::u::u::u::u::u::u::u::u::u::u::u::u::u::u::u::u::u::u::u::u::u::u::u::u::u::u::u::u::u::u::u::u::u::u::u::u::u::u::u::u::u::u::u::u::u::u::u::u::u::u::u::u::u::u::u::u::u::u::u::u::u::u::u::u::u::u::u::u::u::u::u::u::u::u::u::u::u::u::u::u::u::u::u::u::u::u::u::u::u::u::u::u::u::u::u::u::u::u::u::u::u::u::u::u::u::u::u::u::u::u::u::u::u::u::u::u::u::u::u::u::u::u::u::u::u::u::u::u::u::u::u::u::u::u::u::u::u::u::u::[])) rfl ?_
              exact BV JQ ⟨_,(Option.some.inj h).symm,rfl,hS⟩
           ·obtain ⟨EZ,Dc,rfl,hS⟩:=hq;obtain rfl:=Dc.symm;replace h:=MI;try dsimp only at h
            refine Bo GZ ?_;refine CH (s' :=(u:: .fz (a1.map (AV.int .u8))::u::u::u::u::u:: .int .i64 Dg::u::u::u:: .int .i64 DP:: .bool DU:: .fz (DQ.map C_):: .bool DV:: .int .i64 EZ::u::u::u::u::u::u::u::u::u::u::u::u::u::u::u::u::u::u::u::u::u::u::u::u::u::u::u::u::u::u::u::u::u::u::u::u::u::u::u::u::u::u::u::u::u::u::u::u::u::u::u::u::u::u::u::u::u::u::u::u::u::u::u::u::u::u::u::u::u::u::u::u::u::u::u::u::u::u::u::u::u::u::u::u::u::u::u::u::u::u::u::u::u::u::u::u::u::u::u::u::u::u::u::u::u::u::u::u::u::u::u::u::u::u::u::u::u::u::u::u::u::u::u::u::u::u::u::u::u::u::u::u::u::u::u::u::u::u::u::u::u::u::u::u::u::u::u::u::u::u::u::u::u::u::u::u::u::u::u::u::u::u::u::u::u::[])) rfl ?_
            exact BV GY ⟨_,(Option.some.inj h).symm,rfl,hS⟩
         ·obtain ⟨E0,Dc,rfl,hS⟩:=hq;obtain rfl:=Dc.symm;replace h:=Iw;try dsimp only at h
          refine Bo JP ?_;refine CH (s' :=(u:: .fz (a1.map (AV.int .u8))::u::u::u::u::u:: .int .i64 Dg::u::u::u:: .int .i64 DP:: .bool DU:: .fz (DQ.map C_):: .bool DV:: .int .i64 E0::u::u::u::u::u::u::u::u::u::u::u::u::u::u::u::u::u::u::u::u::u::u::u::u::u::u::u::u::u::u::u::u::u::u::u::u::u::u::u::u::u::u::u::u::u::u::u::u::u::u::u::u::u::u::u::u::u::u::u::u::u::u::u::u::u::u::u::u::u::u::u::u::u::u::u::u::u::u::u::u::u::u::u::u::u::u::u::u::u::u::u::u::u::u::u::u::u::u::u::u::u::u::u::u::u::u::u::u::u::u::u::u::u::u::u::u::u::u::u::u::u::u::u::u::u::u::u::u::u::u::u::u::u::u::u::u::u::u::u::u::u::u::u::u::u::u::u::u::u::u::u::u::u::u::u::u::u::u::u::u::u::u::u::u::u::[])) rfl ?_
          exact BV HE ⟨_,(Option.some.inj h).symm,rfl,hS⟩
       ·obtain ⟨GG,Dc,rfl,hS⟩:=hq;obtain rfl:=Dc.symm;replace h:=MD;try dsimp only at h
        refine Br F4 ?_;exact BV Iy ⟨_,(Option.some.inj h).symm,rfl,hS⟩
      ·obtain ⟨EI,Dc,rfl,hS⟩:=hq;obtain rfl:=Dc.symm;replace h:=MA;try dsimp only at h
       refine Bo My ?_;refine Bh fun Ph MK=> ?_;obtain ⟨ML,h,MN⟩:=Option.bind_eq_some_iff.1 h;refine BU gC (fun s H=> ∃FW:Bool,ML=(FW)∧s=(u:: .fz (a1.map (AV.int .u8))::u::u::u::u::u:: .int .i64 Dg::u::u::u:: .int .i64 DP:: .bool DU:: .fz (DQ.map C_):: .bool DV:: .int .i64 EI:: .bool FW::u::u::u::u::u::u::u::u::u::u::u::u::u::u::u::u::u::u::u::u::u::u::u::u::u::u::u::u::u::u::u::u::u::u::u::u::u::u::u::u::u::u::u::u::u::u::u::u::u::u::u::u::u::u::u::u::u::u::u::u::u::u::u::u::u::u::u::u::u::u::u::u::u::u::u::u::u::u::u::u::u::u::u::u::u::u::u::u::u::u::u::u::u::u::u::u::u::u::u::u::u::u::u::u::u::u::u::u::u::u::u::u::u::u::u::u::u::u::u::u::u::u::u::u::u::u::u::u::u::u::u::u::u::u::u::u::u::u::u::u::u::u::u::u::u::u::u::u::u::u::u::u::u::u::u::u::u::u::u::u::u::u::u::u::[])∧aD H (F)) (fun Pj HL=> ?_) (fun s H hq=> ?_)
       ·refine Bh fun Pk HM=> ?_;refine Bz gC ?_;try simp only [W,EE,Nat.reduceAdd]
        refine Cb h (fun hc h=> ?_) (fun hc h=> ?_)
        ·try simp only [W,hc]
         refine Bo HM ?_;refine CH (s' :=(u:: .fz (a1.map (AV.int .u8))::u::u::u::u::u:: .int .i64 Dg::u::u::u:: .int .i64 DP:: .bool DU:: .fz (DQ.map C_):: .bool DV:: .int .i64 EI:: .bool true::u::u::u::u::u::u::u::u::u::u::u::u::u::u::u::u::u::u::u::u::u::u::u::u::u::u::u::u::u::u::u::u::u::u::u::u::u::u::u::u::u::u::u::u::u::u::u::u::u::u::u::u::u::u::u::u::u::u::u::u::u::u::u::u::u::u::u::u::u::u::u::u::u::u::u::u::u::u::u::u::u::u::u::u::u::u::u::u::u::u::u::u::u::u::u::u::u::u::u::u::u::u::u::u::u::u::u::u::u::u::u::u::u::u::u::u::u::u::u::u::u::u::u::u::u::u::u::u::u::u::u::u::u::u::u::u::u::u::u::u::u::u::u::u::u::u::u::u::u::u::u::u::u::u::u::u::u::u::u::u::u::u::u::u::[])) rfl ?_
         exact BV HL ⟨_,(Option.some.inj h).symm,rfl,hS⟩
        ·try simp only [W,EE,reduceIte,Bool.false_eq_true,hc]
         refine Cb h (fun hc h=> ?_) (fun hc h=> ?_)
         ·try simp only [W,hc]
          refine Bo HM ?_;refine CH (s' :=(u:: .fz (a1.map (AV.int .u8))::u::u::u::u::u:: .int .i64 Dg::u::u::u:: .int .i64 DP:: .bool DU:: .fz (DQ.map C_):: .bool DV:: .int .i64 EI:: .bool true::u::u::u::u::u::u::u::u::u::u::u::u::u::u::u::u::u::u::u::u::u::u::u::u::u::u::u::u::u::u::u::u::u::u::u::u::u::u::u::u::u::u::u::u::u::u::u::u::u::u::u::u::u::u::u::u::u::u::u::u::u::u::u::u::u::u::u::u::u::u::u::u::u::u::u::u::u::u::u::u::u::u::u::u::u::u::u::u::u::u::u::u::u::u::u::u::u::u::u::u::u::u::u::u::u::u::u::u::u::u::u::u::u::u::u::u::u::u::u::u::u::u::u::u::u::u::u::u::u::u::u::u::u::u::u::u::u::u::u::u::u::u::u::u::u::u::u::u::u::u::u::u::u::u::u::u::u::u::u::u::u::u::u::u::[])) rfl ?_
          exact BV HL ⟨_,(Option.some.inj h).symm,rfl,hS⟩
         ·try simp only [W,EE,reduceIte,Bool.false_eq_true,hc]
          refine Cb h (fun hc h=> ?_) (fun hc h=> ?_)
          ·try simp only [W,hc]
           refine Bo HM ?_;refine CH (s' :=(u:: .fz (a1.map (AV.int .u8))::u::u::u::u::u:: .int .i64 Dg::u::u::u:: .int .i64 DP:: .bool DU:: .fz (DQ.map C_):: .bool DV:: .int .i64 EI:: .bool true::u::u::u::u::u::u::u::u::u::u::u::u::u::u::u::u::u::u::u::u::u::u::u::u::u::u::u::u::u::u::u::u::u::u::u::u::u::u::u::u::u::u::u::u::u::u::u::u::u::u::u::u::u::u::u::u::u::u::u::u::u::u::u::u::u::u::u::u::u::u::u::u::u::u::u::u::u::u::u::u::u::u::u::u::u::u::u::u::u::u::u::u::u::u::u::u::u::u::u::u::u::u::u::u::u::u::u::u::u::u::u::u::u::u::u::u::u::u::u::u::u::u::u::u::u::u::u::u::u::u::u::u::u::u::u::u::u::u::u::u::u::u::u::u::u::u::u::u::u::u::u::u::u::u::u::u::u::u::u::u::u::u::u::u::[])) rfl ?_
           exact BV HL ⟨_,(Option.some.inj h).symm,rfl,hS⟩
          ·try simp only [W,EE,reduceIte,Bool.false_eq_true,hc]
           refine Bo HM ?_;refine CH (s' :=(u:: .fz (a1.map (AV.int .u8))::u::u::u::u::u:: .int .i64 Dg::u::u::u:: .int .i64 DP:: .bool DU:: .fz (DQ.map C_):: .bool DV:: .int .i64 EI:: .bool (Dg==9)::u::u::u::u::u::u::u::u::u::u::u::u::u::u::u::u::u::u::u::u::u::u::u::u::u::u::u::u::u::u::u::u::u::u::u::u::u::u::u::u::u::u::u::u::u::u::u::u::u::u::u::u::u::u::u::u::u::u::u::u::u::u::u::u::u::u::u::u::u::u::u::u::u::u::u::u::u::u::u::u::u::u::u::u::u::u::u::u::u::u::u::u::u::u::u::u::u::u::u::u::u::u::u::u::u::u::u::u::u::u::u::u::u::u::u::u::u::u::u::u::u::u::u::u::u::u::u::u::u::u::u::u::u::u::u::u::u::u::u::u::u::u::u::u::u::u::u::u::u::u::u::u::u::u::u::u::u::u::u::u::u::u::u::u::[])) rfl ?_
           exact BV HL ⟨_,(Option.some.inj h).symm,rfl,hS⟩
       ·obtain ⟨FW,Dc,rfl,hS⟩:=hq;obtain rfl:=Dc.symm;replace h:=MN;try dsimp only at h
        refine Bo MK ?_;refine Bh fun LU HG=> ?_;obtain ⟨MO,h,MP⟩:=Option.bind_eq_some_iff.1 h;refine BU gC (fun s H=> ∃GI:Bool,MO=(GI)∧s=(u:: .fz (a1.map (AV.int .u8))::u::u::u::u::u::u::u::u::u::u::u::u::u::u::u::u::u::u::u::u::u::u::u::u::u::u::u::u::u::u::u::u::u::u::u::u::u::u::u::u::u::u::u::u::u::u::u::u::u::u::u::u::u::u::u::u::u::u::u::u::u::u::u::u::u::u::u::u::u::u::u::u::u::u::u::u::u::u::u::u::u::u::u::u::u::u::u::u::u::u::u::u::u::u::u::u::u::u::u::u::u::u::u::u::u::u::u::u::u::u::u::u::u::u::u::u::u::u::u::u::u::u::u::u::u::u::u::u::u::u::u:: .bool GI::u::u::u::u::u::u::u::u::u::u::u::u::u::u::u::u::u::u::u::u::u::u::u::u::u::u::u::u::u::u::u::u::u::u::u::u::u::u::u::u::u::u::u::u::u::u::u::[])∧aD H (F)) (fun Pl F7=> ?_) (fun s H hq=> ?_)
        ·refine Bh fun Pm F8=> ?_;refine Bz gC ?_;try simp only [W,EE,Nat.reduceAdd]
         refine Cb h (fun hc h=> ?_) (fun hc h=> ?_)
         ·try simp only [W,hc]
          refine Bo F8 ?_;refine CH (s' :=(u:: .fz (a1.map (AV.int .u8))::u::u::u::u::u::u::u::u::u::u::u::u::u::u::u::u::u::u::u::u::u::u::u::u::u::u::u::u::u::u::u::u::u::u::u::u::u::u::u::u::u::u::u::u::u::u::u::u::u::u::u::u::u::u::u::u::u::u::u::u::u::u::u::u::u::u::u::u::u::u::u::u::u::u::u::u::u::u::u::u::u::u::u::u::u::u::u::u::u::u::u::u::u::u::u::u::u::u::u::u::u::u::u::u::u::u::u::u::u::u::u::u::u::u::u::u::u::u::u::u::u::u::u::u::u::u::u::u::u::u::u:: .bool true::u::u::u::u::u::u::u::u::u::u::u::u::u::u::u::u::u::u::u::u::u::u::u::u::u::u::u::u::u::u::u::u::u::u::u::u::u::u::u::u::u::u::u::u::u::u::u::[])) rfl ?_
          exact BV F7 ⟨_,(Option.some.inj h).symm,rfl,hS⟩
         ·try simp only [W,EE,reduceIte,Bool.false_eq_true,hc]
          refine Cb h (fun hc h=> ?_) (fun hc h=> ?_)
          ·try simp only [W,hc]
           refine Bo F8 ?_;refine CH (s' :=(u:: .fz (a1.map (AV.int .u8))::u::u::u::u::u::u::u::u::u::u::u::u::u::u::u::u::u::u::u::u::u::u::u::u::u::u::u::u::u::u::u::u::u::u::u::u::u::u::u::u::u::u::u::u::u::u::u::u::u::u::u::u::u::u::u::u::u::u::u::u::u::u::u::u::u::u::u::u::u::u::u::u::u::u::u::u::u::u::u::u::u::u::u::u::u::u::u::u::u::u::u::u::u::u::u::u::u::u::u::u::u::u::u::u::u::u::u::u::u::u::u::u::u::u::u::u::u::u::u::u::u::u::u::u::u::u::u::u::u::u::u:: .bool true::u::u::u::u::u::u::u::u::u::u::u::u::u::u::u::u::u::u::u::u::u::u::u::u::u::u::u::u::u::u::u::u::u::u::u::u::u::u::u::u::u::u::u::u::u::u::u::[])) rfl ?_
           exact BV F7 ⟨_,(Option.some.inj h).symm,rfl,hS⟩
          ·try simp only [W,reduceIte,Bool.false_eq_true,hc]
           refine Cb h (fun hc h=> ?_) (fun hc h=> ?_)
           ·try simp only [W,hc]
            refine Bo F8 ?_;refine CH (s' :=(u:: .fz (a1.map (AV.int .u8))::u::u::u::u::u::u::u::u::u::u::u::u::u::u::u::u::u::u::u::u::u::u::u::u::u::u::u::u::u::u::u::u::u::u::u::u::u::u::u::u::u::u::u::u::u::u::u::u::u::u::u::u::u::u::u::u::u::u::u::u::u::u::u::u::u::u::u::u::u::u::u::u::u::u::u::u::u::u::u::u::u::u::u::u::u::u::u::u::u::u::u::u::u::u::u::u::u::u::u::u::u::u::u::u::u::u::u::u::u::u::u::u::u::u::u::u::u::u::u::u::u::u::u::u::u::u::u::u::u::u::u:: .bool true::u::u::u::u::u::u::u::u::u::u::u::u::u::u::u::u::u::u::u::u::u::u::u::u::u::u::u::u::u::u::u::u::u::u::u::u::u::u::u::u::u::u::u::u::u::u::u::[])) rfl ?_
            exact BV F7 ⟨_,(Option.some.inj h).symm,rfl,hS⟩
           ·try simp only [W,EE,reduceIte,Bool.false_eq_true,hc]
            refine Cb h (fun hc h=> ?_) (fun hc h=> ?_)
            ·try simp only [W,hc]
             refine Bo F8 ?_;refine CH (s' :=(u:: .fz (a1.map (AV.int .u8))::u::u::u::u::u::u::u::u::u::u::u::u::u::u::u::u::u::u::u::u::u::u::u::u::u::u::u::u::u::u::u::u::u::u::u::u::u::u::u::u::u::u::u::u::u::u::u::u::u::u::u::u::u::u::u::u::u::u::u::u::u::u::u::u::u::u::u::u::u::u::u::u::u::u::u::u::u::u::u::u::u::u::u::u::u::u::u::u::u::u::u::u::u::u::u::u::u::u::u::u::u::u::u::u::u::u::u::u::u::u::u::u::u::u::u::u::u::u::u::u::u::u::u::u::u::u::u::u::u::u::u:: .bool true::u::u::u::u::u::u::u::u::u::u::u::u::u::u::u::u::u::u::u::u::u::u::u::u::u::u::u::u::u::u::u::u::u::u::u::u::u::u::u::u::u::u::u::u::u::u::u::[])) rfl ?_
             exact BV F7 ⟨_,(Option.some.inj h).symm,rfl,hS⟩
            ·try simp only [W,reduceIte,Bool.false_eq_true,hc]
             refine Cb h (fun hc h=> ?_) (fun hc h=> ?_)
             ·try simp only [W,hc]
              refine Bo F8 ?_;refine CH (s' :=(u:: .fz (a1.map (AV.int .u8))::u::u::u::u::u::u::u::u::u::u::u::u::u::u::u::u::u::u::u::u::u::u::u::u::u::u::u::u::u::u::u::u::u::u::u::u::u::u::u::u::u::u::u::u::u::u::u::u::u::u::u::u::u::u::u::u::u::u::u::u::u::u::u::u::u::u::u::u::u::u::u::u::u::u::u::u::u::u::u::u::u::u::u::u::u::u::u::u::u::u::u::u::u::u::u::u::u::u::u::u::u::u::u::u::u::u::u::u::u::u::u::u::u::u::u::u::u::u::u::u::u::u::u::u::u::u::u::u::u::u::u:: .bool true::u::u::u::u::u::u::u::u::u::u::u::u::u::u::u::u::u::u::u::u::u::u::u::u::u::u::u::u::u::u::u::u::u::u::u::u::u::u::u::u::u::u::u::u::u::u::u::[])) rfl ?_
              exact BV F7 ⟨_,(Option.some.inj h).symm,rfl,hS⟩
             ·try simp only [W,EE,hc]
              rw [BE _ _ _ _ (h:=rfl) rfl,sG];try simp only [W,reduceIte,Bool.false_eq_true]
              refine Bo F8 ?_;refine CH (s' :=(u:: .fz (a1.map (AV.int .u8))::u::u::u::u::u::u::u::u::u::u::u::u::u::u::u::u::u::u::u::u::u::u::u::u::u::u::u::u::u::u::u::u::u::u::u::u::u::u::u::u::u::u::u::u::u::u::u::u::u::u::u::u::u::u::u::u::u::u::u::u::u::u::u::u::u::u::u::u::u::u::u::u::u::u::u::u::u::u::u::u::u::u::u::u::u::u::u::u::u::u::u::u::u::u::u::u::u::u::u::u::u::u::u::u::u::u::u::u::u::u::u::u::u::u::u::u::u::u::u::u::u::u::u::u::u::u::u::u::u::u::u:: .bool (!(((DQ.length:Int)==0)==FW))::u::u::u::u::u::u::u::u::u::u::u::u::u::u::u::u::u::u::u::u::u::u::u::u::u::u::u::u::u::u::u::u::u::u::u::u::u::u::u::u::u::u::u::u::u::u::u::[])) rfl ?_
              exact BV F7 ⟨_,(Option.some.inj h).symm,rfl,hS⟩
        ·obtain ⟨GI,Dc,rfl,hS⟩:=hq;obtain rfl:=Dc.symm;replace h:=MP;try dsimp only at h
         refine Bo HG ?_;refine Bm ?_;simp only [W];refine By h (fun hc h=> ?_) (fun hc h=> ?_)
         ·refine Bh fun L3 IB=> ?_;refine Bz gC ?_;try simp only [W,Nat.reduceAdd]
          refine Bo IB ?_;refine Bk ?_;refine Bp Eo ?_;try obtain rfl:=Option.some.inj h
          obtain rfl:=Option.some.inj HA;have h:(some false:Option (Bool))=some false:=rfl;refine BW Ev ?_;refine Bp EC ?_;refine Bw Da rfl ?_;try obtain rfl:=Option.some.inj h
          exact hP _ hS
         ·refine Bj ?_;refine Bo Eo ?_;refine CH (s' :=(u:: .fz (a1.map (AV.int .u8))::u::u::u::u::u::u::u::u::u::u::u::u::u::u::u::u::u::u::u::u::u::u::u::u::u::u::u::u::u::u::u::u::u::u::u::u::u::u::u::u::u::u::u::u::u::u::u::u::u::u::u::u::u::u::u::u::u::u::u::u::u::u::u::u::u::u::u::u::u::u::u::u::u::u::u::u::u::u::u::u::u::u::u::u::u::u::u::u::u::u::u::u::u::u::u::u::u::u::u::u::u::u::u::u::u::u::u::u::u::u::u::u::u::u::u::u::u::u::u::u::u::u::u::u::u::u::u::u::u::u::u::u::u::u::u::u::u::u::u::u::u::u::u::u::u::u::u::u::u::u::u::u::u::u::u::u::u::u::u::u::u::u::u::u::u::u::u::u::u::u::u::u::u::u::u::u::u::u::u::[])) rfl ?_
          exact BV Ev ⟨(Option.some.inj h).symm,rfl,hS⟩
     ·refine Bj ?_;refine Bo Eo ?_;refine CH (s' :=(u:: .fz (a1.map (AV.int .u8))::u::u::u::u::u::u::u::u::u::u::u::u::u::u::u::u::u::u::u::u::u::u::u::u::u::u::u::u::u::u::u::u::u::u::u::u::u::u::u::u::u::u::u::u::u::u::u::u::u::u::u::u::u::u::u::u::u::u::u::u::u::u::u::u::u::u::u::u::u::u::u::u::u::u::u::u::u::u::u::u::u::u::u::u::u::u::u::u::u::u::u::u::u::u::u::u::u::u::u::u::u::u::u::u::u::u::u::u::u::u::u::u::u::u::u::u::u::u::u::u::u::u::u::u::u::u::u::u::u::u::u::u::u::u::u::u::u::u::u::u::u::u::u::u::u::u::u::u::u::u::u::u::u::u::u::u::u::u::u::u::u::u::u::u::u::u::u::u::u::u::u::u::u::u::u::u::u::u::u::[])) rfl ?_
      exact BV Ev ⟨(Option.some.inj h).symm,rfl,(hS.B9 2 [] (by decide))⟩
    ·obtain ⟨rfl,rfl,hS⟩:=hq;replace h:=HA;try dsimp only at h
     refine Bo EC ?_;refine Bh fun Pn MQ=> ?_;refine Bz gC ?_;try simp only [W,Nat.reduceAdd]
     refine BP h fun MR MS h=> ?_;obtain ⟨GJ,GK⟩:=MR;try dsimp only at h
     refine L4 MS hS fun Po JS H hS=> ?_;try simp only [W]
     refine Bo MQ ?_;refine Bh fun Pp MT=> ?_;refine Bz gC ?_;try simp only [W,Nat.reduceAdd]
     refine Cw (cb:=[[.sc],[.sc]]) (ys:=[.fz (GJ.map C_),.int .i64 GK]) h rfl (Co (Cm hS 0 rfl JS (fun _=>rfl)) (Co rfl Cn)) fun IE MU h=>⟨.aB [.bool IE.1,.bool IE.2],Mc MU (aD.nil _) fun H hS=>Cs rfl (Cq rfl (Cq rfl (Cp rfl))),⟨rfl,rfl,fun _=>rfl⟩,?_⟩;obtain ⟨Hk,Hl⟩:=IE;try dsimp only at h
     try simp only [W]
     refine Bo MT ?_;refine Bh fun Pq MV=> ?_;refine Bz gC ?_;try simp only [W,Nat.reduceAdd]
     refine Cw (cb:=[[.sc],[.sc]]) (ys:=[.fz (GJ.map C_),.int .i64 GK]) h rfl (Co (Cm hS 0 rfl JS (fun _=>rfl)) (Co rfl Cn)) fun IF MW h=>⟨.aB [.bool IF.1,.bool IF.2],Mh MW (aD.nil _) fun H hS=>Cs rfl (Cq rfl (Cq rfl (Cp rfl))),⟨rfl,rfl,fun _=>rfl⟩,?_⟩;obtain ⟨Hm,Hn⟩:=IF;try dsimp only at h
     try simp only [W]
     refine Bo MV ?_;refine Bh fun Pr MX=> ?_;refine Bz gC ?_;try simp only [W,Nat.reduceAdd]
     refine BP h fun E1 MY h=> ?_;refine Mj MY hS fun v109 JT H hS=> ?_;try simp only [W]
     refine Bo MX ?_;refine Bh fun Ps MZ=> ?_;refine Bz gC ?_;try simp only [W,Nat.reduceAdd]
     refine Cw (cb:=[[.sc],[.sc]]) (ys:=[.fz (E1.map C_)]) h rfl (Co (Cm hS 0 rfl JT (fun _=>rfl)) Cn) fun IG M0 h=>⟨.aB [.int .i64 IG.1,.bool IG.2],Ml M0 (aD.nil _) fun H hS=>Cs rfl (Cq rfl (Cq rfl (Cp rfl))),⟨rfl,rfl,fun _=>rfl⟩,?_⟩;obtain ⟨Ho,Hp⟩:=IG;try dsimp only at h
     try simp only [W]
     refine Bo MZ ?_;refine Bh fun Pt M1=> ?_;refine Bz gC ?_;try simp only [W,Nat.reduceAdd]
     refine Cw (cb:=[[.sc],[.sc]]) (ys:=[.fz (E1.map C_)]) h rfl (Co (Cm hS 0 rfl JT (fun _=>rfl)) Cn) fun IH M2 h=>⟨.aB [.int .i64 IH.1,.bool IH.2],Mn M2 (aD.nil _) fun H hS=>Cs rfl (Cq rfl (Cq rfl (Cp rfl))),⟨rfl,rfl,fun _=>rfl⟩,?_⟩;obtain ⟨Hq,Hr⟩:=IH;try dsimp only at h
     try simp only [W]
     refine Bo M1 ?_;refine Bh fun Pu HN=> ?_;refine Bz gC ?_;try simp only [W,EE,Nat.reduceAdd]
     rw [BD _ _ _ _ (h:=rfl) rfl,sG];try simp only [W]
     refine Cb h (fun hc h=> ?_) (fun hc h=> ?_)
     ·try simp only [W,EE,hc]
      rw [BD _ _ _ _ (h:=rfl) rfl,sG];try simp only [W,reduceIte]
      refine Cb h (fun hc h=> ?_) (fun hc h=> ?_)
      ·try simp only [W,EE,hc]
       rw [BD _ _ _ _ (h:=rfl) rfl,sG];try simp only [W,reduceIte]
       refine Cb h (fun hc h=> ?_) (fun hc h=> ?_)
       ·try simp only [W,EE,reduceIte,hc]
        refine Bo HN ?_;refine Bk ?_;refine Bw Da rfl ?_;try obtain rfl:=Option.some.inj h
        exact hP _ (hS.B9 2 [] (by decide))
       ·try simp only [W,hc]
        refine Bo HN ?_;refine Bk ?_;refine Bw Da rfl ?_;try obtain rfl:=Option.some.inj h
        exact hP _ (hS.B9 2 [] (by decide))
      ·try simp only [W,hc]
       refine Bo HN ?_;refine Bk ?_;refine Bw Da rfl ?_;try obtain rfl:=Option.some.inj h
       exact hP _ (hS.B9 2 [] (by decide))
     ·try simp only [W,hc]
      refine Bo HN ?_;refine Bk ?_;refine Bw Da rfl ?_;try obtain rfl:=Option.some.inj h
      exact hP _ (hS.B9 2 [] (by decide))
end Go.EG
